import GoSem.Dispatch
import Derived.Calls
import Derived.IntWalk
namespace Go.V
inductive Ty where
  | int (k : IntKind) | bool | str | unit
  | pair (a b : Ty)
  | sl (o : Bool) (e : TypeId) (r : Ty)
  deriving DecidableEq
@[reducible] def Ty.D : Ty → Type
  | .int _ => Int
  | .bool => Bool
  | .str => List UInt8
  | .unit => Unit
  | .pair a b => a.D × b.D
  | .sl _ _ r => List r.D
def Ty.size : Ty → Nat
  | .unit => 0
  | .pair a b => a.size + b.size
  | _ => 1
def Ty.zero : (t : Ty) → t.D
  | .int _ => (0 : Int)
  | .bool => false
  | .str => ([] : List UInt8)
  | .unit => ()
  | .pair a b => (a.zero, b.zero)
  | .sl _ _ _ => []
def Ty.ro : Ty → Bool
  | .pair a b => a.ro && b.ro
  | .sl o _ _ => !o
  | _ => true
def Ty.deep : Ty → Bool
  | .pair a b => a.deep && b.deep
  | .sl o _ r => o && r.deep
  | _ => true
def Ty.frz : Ty → Ty
  | .pair a b => .pair a.frz b.frz
  | .sl _ e r => .sl false e r.frz
  | t => t
theorem Ty.frz_D : (t : Ty) → t.frz.D = t.D
  | .int _ | .bool | .str | .unit => rfl
  | .pair a b => by
    have h1 := frz_D a; have h2 := frz_D b
    show (a.frz.D × b.frz.D) = (a.D × b.D)
    rw [h1, h2]
  | .sl _ _ r => by
    have h := frz_D r
    show List r.frz.D = List r.D
    rw [h]
def toFrz (t : Ty) (x : t.D) : t.frz.D := cast (Ty.frz_D t).symm x
def cellAt : (t : Ty) → t.D → Nat → Option ((u : Ty) × u.D)
  | .pair a b, (x, y), j => if j < a.size then cellAt a x j else cellAt b y (j - a.size)
  | .unit, _, _ => none
  | t, x, 0 => some ⟨t, x⟩
  | _, _, _ + 1 => none
def setCell : (t : Ty) → t.D → Nat → (u : Ty) → u.D → Option t.D
  | .pair a b, (x, y), j, u, z =>
    if j < a.size then (setCell a x j u z).map fun x' => (x', y) else (setCell b y (j - a.size) u z).map fun y' => (x, y')
  | .unit, _, _, _, _ => none
  | t, _, 0, u, z => if h : u = t then some (h ▸ z) else none
  | _, _, _ + 1, _, _ => none
abbrev Steps := List (Nat × Nat)
structure Own where
  e : TypeId
  r : Ty
  xs : List r.D
inductive Leaf where
  | v (t : Ty) (x : t.D)
  | vw (k : Nat) (st : Steps) (win : Option (Nat × Nat))
  | qn (e : Bool)
  | nil
  | no
inductive S1 where
  | one (l : Leaf)
  | ag (ls : List Leaf)
  | pl (k off : Nat)
  | el (k : Nat) (st : Steps)
  | rp (t : Ty) (x : t.D) (off : Nat)
  | fv (f : FuncId) (cs : List (Nat × Nat))
inductive SV where
  | s (x : S1)
  | tu (xs : List S1)
  | un
  | no
structure St where
  sl : Nat → SV
  ms : Nat → Option Nat
  mc : Nat → Nat → Leaf
  ow : Nat → Option Own
inductive Kl where
  | all (k : Nat) | deep (k : Nat) | m (k : Nat)
def Kl.okV : Kl → Nat → Steps → Bool
  | .all k, k', _ => !(k' == k)
  | .deep k, k', st => !(k' == k) || st.isEmpty
  | .m _, _, _ => true
def Kl.okE : Kl → Nat → Steps → Bool
  | .all k, k', _ => !(k' == k)
  | .deep k, k', st => !(k' == k) || decide (st.length ≤ 1)
  | .m _, _, _ => true
def Kl.okM : Kl → Nat → Bool
  | .m k, k' => !(k' == k)
  | _, _ => true
def Leaf.kp (c : List Kl) : Leaf → Leaf
  | .vw k st win => if c.all (fun x => x.okV k st) then .vw k st win else .no
  | l => l
def S1.kp (c : List Kl) : S1 → S1
  | .one l => .one (l.kp c)
  | .ag ls => .ag (ls.map (Leaf.kp c))
  | .pl k off => if c.all (fun x => x.okM k) then .pl k off else .one .no
  | .el k st => if c.all (fun x => x.okE k st) then .el k st else .one .no
  | .rp t x off => .rp t x off
  | .fv f cs => if c.all (fun x => cs.all fun p => x.okM p.1) then .fv f cs else .one .no
def SV.kp (c : List Kl) : SV → SV
  | .s x => .s (x.kp c)
  | .tu xs => .tu (xs.map (S1.kp c))
  | .un => .un
  | .no => .no
def St.kp (c : List Kl) (S : St) : St :=
  match c with
  | [] => S
  | c => ⟨fun i => (S.sl i).kp c, S.ms, fun k i => (S.mc k i).kp c, S.ow⟩
inductive U where
  | ow (k : Nat) (o : Option Own)
  | mc (k off : Nat) (l : Leaf)
  | ms (k : Nat) (row : List Leaf)
def St.up (S : St) : U → St
  | .ow k o => ⟨S.sl, S.ms, S.mc, fun i => if i = k then o else S.ow i⟩
  | .mc k off l => ⟨S.sl, S.ms, fun i j => if i = k then (if j = off then l else S.mc i j) else S.mc i j, S.ow⟩
  | .ms k row => ⟨S.sl, fun i => if i = k then some row.length else S.ms i, fun i j => if i = k then row.getD j .no else S.mc i j, S.ow⟩
def St.ups (S : St) : List U → St
  | [] => S
  | u :: us => (S.up u).ups us
def St.put (S : St) (d : Nat) (x : SV) : St := ⟨fun i => if i = d then x else S.sl i, S.ms, S.mc, S.ow⟩
def St.putO (S : St) (d : Option Nat) (x : SV) : St := match d with | some d => S.put d x | none => S
structure Out where
  x : SV
  ks : List Kl
  us : List U
def St.app (S : St) (d : Option Nat) (o : Out) : St := ((S.kp o.ks).ups o.us).putO d o.x
inductive Tr (α : Type) : Type 1 where
  | ret (a : α)
  | fail
  | br (c : Bool) (t e : Tr α)
  | get (β : Type) (o : Option β) (f : β → Tr α)
  | alt (β γ : Type) (s : β ⊕ γ) (f : β → Tr α) (g : γ → Tr α)
  | rdO (k : Nat) (f : Option Own → Tr α)
  | rdC (k off : Nat) (f : Leaf → Tr α)
  | rdM (k : Nat) (f : Option Nat → Tr α)
def Tr.bind {α β : Type} : Tr α → (α → Tr β) → Tr β
  | .ret a, f => f a
  | .fail, _ => .fail
  | .br c t e, f => .br c (t.bind f) (e.bind f)
  | .get γ o g, f => .get γ o fun b => (g b).bind f
  | .alt γ δ s g h, f => .alt γ δ s (fun b => (g b).bind f) (fun b => (h b).bind f)
  | .rdO k g, f => .rdO k fun b => (g b).bind f
  | .rdC k off g, f => .rdC k off fun b => (g b).bind f
  | .rdM k g, f => .rdM k fun b => (g b).bind f
inductive Lg where
  | o (k : Nat) | c (k off : Nat) (l : Leaf) | m (k : Nat)
def Tr.at {α : Type} (S : St) : Tr α → List Lg → Tr (α × List Lg)
  | .ret a, g => .ret (a, g)
  | .fail, _ => .fail
  | .br c t e, g => .br c (t.at S g) (e.at S g)
  | .get γ o f, g => .get γ o fun b => (f b).at S g
  | .alt γ δ s f h, g => .alt γ δ s (fun b => (f b).at S g) (fun b => (h b).at S g)
  | .rdO k f, g => (f (S.ow k)).at S (.o k :: g)
  | .rdC k off f, g => (f (S.mc k off)).at S (.c k off (S.mc k off) :: g)
  | .rdM k f, g => (f (S.ms k)).at S (.m k :: g)
def Tr.run {α : Type} : Tr α → Option α
  | .ret a => some a
  | .fail => none
  | .br c t e => if c = true then t.run else e.run
  | .get _ o f => match o with
    | some b => (f b).run
    | none => none
  | .alt _ _ s f g => match s with
    | .inl b => (f b).run
    | .inr b => (g b).run
  | .rdO .. | .rdC .. | .rdM .. => none
abbrev Tr.iff {α : Type} (c : Bool) (t : Tr α) : Tr α := .br c t .fail
abbrev Tr.opt {α : Type} (o : Option α) : Tr α := match o with | some a => .ret a | none => .fail
inductive TI where
  | cell (t : Ty)
  | slice (e : TypeId) (ts : List Ty) (bytes : Nat)
  | struct (fs : List (Nat × Nat × Bool)) (row : List Ty) (eq : Bool)
  | ptr (e : TypeId)
  | other
def rowTy : List Ty → Ty
  | [] => .unit
  | [t] => t
  | t :: u :: ts => .pair t (rowTy (u :: ts))
def TI.cells : TI → Option (List Ty)
  | .cell t => some [t]
  | .slice e ts _ => some [.sl true e (rowTy ts)]
  | .struct _ row _ => some row
  | _ => none
def TI.isAgg : TI → Bool
  | .struct .. => true
  | _ => false
def getT : (t : Ty) → t.D → Steps → Tr ((u : Ty) × u.D)
  | t, x, [] => .ret ⟨t, x⟩
  | .sl true _ r, xs, (i, j) :: ps => .get r.D ((xs : List r.D)[i]?) fun row => match cellAt r row j with
      | some c => getT c.1 c.2 ps
      | none => .fail
  | _, _, _ :: _ => .fail
def setT : (t : Ty) → t.D → Steps → (u : Ty) → u.D → Tr t.D
  | t, _, [], u, z => if h : u = t then .ret (h ▸ z) else .fail
  | .sl true _ r, xs, (i, j) :: ps, u, z => .get r.D ((xs : List r.D)[i]?) fun row => match cellAt r row j with
      | some c => (setT c.1 c.2 ps u z).bind fun y => match setCell r row j c.1 y with
        | some row' => .ret ((xs : List r.D).set i row')
        | none => .fail
      | none => .fail
  | _, _, _ :: _, _, _ => .fail
def viewT (k : Nat) (st : Steps) (win : Option (Nat × Nat)) : Tr Own :=
  .rdO k fun o => match o with
    | some o => (getT (.sl true o.e o.r) o.xs st).bind fun c => match c with
      | ⟨.sl true e r, ys⟩ => match win with
        | none => .ret ⟨e, r, ys⟩
        | some (lo, n) => .ret ⟨e, r, ((ys : List r.D).drop lo).take n⟩
      | _ => .fail
    | none => .fail
def leafOf (k : Nat) (st : Steps) : (t : Ty) → t.D → Leaf
  | .sl true _ _, _ => .vw k st none
  | t, x => .v t x
def bump : Steps → Nat → Steps
  | [], _ => []
  | [(i, j)], n => [(i, j + n)]
  | p :: q :: ps, n => p :: bump (q :: ps) n
def ldCell : S1 → Nat → Tr Leaf
  | .pl k off, n => .rdM k fun m => match m with
    | some m => if off + n < m then .rdC k (off + n) fun l => match l with
      | .no => .fail
      | l => .ret l else .fail
    | none => .fail
  | .el k st, n => .rdO k fun o => match o with
    | some o => (getT (.sl true o.e o.r) o.xs (bump st n)).bind fun c => .ret (leafOf k (bump st n) c.1 c.2)
    | none => .fail
  | .rp t x off, n => match cellAt t x (off + n) with
    | some c => .ret (.v c.1 c.2)
    | none => .fail
  | _, _ => .fail
def ldCells (a : S1) : Nat → Nat → Tr (List Leaf)
  | 0, _ => .ret []
  | n + 1, i => (ldCell a i).bind fun l => (ldCells a n (i + 1)).bind fun ls => .ret (l :: ls)
def absorb (t : Ty) : Leaf → Tr (t.D × List Nat)
  | .v u x => if h : u = t then .ret (h ▸ x, []) else .fail
  | .nil => match t with
    | .sl _ _ _ => .ret ([], [])
    | _ => .fail
  | .vw k [] win => (viewT k [] win).bind fun o => if h : Ty.sl true o.e o.r = t then .ret (h ▸ o.xs, [k]) else .fail
  | _ => .fail
def absorbRow : (ts : List Ty) → List Leaf → Tr ((rowTy ts).D × List Nat)
  | [], [] => .ret ((), [])
  | [t], [l] => absorb t l
  | t :: u :: ts, l :: ls => (absorb t l).bind fun x => (absorbRow (u :: ts) ls).bind fun y => .ret ((x.1, y.1), x.2 ++ y.2)
  | _, _ => .fail
def gone (ks : List Nat) : List Kl := ks.map .all
def goneU (ks : List Nat) : List U := ks.map fun k => .ow k none
def unlike : List Nat → Bool
  | [] => true
  | k :: ks => !(ks.contains k) && unlike ks
def stEls (o : Own) (st : Steps) : List Leaf → Nat → Tr (Own × List Nat)
  | [], _ => .ret (o, [])
  | l :: ls, n => (getT (.sl true o.e o.r) o.xs (bump st n)).bind fun c => (absorb c.1 l).bind fun z =>
      (setT (.sl true o.e o.r) o.xs (bump st n) c.1 z.1).bind fun ys => (stEls ⟨o.e, o.r, ys⟩ st ls (n + 1)).bind fun r => .ret (r.1, z.2 ++ r.2)
def stPls (k : Nat) : List Leaf → Nat → List U
  | [], _ => []
  | l :: ls, n => .mc k n l :: stPls k ls (n + 1)
def stSelf (k : Nat) (st : Steps) (lo n : Nat) : Tr (List Kl × List U) := .rdO k fun o => match o with
  | some o => (getT (.sl true o.e o.r) o.xs st).bind fun c => match c with
    | ⟨.sl true e r, ys⟩ => (setT (.sl true o.e o.r) o.xs st (.sl true e r) ((List.drop lo ys).take n)).bind fun zs => .ret ([.deep k], [.ow k (some ⟨o.e, o.r, zs⟩)])
    | _ => .fail
  | none => .fail
def selfOf (k : Nat) (st : Steps) : List Leaf → Option (Nat × Nat)
  | [.vw k' st' (some w)] => if k' = k ∧ st' = st then some w else none
  | _ => none
def stCells : S1 → List Leaf → Tr (List Kl × List U)
  | .pl k off, ls => .rdM k fun m => match m with
      | some m => if off + ls.length ≤ m then .ret ([], stPls k ls off) else .fail
      | none => .fail
  | .el k st, ls => match selfOf k st ls with
    | some w => stSelf k st w.1 w.2
    | none => .rdO k fun o => match o with
      | some o => (stEls o st ls 0).bind fun r => if r.2.contains k || !unlike r.2 then .fail else
          .ret (.deep k :: gone r.2, .ow k (some r.1) :: goneU r.2)
      | none => .fail
  | _, _ => .fail
end Go.V

namespace Go.V
abbrev ALeaf := (t : Ty) × t.D
inductive A1 where
  | one (l : ALeaf)
  | ag (ls : List ALeaf)
  | pl (m off : Nat)
  | rp (t : Ty) (x : t.D) (off : Nat)
  | fv (f : FuncId) (cs : List (Nat × Nat))
structure Res where
  val : List A1
  rows : List (List ALeaf)
  lent : List ((Nat × Nat) × ALeaf)
structure Env where
  ti : TypeId → TI
  mv : FuncId → List Nat
  fr : FuncId → List (List Ty)
  fx : List Nat
  ca : FuncId → List A1 → List (List ALeaf) → Tr Res
def constSV : Value → SV
  | .int k n => .s (.one (.v (.int k) n))
  | .bool b => .s (.one (.v .bool b))
  | .string s => .s (.one (.v .str s.data.toList))
  | .slice none 0 0 => .s (.one .nil)
  | _ => .no
def opnd (S : St) : Operand → SV
  | .tmp t => S.sl t
  | .const v => constSV v
  | .func f => .s (.fv f [])
  | _ => .no
def b2 (b : Bool) : Leaf := .v .bool b
def vbin (op : BinOp) : Leaf → Leaf → Tr Leaf
  | .v (.int k) a, .v (.int k') b =>
    match op with
    | .shl => .iff (decide ((0 : Int) ≤ b)) (.ret (.v (.int k) (k.wrap ((a : Int) * 2 ^ (min (Int.toNat b) k.bits)))))
    | .shr => .iff (decide ((0 : Int) ≤ b)) (.ret (.v (.int k) (Int.fdiv a (2 ^ (min (Int.toNat b) k.bits)))))
    | op => if k = k' then match op with
      | .add => .ret (.v (.int k) (k.wrap ((a : Int) + b)))
      | .sub => .ret (.v (.int k) (k.wrap ((a : Int) - b)))
      | .mul => .ret (.v (.int k) (k.wrap ((a : Int) * b)))
      | .quo => .iff (decide (¬ (b : Int) = 0)) (.ret (.v (.int k) (k.wrap (Int.tdiv a b))))
      | .rem => .iff (decide (¬ (b : Int) = 0)) (.ret (.v (.int k) (Int.tmod a b)))
      | .and => .ret (.v (.int k) (k.wrap ((BitVec.ofInt k.bits a &&& BitVec.ofInt k.bits b).toNat : Int)))
      | .or => .ret (.v (.int k) (k.wrap ((BitVec.ofInt k.bits a ||| BitVec.ofInt k.bits b).toNat : Int)))
      | .xor => .ret (.v (.int k) (k.wrap ((BitVec.ofInt k.bits a ^^^ BitVec.ofInt k.bits b).toNat : Int)))
      | .andNot => .ret (.v (.int k) (k.wrap ((BitVec.ofInt k.bits a &&& ~~~ BitVec.ofInt k.bits b).toNat : Int)))
      | .eql => .ret (b2 (decide ((a : Int) = b)))
      | .neq => .ret (b2 (decide (¬ (a : Int) = b)))
      | .lss => .ret (b2 (decide ((a : Int) < b)))
      | .leq => .ret (b2 (decide ((a : Int) ≤ b)))
      | .gtr => .ret (b2 (decide ((b : Int) < a)))
      | .geq => .ret (b2 (decide ((b : Int) ≤ a)))
      | _ => .fail
      else .fail
  | .v .bool a, .v .bool b =>
    match op with
    | .eql => .ret (b2 ((a : Bool) == b))
    | .neq => .ret (b2 ((a : Bool) != b))
    | _ => .fail
  | .v .str a, .v .str b =>
    match op with
    | .add => .iff (decide (((a : List UInt8).length + (b : List UInt8).length : Nat) ≤ 9223372036854775807)) (.ret (.v .str ((a : List UInt8) ++ b)))
    | .eql => .ret (b2 ((a : List UInt8) == b))
    | .neq => .ret (b2 (!((a : List UInt8) == b)))
    | .lss => .ret (b2 (Op.bytesLess a b))
    | .leq => .ret (b2 (Op.bytesLess a b || ((a : List UInt8) == b)))
    | .gtr => .ret (b2 (!(Op.bytesLess a b || ((a : List UInt8) == b))))
    | .geq => .ret (b2 (!(Op.bytesLess a b)))
    | _ => .fail
  | _, _ => .fail
def nilT : Leaf → Tr Leaf
  | .nil => .ret (b2 true)
  | .v (.sl _ _ _) xs => .ret (.qn (List.isEmpty xs))
  | .vw k st win => (viewT k st win).bind fun o => .ret (.qn (List.isEmpty o.xs))
  | _ => .fail
def aggEq : List Ty → List Leaf → List Leaf → Option Bool
  | [], [], [] => some true
  | .int _ :: ts, .v (.int k) a :: x, .v (.int k') b :: y => if k = k' then (aggEq ts x y).map (fun r => decide ((a : Int) = b) && r) else none
  | .bool :: ts, .v .bool a :: x, .v .bool b :: y => (aggEq ts x y).map (fun r => ((a : Bool) == b) && r)
  | .str :: ts, .v .str a :: x, .v .str b :: y => (aggEq ts x y).map (fun r => ((a : List UInt8) == b) && r)
  | _, _, _ => none
def vun (op : UnOp) : Leaf → Tr Leaf
  | .v (.int k) a => match op with
    | .neg => .ret (.v (.int k) (k.wrap (0 - (a : Int))))
    | .xor => .ret (.v (.int k) (k.wrap ((BitVec.ofInt k.bits (if k.signed then -1 else k.max) ^^^ BitVec.ofInt k.bits a).toNat : Int)))
    | _ => .fail
  | .v .bool b => match op with
    | .not => .ret (.v .bool (!(b : Bool)))
    | _ => .fail
  | _ => .fail
def bytesOf (s : List UInt8) : List Int := s.map fun b => (b.toNat : Int)
def textOf (xs : List Int) : List UInt8 := xs.map fun n => UInt8.ofNat n.toNat
def dataT : Leaf → Tr Own
  | .v (.sl _ e r) xs => .ret ⟨e, r, xs⟩
  | .vw k st win => viewT k st win
  | _ => .fail
def TI.isStr : TI → Bool
  | .cell .str => true
  | _ => false
def TI.isSl : TI → Bool
  | .slice .. => true
  | _ => false
def TI.isSlOf (n : Nat) : TI → Bool
  | .slice _ ts _ => ts.length == n
  | _ => false
def lenT (t : TI) : Leaf → Tr Nat
  | .v .str s => if t.isStr then .ret (List.length s) else .fail
  | .v (.sl _ _ _) xs => if t.isSl then .ret (List.length xs) else .fail
  | .vw k st win => if t.isSl then (viewT k st win).bind fun o => .ret o.xs.length else .fail
  | .nil => if t.isSl then .ret 0 else .fail
  | _ => .fail
def vInt (n : Nat) : SV := .s (.one (.v (.int .i64) (n : Int)))
abbrev okOut (x : SV) : Tr Out := .ret ⟨x, [], []⟩
abbrev kd (d c : Nat) : Nat := d * 1024 + c
def cutWin (win : Option (Nat × Nat)) (lo n : Nat) : Option (Nat × Nat) :=
  match win with
  | none => some (lo, n)
  | some (l, _) => some (l + lo, n)
def winLo (win : Option (Nat × Nat)) : Nat := match win with | none => 0 | some (lo, _) => lo
def bound : Option SV → Nat → Tr Int
  | none, d => .ret d
  | some (.s (.one (.v (.int _) n))), _ => .ret n
  | _, _ => .fail
def boundsT (len : Nat) (lo hi mx : Option SV) (f : Nat → Nat → Tr SV) : Tr SV :=
  (bound lo 0).bind fun l => (bound hi len).bind fun h => (bound mx len).bind fun m =>
    .iff (mx.isNone || hi.isSome) <| .iff (decide (0 ≤ l)) <| .iff (decide (l ≤ h)) <| .iff (decide (h ≤ m)) <| .iff (decide (m ≤ (len : Int))) <| f l.toNat (h.toNat - l.toNat)
def sliceT (t : TI) (x : Leaf) (lo hi mx : Option SV) : Tr SV :=
  match x with
  | .v .str s => if t.isStr && mx.isNone then boundsT (List.length s) lo hi mx fun l n => .ret (.s (.one (.v .str (((s : List UInt8).drop l).take n)))) else .fail
  | .v (.sl false e r) xs => if t.isSlOf r.size then boundsT (List.length xs) lo hi mx fun l n => .ret (.s (.one (.v (.sl false e r) (((xs : List r.D).drop l).take n)))) else .fail
  | .vw k st win => (viewT k st win).bind fun o => if t.isSlOf o.r.size then boundsT o.xs.length lo hi mx fun l n => .ret (.s (.one (.vw k st (cutWin win l n)))) else .fail
  | .nil => if t.isSl then boundsT 0 lo hi mx fun _ _ => .ret (.s (.one .nil)) else .fail
  | _ => .fail
def roomFor (n bytes : Nat) : Bool := decide (n * bytes ≤ 140737488355328)
def moreT (ti2 : TI) (e : TypeId) (r : Ty) : Leaf → Tr (List r.D × List Nat)
  | .v .str s => if ti2.isStr then (match r with
    | .int .u8 => .ret (bytesOf s, [])
    | _ => .fail) else .fail
  | l => if ti2.isSl then (if r.ro then (match l with
    | .nil => .ret ([], [])
    | l => (dataT l).bind fun o => if h : Ty.sl true o.e o.r = .sl true e r then .ret ((h ▸ o.xs : (Ty.sl true e r).D), []) else .fail)
    else absorb (.sl true e r) l) else .fail
def ownOut (key : Nat) (o : Own) (given : List Nat) : Out :=
  ⟨.s (.one (.vw key [] none)), .all key :: gone given, goneU given ++ [.ow key (some o)]⟩
def appendT (ti ti2 : TI) (d : Nat) (x y : Leaf) : Tr Out :=
  match ti with
  | .slice e ts bytes => (absorb (.sl true e (rowTy ts)) x).bind fun b => (moreT ti2 e (rowTy ts) y).bind fun m =>
      .iff (roomFor (List.length b.1 + List.length m.1) bytes) <|
      if unlike (b.2 ++ m.2) then .ret (ownOut (kd d 0) ⟨e, rowTy ts, (show List (rowTy ts).D from b.1) ++ m.1⟩ (b.2 ++ m.2)) else .fail
  | _ => .fail
def Leaf.is : Leaf → Bool
  | .no => false
  | _ => true
def leaves : SV → Option (List Leaf)
  | .s (.one l) => if l.is then some [l] else none
  | .s (.ag ls) => if ls.all Leaf.is then some ls else none
  | _ => none
def rowsT (ts : List Ty) : List (Nat × SV) → Nat → Tr (List (rowTy ts).D × List Nat)
  | [], _ => .ret ([], [])
  | (i, x) :: ps, n => if i = n then match leaves x with
      | some ls => (absorbRow ts ls).bind fun r => (rowsT ts ps (n + 1)).bind fun rs => .ret (r.1 :: rs.1, r.2 ++ rs.2)
      | none => .fail
      else .fail
def buildSliceT (ti : TI) (d len : Nat) (ps : List (Nat × SV)) : Tr Out :=
  match ti with
  | .slice e ts _ => (rowsT ts ps 0).bind fun r => if unlike r.2 && decide (ps.length = len) && decide (len * (rowTy ts).size ≤ 16777216) then
      .ret (ownOut (kd d 0) ⟨e, rowTy ts, r.1⟩ r.2) else .fail
  | _ => .fail
def makeSliceT (ti : TI) (d : Nat) (l c : SV) : Tr Out :=
  match ti, l, c with
  | .slice e ts bytes, .s (.one (.v (.int .i64) l)), .s (.one (.v (.int .i64) c)) =>
    .iff (decide ((0 : Int) ≤ l)) <| .iff (decide ((l : Int) ≤ c)) <| .iff (roomFor (Int.toNat c) bytes) <|
      .ret (ownOut (kd d 0) ⟨e, rowTy ts, List.replicate (Int.toNat l) (rowTy ts).zero⟩ [])
  | _, _, _ => .fail
def zeroLeaf : Ty → Leaf
  | .sl _ _ _ => .nil
  | t => .v t t.zero
def setMany (row : List Leaf) (off : Nat) : List Leaf → List Leaf
  | [] => row
  | l :: ls => setMany (row.set off l) (off + 1) ls
def buildT (fs : List (Nat × Nat × Bool)) : List (Nat × SV) → List Leaf → Option (List Leaf)
  | [], row => some row
  | (f, x) :: ps, row => match fs[f]?, leaves x with
    | some (off, n, _), some ls => if ls.length = n then (if off + n ≤ row.length then buildT fs ps (setMany row off ls) else none) else none
    | _, _ => none
def indexT (t : TI) (x : Leaf) (i : Int) : Tr SV :=
  .iff (decide (0 ≤ i)) <|
  match x with
  | .v (.sl false _ r) xs => if t.isSlOf r.size then .get r.D ((xs : List r.D)[i.toNat]?) fun row => .ret (.s (.rp r row 0)) else .fail
  | .vw k st win => (viewT k st win).bind fun o => if t.isSlOf o.r.size then .iff (decide (i < (o.xs.length : Int))) <|
      .ret (.s (.el k (st ++ [(winLo win + i.toNat, 0)]))) else .fail
  | _ => .fail
def convT (ti : TypeId → TI) (src dst : TI) (d : Nat) (x : Leaf) : Tr Out :=
  match src, dst, x with
  | .cell (.int _), .cell (.int k), .v (.int _) n => okOut (.s (.one (.v (.int k) (k.wrap n))))
  | .cell .str, .cell .str, .v .str s => okOut (.s (.one (.v .str s)))
  | .cell .str, .slice e _ _, .v .str s => match ti e with
    | .cell (.int .u8) => .ret (ownOut (kd d 0) ⟨e, .int .u8, bytesOf s⟩ [])
    | _ => .fail
  | .slice e _ _, .cell .str, .nil => match ti e with
    | .cell (.int .u8) => okOut (.s (.one (.v .str [])))
    | _ => .fail
  | .slice e _ _, .cell .str, x => match ti e with
    | .cell (.int .u8) => (dataT x).bind fun o => match o with
        | ⟨_, .int .u8, xs⟩ => okOut (.s (.one (.v .str (textOf xs))))
        | _ => .fail
    | _ => .fail
  | _, _, _ => .fail
structure AS where
  a : A1
  bw : List Nat     -- owners that are shown
  gv : List Nat     -- owners that are given up
def argLeaf (mv : Bool) (t : Ty) : Leaf → Tr (ALeaf × List Nat × List Nat)
  | .v u x => .ret (⟨u, x⟩, [], [])
  | .nil => match t with
    | .sl _ e r => if mv then .ret (⟨.sl true e r, []⟩, [], []) else .ret (⟨.sl false e r.frz, []⟩, [], [])
    | _ => .fail
  | .vw k st win => if mv then match st with
      | [] => (viewT k [] win).bind fun o => .ret (⟨.sl true o.e o.r, o.xs⟩, [], [k])
      | _ => .fail
    else (viewT k st win).bind fun o => .ret (⟨(Ty.sl true o.e o.r).frz, toFrz (.sl true o.e o.r) o.xs⟩, [k], [])
  | _ => .fail
def lentLeaf (t : Ty) : Leaf → Tr (ALeaf × List Nat × List Nat)
  | .vw k st none => (viewT k st none).bind fun o => .ret (⟨.sl true o.e o.r, o.xs⟩, [], [k])
  | .vw _ _ (some _) => .fail
  | l => argLeaf true t l
def modeLeaf (m : Nat) (t : Ty) (l : Leaf) : Tr (ALeaf × List Nat × List Nat) := if m = 2 then lentLeaf t l else argLeaf (m == 1) t l
def lentOf (p : Nat × Nat) : Leaf → List ((Nat × Nat) × Option (Nat × Steps))
  | .vw k st _ => [(p, some (k, st))]
  | .nil => [(p, none)]
  | _ => []
def lentsOf (i j : Nat) : List Leaf → List ((Nat × Nat) × Option (Nat × Steps))
  | [] => []
  | l :: ls => lentOf (i, j) l ++ lentsOf i (j + 1) ls
def argLeaves (m : Nat) : List Ty → List Leaf → Tr (List ALeaf × List Nat × List Nat)
  | _, [] => .ret ([], [], [])
  | ts, l :: ls => (modeLeaf m (ts.headD .unit) l).bind fun x => (argLeaves m ts.tail ls).bind fun y => .ret (x.1 :: y.1, x.2.1 ++ y.2.1, x.2.2 ++ y.2.2)
def rowLeaves (k : Nat) : List Ty → Nat → Tr (List ALeaf × List Nat)
  | [], _ => .ret ([], [])
  | t :: ts, c => .rdC k c fun l => (argLeaf true t l).bind fun x => (rowLeaves k ts (c + 1)).bind fun y => .ret (x.1 :: y.1, x.2.2 ++ y.2)
def place (ms : List Nat) (k : Nat) : Nat := ms.findIdx (· == k)
structure AC where
  as : List A1 := []
  bw : List Nat := []
  gv : List Nat := []
  ms : List (Nat × List Ty) := []
  ln : List ((Nat × Nat) × Option (Nat × Steps)) := []
def cellsAt (ti : TypeId → TI) (t : TypeId) : Option (List Ty) := match ti t with
  | .ptr e => (ti e).cells
  | x => x.cells
def placeT (k off : Nat) (ts : Option (List Ty)) (c : AC) : Tr ((Nat × Nat) × AC) :=
  match ts with
  | some ts => if (c.ms.map (·.1)).contains k then .ret ((place (c.ms.map (·.1)) k, off), c)
    else if off = 0 then .rdM k fun n => if n = some ts.length then .ret ((c.ms.length, off), { c with ms := c.ms ++ [(k, ts)] }) else .fail
    else .fail
  | none => .fail
def capsT : List (Nat × Nat) → List (List Ty) → AC → Tr (List (Nat × Nat) × AC)
  | [], _, c => .ret ([], c)
  | p :: cs, ts, c => (placeT p.1 p.2 ts.head? c).bind fun y => (capsT cs ts.tail y.2).bind fun z => .ret (y.1 :: z.1, z.2)
def argsT (E : Env) : List Nat → List (SV × TypeId) → AC → Tr AC
  | _, [], c => .ret c
  | mv, (x, t) :: xs, c =>
    let m := mv.headD 0
    match x with
    | .s (.one l) => (modeLeaf m ((((E.ti t).cells).getD []).headD .unit) l).bind fun y => argsT E mv.tail xs { c with as := c.as ++ [.one y.1], bw := c.bw ++ y.2.1, gv := c.gv ++ y.2.2, ln := c.ln ++ (if m = 2 then lentOf (c.as.length, 0) l else []) }
    | .s (.ag ls) => (argLeaves m (((E.ti t).cells).getD []) ls).bind fun y => argsT E mv.tail xs { c with as := c.as ++ [.ag y.1], bw := c.bw ++ y.2.1, gv := c.gv ++ y.2.2, ln := c.ln ++ (if m = 2 then lentsOf c.as.length 0 ls else []) }
    | .s (.rp u x off) => argsT E mv.tail xs { c with as := c.as ++ [.rp u x off] }
    | .s (.pl k off) => (placeT k off (cellsAt E.ti t) c).bind fun y => argsT E mv.tail xs { y.2 with as := y.2.as ++ [.pl y.1.1 y.1.2] }
    | .s (.fv f cs) => (capsT cs (E.fr f) c).bind fun y => argsT E mv.tail xs { y.2 with as := y.2.as ++ [.fv f y.1] }
    | _ => .fail
def rowsOf : List (Nat × List Ty) → Tr (List (List ALeaf) × List Nat)
  | [] => .ret ([], [])
  | (k, ts) :: ms => (rowLeaves k ts 0).bind fun y => (rowsOf ms).bind fun ys => .ret (y.1 :: ys.1, y.2 ++ ys.2)
def Ty.hasRo : Ty → Bool
  | .pair a b => a.hasRo || b.hasRo
  | .sl o _ r => !o || r.hasRo
  | _ => false
def backLeaf (key : Nat) : ALeaf → Leaf × List (Nat × Own)
  | ⟨.sl true e r, xs⟩ => (.vw key [] none, [(key, ⟨e, r, xs⟩)])
  | ⟨t, x⟩ => (.v t x, [])
def backLeaves (key : Nat) : List ALeaf → List Leaf × List (Nat × Own)
  | [] => ([], [])
  | l :: ls => ((backLeaf key l).1 :: (backLeaves (key + 1) ls).1, (backLeaf key l).2 ++ (backLeaves (key + 1) ls).2)
def backPls (ms : List Nat) : List (Nat × Nat) → Option (List (Nat × Nat))
  | [] => some []
  | p :: ps => match ms[p.1]?, backPls ms ps with
    | some k, some l => some ((k, p.2) :: l)
    | _, _ => none
def back1 (ms : List Nat) (key : Nat) : A1 → Option (S1 × List (Nat × Own))
  | .one l => some (.one (backLeaf key l).1, (backLeaf key l).2)
  | .ag ls => some (.ag (backLeaves key ls).1, (backLeaves key ls).2)
  | .pl m off => match ms[m]? with
    | some k => some (.pl k off, [])
    | none => none
  | .rp t x off => some (.rp t x off, [])
  | .fv f cs => match backPls ms cs with
    | some l => some (.fv f l, [])
    | none => none
def backVals (ms : List Nat) (key : Nat) : List A1 → Option (List S1 × List (Nat × Own))
  | [] => some ([], [])
  | a :: as => match back1 ms key a, backVals ms (key + 64) as with
    | some x, some y => some (x.1 :: y.1, x.2 ++ y.2)
    | _, _ => none
def backRows (key : Nat) : List Nat → List (List ALeaf) → Option (List (Nat × List Leaf) × List (Nat × Own))
  | [], [] => some ([], [])
  | k :: ms, r :: rs => match backRows (key + 64) ms rs with
    | some y => some ((k, (backLeaves key r).1) :: y.1, (backLeaves key r).2 ++ y.2)
    | none => none
  | _, _ => none
def ownsU (l : List (Nat × Own)) : List U := l.map fun p => .ow p.1 (some p.2)
def rowsU : List (Nat × List Leaf) → List U
  | [] => []
  | p :: l => stPls p.1 p.2 0 ++ rowsU l
def A1.hasRo : A1 → Bool
  | .one l => l.1.hasRo
  | .ag ls => ls.any fun l => l.1.hasRo
  | .pl _ _ => false
  | .rp _ _ _ => true
  | .fv _ _ => false
def tupled : List S1 → SV
  | [v] => .s v
  | vs => .tu vs
def putBack : List ((Nat × Nat) × Option (Nat × Steps)) → List ((Nat × Nat) × ALeaf) → Tr (List (Nat × Own))
  | [], [] => .ret []
  | (p, none) :: l, (p', _) :: r => if p = p' then putBack l r else .fail
  | (p, some (k, st)) :: l, (p', a) :: r => if p = p' then .rdO k fun o => match o with
    | some o => (getT (.sl true o.e o.r) o.xs st).bind fun c => if h : a.1 = c.1 then (setT (.sl true o.e o.r) o.xs st c.1 (h ▸ a.2)).bind fun zs => (putBack l r).bind fun y => .ret ((k, ⟨o.e, o.r, zs⟩) :: y) else .fail
    | none => .fail
    else .fail
  | _, _ => .fail
def lkeys : List ((Nat × Nat) × Option (Nat × Steps)) → List Nat
  | [] => []
  | (_, none) :: l => lkeys l
  | (_, some (k, _)) :: l => k :: lkeys l
def moved (lk gv : List Nat) : List Nat := gv.filter fun k => !lk.contains k
def callT2 (E : Env) (d : Nat) (f : FuncId) (ps : List (Nat × Nat)) (c : AC) : Tr Out :=
  (rowsOf c.ms).bind fun rows =>
    if unlike (c.gv ++ rows.2) && c.bw.all (fun k => !(c.gv ++ rows.2).contains k) then
      (E.ca f (c.as ++ ps.map fun p => .pl p.1 p.2) rows.1).bind fun r => (putBack c.ln r.lent).bind fun lts =>
        if c.bw.isEmpty || !(r.val.any A1.hasRo || r.rows.any (fun l => l.any fun x => x.1.hasRo) || r.lent.any (fun x => x.2.1.hasRo)) then
          match backVals (c.ms.map (·.1)) (kd d 0) r.val, backRows (kd d 512) (c.ms.map (·.1)) r.rows with
          | some vs, some rs =>
            if unlike ((vs.2 ++ (rs.2 ++ lts)).map (·.1)) && decide (r.rows.map List.length = c.ms.map fun m => m.2.length) then
            .ret ⟨tupled vs.1, gone (moved (lkeys c.ln) c.gv ++ rows.2) ++ ((lkeys c.ln).map Kl.deep ++ gone ((vs.2 ++ rs.2).map (·.1))), goneU (c.gv ++ rows.2) ++ (ownsU (vs.2 ++ (rs.2 ++ lts)) ++ rowsU rs.1)⟩
            else .fail
          | _, _ => .fail
        else .fail
    else .fail
def callT (E : Env) (d : Nat) (f : FuncId) (caps : List (Nat × Nat)) (args : List (SV × TypeId)) : Tr Out :=
  (argsT E (E.mv f) args {}).bind fun c => (capsT caps (E.fr f) c).bind fun y => callT2 E d f y.1 y.2
def minmax (b : Builtin) : List SV → Tr SV
  | [.s (.one (.v (.int k) x)), .s (.one (.v (.int k') y))] => if k = k' then match b with
      | .min => .ret (.s (.one (.v (.int k) (if (y : Int) < x then y else x))))
      | .max => .ret (.s (.one (.v (.int k) (if (x : Int) < y then y else x))))
      | _ => .fail
      else .fail
  | _ => .fail
def boolOk (l : Leaf) (t : TI) : Bool :=
  match l, t with
  | .v .bool _, .cell .bool => true
  | .v .bool _, _ => false
  | _, _ => true
def plsOf : List SV → Option (List (Nat × Nat))
  | [] => some []
  | .s (.pl k off) :: xs => match plsOf xs with
    | some l => some ((k, off) :: l)
    | none => none
  | _ => none
def core (E : Env) (ρ : Operand → SV) (d : Nat) : Op → Tr Out
  | .move x | .assign x => match ρ x with
    | .no => .fail
    | .un => .fail
    | x => okOut x
  | .pick c a b => match ρ c with
    | .s (.one (.v .bool c)) => .br c (match ρ a with | .no => .fail | .un => .fail | x => okOut x) (match ρ b with | .no => .fail | .un => .fail | x => okOut x)
    | _ => .fail
  | .alloc t => match (E.ti t).cells with
    | some ts => .ret ⟨.s (.pl d 0), [.m d], [.ms d (ts.map zeroLeaf)]⟩
    | none => .fail
  | .box t x => match (E.ti t).cells, leaves (ρ x) with
    | some ts, some ls => if ls.length = ts.length then .ret ⟨.s (.pl d 0), [.m d], [.ms d ls]⟩ else .fail
    | _, _ => .fail
  | .build t ps => match E.ti t with
    | .struct fs row _ => match buildT fs (ps.toList.map fun p => (p.1, ρ p.2)) (row.map zeroLeaf) with
      | some ls => okOut (.s (.ag ls))
      | none => .fail
    | _ => .fail
  | .buildSlice t len ps => buildSliceT (E.ti t) d len (ps.toList.map fun p => (p.1, ρ p.2))
  | .load t a => match ρ a, (E.ti t).cells with
    | .s a, some ts => if ts.isEmpty then .fail else (if (E.ti t).isAgg then (ldCells a ts.length 0).bind fun ls => Tr.ret (SV.s (.ag ls)) else (ldCell a 0).bind fun l => Tr.ret (SV.s (.one l))).bind fun x => okOut x
    | _, _ => .fail
  | .store t a x => match ρ a, (E.ti t).cells, leaves (ρ x) with
    | .s a, some ts, some ls => if ls.length = ts.length then (stCells a ls).bind fun r => .ret ⟨.no, r.1, r.2⟩ else .fail
    | _, _, _ => .fail
  | .nilCheck x => match ρ x with
    | .s (.pl k off) => okOut (.s (.pl k off))
    | .s (.el k st) => okOut (.s (.el k st))
    | .s (.rp t x off) => okOut (.s (.rp t x off))
    | _ => .fail
  | .binOp op t x y _ => match ρ x, ρ y with
    | .s (.one x), .s (.one .nil) => match op with
      | .eql => if (E.ti t).isSl then (nilT x).bind fun l => okOut (.s (.one l)) else .fail
      | _ => .fail
    | .s (.one x), .s (.one y) => if boolOk x (E.ti t) then (vbin op x y).bind fun l => okOut (.s (.one l)) else .fail
    | .s (.ag xs), .s (.ag ys) => match E.ti t with
      | .struct _ row true => match op, aggEq row xs ys with
        | .eql, some r => okOut (.s (.one (b2 r)))
        | .neq, some r => okOut (.s (.one (b2 (!r))))
        | _, _ => .fail
      | _ => .fail
    | _, _ => .fail
  | .unOp op _ x => match ρ x with
    | .s (.one x) => (vun op x).bind fun l => okOut (.s (.one l))
    | _ => .fail
  | .convert s t x => match ρ x with
    | .s (.one x) => convT E.ti (E.ti s) (E.ti t) d x
    | _ => .fail
  | .makeSlice t l c => makeSliceT (E.ti t) d (ρ l) (ρ c)
  | .slice t x lo hi mx => match ρ x with
    | .s (.one x) => (sliceT (E.ti t) x (lo.map ρ) (hi.map ρ) (mx.map ρ)).bind fun x => okOut x
    | _ => .fail
  | .fieldAddr t x f => match E.ti t with
    | .struct fs _ _ => match fs[f]?, ρ x with
      | some (o, _, _), .s (.pl k off) => okOut (.s (.pl k (off + o)))
      | some (o, _, _), .s (.el k st) => okOut (.s (.el k (bump st o)))
      | some (o, _, _), .s (.rp u x off) => okOut (.s (.rp u x (off + o)))
      | _, _ => .fail
    | _ => .fail
  | .field t x f => match E.ti t, ρ x with
    | .struct fs _ _, .s (.ag ls) => match fs[f]? with
      | some (o, n, true) => okOut (.s (.ag ((ls.drop o).take n)))
      | some (o, _, false) => match ls[o]? with
        | some l => okOut (.s (.one l))
        | none => .fail
      | none => .fail
    | _, _ => .fail
  | .indexAddr t x i => match ρ x, ρ i with
    | .s (.one x), .s (.one (.v (.int _) i)) => (indexT (E.ti t) x i).bind fun x => okOut x
    | _, _ => .fail
  | .index t x i => match ρ x, ρ i with
    | .s (.one (.v .str s)), .s (.one (.v (.int _) i)) => .iff (E.ti t).isStr <| .iff (decide ((0 : Int) ≤ i)) <|
      .get UInt8 ((s : List UInt8)[Int.toNat i]?) fun b => okOut (.s (.one (.v (.int .u8) ((UInt8.toNat b : Nat) : Int))))
    | _, _ => .fail
  | .extract x i => match ρ x with
    | .tu xs => match xs[i]? with
      | some x => okOut (.s x)
      | none => .fail
    | _ => .fail
  | .call ⟨.builtin .len, as, ts⟩ => match as.toList.map ρ, ts.toList with
    | [.s (.one x)], [t] => (lenT (E.ti t) x).bind fun n => okOut (vInt n)
    | _, _ => .fail
  | .call ⟨.builtin .append, as, ts⟩ => match as.toList.map ρ, ts.toList with
    | [.s (.one x), .s (.one y)], [t, t2] => appendT (E.ti t) (E.ti t2) d x y
    | _, _ => .fail
  | .call ⟨.builtin .min, as, _⟩ => (minmax .min (as.toList.map ρ)).bind fun x => okOut x
  | .call ⟨.builtin .max, as, _⟩ => (minmax .max (as.toList.map ρ)).bind fun x => okOut x
  | .call ⟨.value v, as, ts⟩ => match ρ v with
    | .s (.fv f cs) => if as.size = ts.size then callT E d f cs ((as.toList.map ρ).zip ts.toList) else .fail
    | _ => .fail
  | .makeFunc (.func f) first cs => if first.isEmpty then match plsOf (cs.toList.map ρ) with
    | some l => okOut (.s (.fv f l))
    | none => .fail
    else .fail
  | _ => .fail
end Go.V

namespace Go.V
section loops
variable {σ τ : Type}
def loopN (f : σ → Option (σ ⊕ τ)) : Nat → σ → Option τ
  | 0, _ => none
  | n + 1, x => match f x with
    | some (.inl y) => loopN f n y
    | some (.inr z) => some z
    | none => none
open Classical in
noncomputable def loopG (f : σ → Option (σ ⊕ τ)) (x : σ) : Option τ := if h : ∃ n z, loopN f n x = some z then some h.choose_spec.choose else none
theorem loopN_mono (f : σ → Option (σ ⊕ τ)) : ∀ n m x z, loopN f n x = some z → n ≤ m → loopN f m x = some z := by
  intro n
  induction n with
  | zero => intro m x z h; simp [loopN] at h
  | succ n ih =>
    intro m x z h hm
    obtain ⟨m, rfl⟩ : ∃ k, m = k + 1 := ⟨m - 1, by omega⟩
    simp only [loopN] at h ⊢
    split at h
    · exact ih m _ z h (by omega)
    · exact h
    · cases h
theorem loopG_some (f : σ → Option (σ ⊕ τ)) (x : σ) (z : τ) : loopG f x = some z ↔ ∃ n, loopN f n x = some z := by
  unfold loopG
  constructor
  · intro h
    split at h
    · rename_i hx
      injection h with h
      exact ⟨hx.choose, h ▸ hx.choose_spec.choose_spec⟩
    · cases h
  · rintro ⟨n, hn⟩
    have hx : ∃ n z, loopN f n x = some z := ⟨n, z, hn⟩
    rw [dif_pos hx]
    have h1 := loopN_mono f _ (max n hx.choose) x _ hx.choose_spec.choose_spec (by omega)
    have h2 := loopN_mono f _ (max n hx.choose) x _ hn (by omega)
    rw [h1] at h2
    exact h2
theorem loopG_eq (f : σ → Option (σ ⊕ τ)) (x : σ) : loopG f x = match f x with
    | some (.inl y) => loopG f y
    | some (.inr z) => some z
    | none => none := by
  apply Option.ext
  intro z
  rw [loopG_some]
  constructor
  · rintro ⟨n, hn⟩
    cases n with
    | zero => simp [loopN] at hn
    | succ n =>
      simp only [loopN] at hn
      split at hn
      · rename_i y _
        exact (loopG_some f y z).2 ⟨n, hn⟩
      · exact hn
      · cases hn
  · intro h
    split at h
    · rename_i y hy
      obtain ⟨n, hn⟩ := (loopG_some f y z).1 h
      exact ⟨n + 1, by simp only [loopN, hy]; exact hn⟩
    · rename_i z' hz; exact ⟨1, by simp only [loopN, hz]; exact h⟩
    · cases h
end loops
inductive TL where
  | h (i : Nat) | vw (k : Nat) | nil | no
inductive TS where
  | one (l : TL) | ag (ls : List TL) | pl (k off : Nat) | fv (f : FuncId) (cs : List (Nat × Nat))
inductive Pl where
  | sl (i : Nat) | ag (i j : Nat) | mc (k c : Nat)
def leafAt (S : St) : Pl → Leaf
  | .sl i => match S.sl i with
    | .s (.one l) => l
    | _ => .no
  | .ag i j => match S.sl i with
    | .s (.ag ls) => ls.getD j .no
    | _ => .no
  | .mc k c => match S.ms k with
    | some n => if c < n then S.mc k c else .no
    | none => .no
def St.setAt (S : St) (l : Leaf) : Pl → St
  | .sl i => S.put i (.s (.one l))
  | .ag i j => match S.sl i with
    | .s (.ag ls) => S.put i (.s (.ag (ls.set j l)))
    | _ => S
  | .mc k c => S.up (.mc k c l)
def narrow1 (S : St) (p : Pl) : St :=
  match leafAt S p with
  | .vw k [] (some (lo, n)) => match S.ow k with
    | some o => ((S.kp [.all k]).up (.ow k (some ⟨o.e, o.r, (o.xs.drop lo).take n⟩))).setAt (.vw k [] none) p
    | none => S
  | _ => S
def narrow (S : St) : List Pl → St
  | [] => S
  | p :: ps => narrow (narrow1 S p) ps
def freeze1 (S : St) (p : Pl) : St :=
  match leafAt S p with
  | .vw k [] none => match S.ow k with
    | some o => ((S.kp [.all k]).up (.ow k none)).setAt (.v (Ty.sl true o.e o.r).frz (toFrz (.sl true o.e o.r) o.xs)) p
    | none => S
  | _ => S
def freeze (S : St) : List Pl → St
  | [] => S
  | p :: ps => freeze (freeze1 S p) ps
structure Tpl where
  holes : List Ty
  slots : List (Nat × TS)
  mems : List (Nat × List TL)
  owns : List (Nat × Nat)
  nw : List Pl
  fz : List Pl
@[reducible] def Tpl.D (t : Tpl) : Type := (rowTy t.holes).D
def split : (ts : List Ty) → (rowTy ts).D → List ALeaf
  | [], _ => []
  | [t], x => [⟨t, x⟩]
  | t :: u :: ts, x => ⟨t, x.1⟩ :: split (u :: ts) x.2
def find {β : Type} : List (Nat × β) → Nat → Option β
  | [], _ => none
  | (k, b) :: l, i => if i = k then some b else find l i
def TL.inj (hs : List ALeaf) : TL → Leaf
  | .h i => match hs[i]? with
    | some c => .v c.1 c.2
    | none => .no
  | .vw k => .vw k [] none
  | .nil => .nil
  | .no => .no
def TS.inj (hs : List ALeaf) : TS → S1
  | .one l => .one (l.inj hs)
  | .ag ls => .ag (ls.map (TL.inj hs))
  | .pl k off => .pl k off
  | .fv f cs => .fv f cs
def ownOf : ALeaf → Option Own
  | ⟨.sl true e r, xs⟩ => some ⟨e, r, xs⟩
  | _ => none
def Tpl.injH (t : Tpl) (hs : List ALeaf) : St where
  sl i := match find t.slots i with
    | some s => .s (s.inj hs)
    | none => .no
  ms k := (find t.mems k).map List.length
  mc k off := match find t.mems k with
    | some row => match row[off]? with
      | some l => l.inj hs
      | none => .no
    | none => .no
  ow k := match find t.owns k with
    | some h => match hs[h]? with
      | some c => ownOf c
      | none => none
    | none => none
def Tpl.inj (t : Tpl) (x : t.D) : St := t.injH (split t.holes x)
structure Mt where
  ro : List (Nat × Nat) := []
  rm : List (Nat × Nat) := []
  nl : List Nat := []
  vs : List (Nat × ALeaf) := []
def addKey (l : List (Nat × Nat)) (a b : Nat) : Option (List (Nat × Nat)) :=
  match find l a with
  | some c => if c = b then some l else none
  | none => some ((a, b) :: l)
def TL.mt (holes : List Ty) (m : Mt) : TL → Leaf → Option Mt
  | .h i, .v t x => some { m with vs := (i, ⟨t, x⟩) :: m.vs }
  | .h i, .nil => match holes[i]? with
    | some (.sl false e r) => some { m with vs := (i, ⟨.sl false e r, []⟩) :: m.vs }
    | _ => none
  | .vw k, .vw k' [] none => match addKey m.ro k k' with
    | some l => some { m with ro := l }
    | none => none
  | .vw k, .nil => some { m with nl := k :: m.nl }
  | .nil, .nil => some m
  | .no, _ => some m
  | _, _ => none
def TL.mts (holes : List Ty) : Mt → List TL → List Leaf → Option Mt
  | m, [], [] => some m
  | m, t :: ts, l :: ls => match t.mt holes m l with
    | some m' => TL.mts holes m' ts ls
    | none => none
  | _, _, _ => none
def TS.mt (holes : List Ty) (m : Mt) : TS → SV → Option Mt
  | .one t, .s (.one l) => t.mt holes m l
  | .ag ts, .s (.ag ls) => TL.mts holes m ts ls
  | .pl k off, .s (.pl k' off') => if off = off' then (match addKey m.rm k k' with
    | some l => some { m with rm := l }
    | none => none) else none
  | .fv f cs, .s (.fv f' cs') => if f = f' ∧ cs = cs' ∧ cs.all (fun p => find m.rm p.1 == some p.1) then some m else none
  | _, _ => none
def mtSlots (holes : List Ty) (S : St) : List (Nat × TS) → Mt → Option Mt
  | [], m => some m
  | (i, t) :: l, m => match t.mt holes m (S.sl i) with
    | some m' => mtSlots holes S l m'
    | none => none
def mtRow (holes : List Ty) (S : St) (k : Nat) : List TL → Nat → Mt → Option Mt
  | [], _, m => some m
  | t :: ts, c, m => match t.mt holes m (S.mc k c) with
    | some m' => mtRow holes S k ts (c + 1) m'
    | none => none
def mtMems (holes : List Ty) (S : St) : List (Nat × List TL) → Mt → Option Mt
  | [], m => some m
  | (κ, row) :: l, m => match find m.rm κ with
    | some k => if S.ms k = some row.length then match mtRow holes S k row 0 m with
      | some m' => mtMems holes S l m'
      | none => none
      else none
    | none => none
def mtOwns (holes : List Ty) (S : St) : List (Nat × Nat) → Mt → Option Mt
  | [], m => some m
  | (κ, h) :: l, m => match find m.ro κ with
    | some k => match S.ow k with
      | some o => mtOwns holes S l { m with vs := (h, ⟨.sl true o.e o.r, o.xs⟩) :: m.vs }
      | none => none
    | none => if m.nl.contains κ then match holes[h]? with
      | some (.sl true e r) => mtOwns holes S l { m with vs := (h, ⟨.sl true e r, []⟩) :: m.vs }
      | _ => none
      else none
def tuple (vs : List (Nat × ALeaf)) : (ts : List Ty) → Nat → Option (rowTy ts).D
  | [], _ => some ()
  | [t], i => match find vs i with
    | some ⟨u, x⟩ => if h : u = t then some (h ▸ x) else none
    | none => none
  | t :: u :: ts, i => match find vs i with
    | some ⟨u', x⟩ => if h : u' = t then match tuple vs (u :: ts) (i + 1) with
      | some y => some (h ▸ x, y)
      | none => none
      else none
    | none => none
def Tpl.mt (t : Tpl) (S : St) : Option Mt :=
  match mtSlots t.holes S t.slots { rm := t.mems.map fun p => (p.1, p.1) } with
  | some m => match mtMems t.holes S t.mems m with
    | some m => mtOwns t.holes S t.owns m
    | none => none
  | none => none
def Mt.fine (t : Tpl) (m : Mt) : Bool :=
  unlike (m.vs.map (·.1)) && m.vs.all (fun p => decide (p.1 < t.holes.length)) && unlike (m.ro.map (·.1)) && unlike (m.ro.map (·.2)) && unlike (m.rm.map (·.1)) && unlike (m.rm.map (·.2)) &&
  m.nl.all (fun k => !(m.ro.map (·.1)).contains k && (find t.owns k).isSome) && m.ro.all (fun p => (find t.owns p.1).isSome) && m.rm.all (fun p => (find t.mems p.1).isSome) && m.rm.all (fun p => p.1 == p.2)
def Tpl.prj0 (t : Tpl) (S : St) : Option t.D :=
  match t.mt S with
  | some m => if m.fine t then tuple m.vs t.holes 0 else none
  | none => none
def Tpl.prj (t : Tpl) (S : St) : Option t.D := t.prj0 (freeze (narrow S t.nw) t.fz)
inductive Ex where
  | n | x (id : Nat) | r
  deriving DecidableEq
abbrev Joins := List (Ex × Tpl)
@[reducible] def Joins.D : Joins → Type
  | [] => Empty
  | [a] => a.2.D
  | a :: b :: l => a.2.D ⊕ Joins.D (b :: l)
def Joins.prj : (J : Joins) → Ex → St → Option J.D
  | [], _, _ => none
  | [a], e, S => if e = a.1 then a.2.prj S else none
  | a :: b :: l, e, S => if e = a.1 then (match a.2.prj S with | some x => some (.inl x) | none => none)
    else match Joins.prj (b :: l) e S with | some x => some (.inr x) | none => none
def Joins.inj : (J : Joins) → J.D → Tr (Ex × St)
  | [], x => nomatch x
  | [a], x => .ret (a.1, a.2.inj x)
  | a :: b :: l, s => .alt a.2.D (Joins.D (b :: l)) s (fun x => .ret (a.1, a.2.inj x)) (fun y => Joins.inj (b :: l) y)
def joined (J : Joins) (t : Tr (Ex × St)) : Tr (Ex × St) :=
  match J with
  | [] => t
  | a :: l => .get (Joins.D (a :: l)) (t.bind fun r => Tr.opt (Joins.prj (a :: l) r.1 r.2)).run (Joins.inj (a :: l))
inductive Ann where
  | nil
  | seq (a b : Ann)
  | cond (J : Joins) (a b : Ann)
  | block (J : Joins) (a : Ann)
  | loop (t : Tpl) (J : Joins) (a : Ann)
  | reg (J : Joins)
  | both (J : Joins) (r a b y z : Ann)
def gslot (ops : Array Oper) (j : Nat) : Option Nat := (ops[j]?).bind (·.dst)
structure Rec where
  o : Oper
  ins : List SV
  out : Out
  lg : List Lg
def dstOk (E : Env) (N : Nat) (o : Oper) : Bool := match o.dst with
  | some d => decide (d < N) && !E.fx.contains d
  | none => true
def runOp (E : Env) (N : Nat) (o : Oper) (S : St) : Tr (Out × List Lg) := (core E (opnd S) (o.dst.getD N) o.op).at S []
def noOut : Out := ⟨.un, [], []⟩
def recOf (o : Oper) (S : St) (r : Out × List Lg) : Rec := ⟨o, o.op.operands.toList.map (opnd S), r.1, r.2⟩
def skipRec (o : Oper) : Rec := ⟨o, [], noOut, []⟩
def yesT (E : Env) (N : Nat) (o : Oper) (S : St) : Tr (St × Rec) := (runOp E N o S).bind fun r => .ret (S.app o.dst r.1, recOf o S r)
def nayT (o : Oper) (S : St) : Tr (St × Rec) := .ret (S.app o.dst noOut, skipRec o)
def stepT (E : Env) (N : Nat) (ops : Array Oper) (o : Oper) (S : St) : Tr (St × Rec) :=
  if dstOk E N o then match o.guard with
    | none => yesT E N o S
    | some (j, want) => match gslot ops j with
      | some g => match S.sl g with
        | .s (.one (.v .bool b)) =>
          .br b (if want then yesT E N o (S.put g (.s (.one (.v .bool true)))) else nayT o (S.put g (.s (.one (.v .bool true)))))
            (if want then nayT o (S.put g (.s (.one (.v .bool false)))) else yesT E N o (S.put g (.s (.one (.v .bool false)))))
        | .un => nayT o S
        | _ => .fail
      | none => .fail
    else .fail
def regT (E : Env) (N : Nat) (ops : Array Oper) : List Oper → St → Tr St
  | [], S => .ret S
  | o :: os, S => (stepT E N ops o S).bind fun r => regT E N ops os r.1
def regR (E : Env) (N : Nat) (ops : Array Oper) : List Oper → St → List Rec → Tr (St × List Rec)
  | [], S, l => .ret (S, l.reverse)
  | o :: os, S, l => (stepT E N ops o S).bind fun r => regR E N ops os r.1 (r.2 :: l)
def Leaf.safe (c : List Kl) : Leaf → Bool
  | .vw k st _ => c.all (fun x => x.okV k st)
  | _ => true
def S1.safe (c : List Kl) : S1 → Bool
  | .one l => l.safe c
  | .ag ls => ls.all (Leaf.safe c)
  | .pl k _ => c.all (fun x => x.okM k)
  | .el k st => c.all (fun x => x.okE k st)
  | .rp .. => true
  | .fv _ cs => c.all (fun x => cs.all fun p => x.okM p.1)
def SV.safe (c : List Kl) : SV → Bool
  | .s x => x.safe c
  | .tu xs => xs.all (S1.safe c)
  | .un => true
  | .no => true
def U.safe (c : List Kl) : U → Bool
  | .mc _ _ l => l.safe c
  | .ms _ row => row.all (Leaf.safe c)
  | .ow .. => true
def Lg.safe (c : List Kl) : Lg → Bool
  | .c _ _ l => l.safe c
  | _ => true
def U.hits : U → Lg → Bool
  | .ow k _, .o k' => k == k'
  | .mc k off _, .c k' off' _ => k == k' && off == off'
  | .ms k _, .c k' _ _ => k == k'
  | .ms k _, .m k' => k == k'
  | _, _ => false
def U.meets : U → U → Bool
  | .ow k _, .ow k' _ => k == k'
  | .mc k off _, .mc k' off' _ => k == k' && off == off'
  | .ms k _, .mc k' _ _ => k == k'
  | .mc k _ _, .ms k' _ => k == k'
  | .ms k _, .ms k' _ => k == k'
  | _, _ => false
def Leaf.whole : Leaf → Bool
  | .no => false
  | _ => true
def S1.whole : S1 → Bool
  | .one l => l.whole
  | .ag ls => ls.all Leaf.whole
  | _ => true
def SV.whole : SV → Bool
  | .s x => x.whole
  | .tu xs => xs.all S1.whole
  | .un => true
  | .no => false
def Lg.whole : Lg → Bool
  | .c _ _ l => l.whole
  | _ => true
def Rec.past (a b : Rec) : Bool :=
  (b.out.ks.isEmpty || (a.ins.all SV.whole && a.lg.all Lg.whole)) &&
  a.ins.all (SV.safe b.out.ks) && a.out.x.safe b.out.ks && a.lg.all (Lg.safe b.out.ks) && a.out.us.all (U.safe b.out.ks) &&
  a.lg.all (fun l => b.out.us.all fun u => !u.hits l)
def Rec.apart (a b : Rec) : Bool :=
  a.past b && b.past a && a.out.us.all (fun u => b.out.us.all fun u' => !u.meets u')
def aheadOf (acc : List Nat) (o : Oper) : Nat := o.after.toList.foldl (fun m e => if Region.binds .any e then m ||| ((1 <<< e.on) ||| acc.getD e.on 0) else m) 0
def ahead : List Oper → List Nat → List Nat
  | [], acc => acc
  | o :: os, acc => ahead os (acc ++ [aheadOf acc o])
def backward : List Oper → Nat → Bool
  | [], _ => true
  | o :: os, n => o.after.toList.all (fun e => !Region.binds .any e || decide (e.on < n)) && backward os (n + 1)
def slotsOf (ops : Array Oper) (o : Oper) : List Nat :=
  o.op.operands.toList.filterMap (fun | .tmp t => some t | _ => none) ++ (match o.guard with | some (j, _) => (gslot ops j).toList | none => [])
def slotApart (ops : Array Oper) (a b : Oper) : Bool :=
  (match a.dst with | some d => !(slotsOf ops b).contains d && !(b.dst == some d) | none => true) &&
  (match b.dst with | some d => !(slotsOf ops a).contains d | none => true)
def pairsOk (ops : Array Oper) (b : List Nat) : List (Nat × Rec) → Bool
  | [] => true
  | (i, a) :: l => l.all (fun p => (b.getD p.1 0).testBit i || (slotApart ops a.o p.2.o && a.apart p.2)) && pairsOk ops b l
def numbered {β : Type} : List β → Nat → List (Nat × β)
  | [], _ => []
  | x :: l, n => (n, x) :: numbered l (n + 1)
def regionT (E : Env) (N : Nat) (ops : Array Oper) (draw : Bool) (S : St) : Tr St :=
  if draw then (regR E N ops ops.toList S []).bind fun r => if pairsOk ops (ahead ops.toList []) (numbered r.2 0) && backward ops.toList 0 then .ret r.1 else .fail
  else regT E N ops ops.toList S
open Classical in
noncomputable def bothQ {α : Type} (e : Bool) (a b : Option α) : Option α := if e = true then (if a = b then b else none) else b
noncomputable def vcode (E : Env) (N : Nat) : Ann → Code → St → Tr (Ex × St)
  | _, .skip, S => .ret (.n, S)
  | .reg J, .region _ ops draw, S => joined J ((regionT E N ops draw S).bind fun S => .ret (.n, S))
  | _, .region _ ops draw, S => (regionT E N ops draw S).bind fun S => .ret (.n, S)
  | .seq x y, .seq a b, S => (vcode E N x a S).bind fun r => match r.1 with
    | .n => vcode E N y b r.2
    | e => .ret (e, r.2)
  | .nil, .seq a b, S => (vcode E N .nil a S).bind fun r => match r.1 with
    | .n => vcode E N .nil b r.2
    | e => .ret (e, r.2)
  | .cond J x y, .cond c a b, S => match opnd S c with
    | .s (.one (.v .bool c)) => joined J (.br c (vcode E N x a S) (vcode E N y b S))
    | .s (.one (.qn e)) => .get (Joins.D J) (bothQ e ((vcode E N x a S).bind fun r => Tr.opt (Joins.prj J r.1 r.2)).run ((vcode E N y b S).bind fun r => Tr.opt (Joins.prj J r.1 r.2)).run) (Joins.inj J)
    | _ => .fail
  | .nil, .cond c a b, S => match opnd S c with
    | .s (.one (.v .bool c)) => .br c (vcode E N .nil a S) (vcode E N .nil b S)
    | _ => .fail
  | .both J xr xa xb y z, .seq (.seq r (.cond c a b)) d, S => (vcode E N xr r S).bind fun q => match q.1 with
    | .n => match opnd q.2 c with
      | .s (.one (.qn e)) => .get (Joins.D J) (bothQ e
          (((vcode E N xa a q.2).bind fun p => match p.1 with | .n => vcode E N y d p.2 | e => .ret (e, p.2)).bind fun t => Tr.opt (Joins.prj J t.1 t.2)).run
          (((vcode E N xb b q.2).bind fun p => match p.1 with | .n => vcode E N z d p.2 | e => .ret (e, p.2)).bind fun t => Tr.opt (Joins.prj J t.1 t.2)).run) (Joins.inj J)
      | _ => .fail
    | e => .ret (e, q.2)
  | .block J x, .block id a, S => joined J ((vcode E N x a S).bind fun r => .ret (if r.1 = .x id then .n else r.1, r.2))
  | .nil, .block id a, S => (vcode E N .nil a S).bind fun r => .ret (if r.1 = .x id then .n else r.1, r.2)
  | .loop t J x, .loop a, S => match t.prj S with
    | some x0 => .get (Joins.D J) (loopG (fun y : t.D => ((vcode E N x a (t.inj y)).bind fun r => match r.1 with
        | .n => Tr.opt (match t.prj r.2 with | some z => some (Sum.inl (β := Joins.D J) z) | none => none)
        | e => Tr.opt (match J.prj e r.2 with | some z => some (Sum.inr (α := t.D) z) | none => none)).run) x0) J.inj
    | none => .fail
  | _, .exit id, S => .ret (.x id, S)
  | _, .ret, S => .ret (.r, S)
  | _, _, _ => .fail
def blank : St := ⟨fun _ => .no, fun _ => none, fun _ _ => .no, fun _ => none⟩
def putSlots : List S1 → Nat → St → St
  | [], _, S => S
  | x :: xs, i, S => putSlots xs (i + 1) (S.put i (.s x))
def start (N : Nat) (as : List A1) (rows : List (List ALeaf)) : Option St :=
  match backVals ((List.range rows.length).map (N + 1 + ·)) (kd (N + 2) 0) as, backRows (kd (N + 2) 512) ((List.range rows.length).map (N + 1 + ·)) rows with
  | some vs, some rs => if unlike ((vs.2 ++ rs.2).map (·.1)) then some (putSlots vs.1 0 ((blank.ups (ownsU (vs.2 ++ rs.2))).ups (rs.1.map fun p => .ms p.1 p.2))) else none
  | _, _ => none
def outLeaf (t : Ty) : Leaf → Tr (ALeaf × List Nat)
  | .v u x => .ret (⟨u, x⟩, [])
  | .nil => match t with
    | .sl _ e r => .ret (⟨.sl true e r, []⟩, [])
    | _ => .fail
  | .vw k [] win => (viewT k [] win).bind fun o => .ret (⟨.sl true o.e o.r, o.xs⟩, [k])
  | _ => .fail
def outLeaves : List Ty → List Leaf → Tr (List ALeaf × List Nat)
  | [], [] => .ret ([], [])
  | t :: ts, l :: ls => (outLeaf t l).bind fun x => (outLeaves ts ls).bind fun y => .ret (x.1 :: y.1, x.2 ++ y.2)
  | _, _ => .fail
def outVal (E : Env) (N M : Nat) (t : TypeId) : SV → Tr (A1 × List Nat)
  | .s (.one l) => (outLeaf ((((E.ti t).cells).getD []).headD .unit) l).bind fun x => .ret (.one x.1, x.2)
  | .s (.ag ls) => (outLeaves (((E.ti t).cells).getD []) ls).bind fun x => .ret (.ag x.1, x.2)
  | .s (.pl k off) => if N + 1 ≤ k ∧ k < N + 1 + M then .ret (.pl (k - (N + 1)) off, []) else .fail
  | _ => .fail
def outVals (E : Env) (N M : Nat) (S : St) : List ResultVar → List TypeId → Tr (List A1 × List Nat)
  | [], [] => .ret ([], [])
  | .tmp s :: rs, t :: ts => (outVal E N M t (S.sl s)).bind fun x => (outVals E N M S rs ts).bind fun y => .ret (x.1 :: y.1, x.2 ++ y.2)
  | .cell s t' :: rs, t :: ts => match S.sl s, (E.ti t').cells with
    | .s a, some cs => if cs.isEmpty then .fail else (if (E.ti t').isAgg then (ldCells a cs.length 0).bind fun ls => Tr.ret (SV.s (.ag ls)) else (ldCell a 0).bind fun l => Tr.ret (SV.s (.one l))).bind fun v =>
        (outVal E N M t v).bind fun x => (outVals E N M S rs ts).bind fun y => .ret (x.1 :: y.1, x.2 ++ y.2)
    | _, _ => .fail
  | _, _ => .fail
def outRow (k : Nat) : List ALeaf → Nat → Tr (List ALeaf × List Nat)
  | [], _ => .ret ([], [])
  | r :: rs, c => .rdC k c fun l => (outLeaf r.1 l).bind fun x => (outRow k rs (c + 1)).bind fun y => .ret (x.1 :: y.1, x.2 ++ y.2)
def outRows (N : Nat) : List (List ALeaf) → Nat → Tr (List (List ALeaf) × List Nat)
  | [], _ => .ret ([], [])
  | r :: rs, m => .rdM (N + 1 + m) fun n => if n = some r.length then (outRow (N + 1 + m) r 0).bind fun x => (outRows N rs (m + 1)).bind fun y => .ret (x.1 :: y.1, x.2 ++ y.2)
    else .fail
def lentAt (S : St) (p : Nat × Nat) : Leaf := match S.sl p.1 with
  | .s (.one l) => if p.2 = 0 then l else .no
  | .s (.ag ls) => ls.getD p.2 .no
  | _ => .no
def outLents (S : St) : List (Nat × Nat) → Tr (List ((Nat × Nat) × ALeaf) × List Nat)
  | [] => .ret ([], [])
  | p :: ps => match lentAt S p with
    | .vw k [] none => (viewT k [] none).bind fun o => (outLents S ps).bind fun y => .ret ((p, ⟨.sl true o.e o.r, o.xs⟩) :: y.1, k :: y.2)
    | _ => .fail
def finish (E : Env) (N : Nat) (fn : Func) (rows : List (List ALeaf)) (ln : List (Nat × Nat)) (S : St) : Tr Res :=
  (((outVals E N rows.length S fn.results.toList fn.resultTypes.toList).bind fun v => (outRows N rows 0).bind fun r => (outLents S ln).bind fun t => Tr.ret (v, r, t)).at S []).bind fun p =>
    if unlike (p.1.1.2 ++ (p.1.2.1.2 ++ p.1.2.2.2)) then .ret ⟨p.1.1.1, p.1.2.1.1, p.1.2.2.1⟩ else .fail
noncomputable def vfun (E : Env) (fn : Func) (J : Joins) (ann : Ann) (ln : List (Nat × Nat)) (args : List A1) (rows : List (List ALeaf)) : Tr Res :=
  match fn.body with
  | some c => if (args.length = fn.params.size + fn.nfree ∧ args.length ≤ fn.ntmps) ∧ ln.all (fun p => E.fx.contains p.1 && decide (p.1 < args.length)) = true then
      match start fn.ntmps args rows with
      | some S => (joined J (vcode E fn.ntmps ann c S)).bind fun r => match r.1 with
        | .x _ => .fail
        | _ => finish E fn.ntmps fn rows ln r.2
      | none => .fail
      else .fail
  | none => .fail
end Go.V

set_option linter.unusedVariables false
set_option maxRecDepth 100000
namespace Go.V.G
noncomputable section
def l_szByteS (x0 : List Int) (x1 : Int) : Option (Int) :=
  if (decide ((IntKind.wrap .i64 (x1 - ((List.length x0 : Nat) : Int)) : Int) < 0)) = true then
    some (-1)
  else
    some (IntKind.wrap .i64 (x1 - ((List.length x0 : Nat) : Int)))
def l_szCacheLine (x0 : Int) (x1 : List Int) (x2 : Bool) (x3 : Int) (x4 : Int) (x5 : Int) : Option (Int) :=
  Option.bind (l_szByteS x1 x5) fun c1 =>
  if (decide ((c1 : Int) < 0)) = true then
    some (-1)
  else
    some c1
def l_szCacheLineS_L1 (y : (List (Int × (List Int × (Bool × (Int × Int)))) × (Int × Int))) : Option ((List (Int × (List Int × (Bool × (Int × Int)))) × (Int × Int)) ⊕ (Int ⊕ Int)) :=
  if (decide ((y.2.2 : Int) < ((List.length y.1 : Nat) : Int))) = true then
    if (decide ((0 : Int) ≤ y.2.2)) = true then
    Option.bind (y.1[Int.toNat y.2.2]?) fun r1 =>
    Option.bind (l_szCacheLine r1.1 r1.2.1 r1.2.2.1 r1.2.2.2.1 r1.2.2.2.2 y.2.1) fun c2 =>
    if (decide ((c2 : Int) < 0)) = true then
      some (.inr (.inr (-1)))
    else
      some (.inl (y.1, c2, IntKind.wrap .i64 (y.2.2 + 1)))
    else none
  else
    some (.inr (.inl y.2.1))
def l_szCacheLineS (x0 : List (Int × (List Int × (Bool × (Int × Int))))) (x1 : Int) : Option (Int) :=
  if (decide ((IntKind.wrap .i64 (x1 - ((List.length x0 : Nat) : Int)) : Int) < 0)) = true then
    some (-1)
  else
    Option.bind (loopG l_szCacheLineS_L1 (x0, IntKind.wrap .i64 (x1 - ((List.length x0 : Nat) : Int)), 0)) fun v3 =>
    match v3 with
    | .inl y4 =>
      some y4
    | .inr s5 =>
      some s5
def l_szCache (x0 : Int) (x1 : Int) (x2 : List (Int × (List Int × (Bool × (Int × Int))))) (x3 : Int) : Option (Int) :=
  Option.bind (l_szCacheLineS x2 x3) fun c1 =>
  if (decide ((c1 : Int) < 0)) = true then
    some (-1)
  else
    some c1
def l_szByteSS_L1 (y : (List (List Int) × (Int × Int))) : Option ((List (List Int) × (Int × Int)) ⊕ (Int ⊕ Int)) :=
  if (decide ((y.2.2 : Int) < ((List.length y.1 : Nat) : Int))) = true then
    if (decide ((0 : Int) ≤ y.2.2)) = true then
    Option.bind (y.1[Int.toNat y.2.2]?) fun r1 =>
    Option.bind (l_szByteS r1 y.2.1) fun c2 =>
    if (decide ((c2 : Int) < 0)) = true then
      some (.inr (.inr (-1)))
    else
      some (.inl (y.1, c2, IntKind.wrap .i64 (y.2.2 + 1)))
    else none
  else
    some (.inr (.inl y.2.1))
def l_szByteSS (x0 : List (List Int)) (x1 : Int) : Option (Int) :=
  if (decide ((IntKind.wrap .i64 (x1 - ((List.length x0 : Nat) : Int)) : Int) < 0)) = true then
    some (-1)
  else
    Option.bind (loopG l_szByteSS_L1 (x0, IntKind.wrap .i64 (x1 - ((List.length x0 : Nat) : Int)), 0)) fun v3 =>
    match v3 with
    | .inl y4 =>
      some y4
    | .inr s5 =>
      some s5
def l_szDisk (x0 : List (List Int)) (x1 : Int) (x2 : Bool) (x3 : Int) (x4 : Int) : Option (Int) :=
  Option.bind (l_szByteSS x0 x4) fun c1 =>
  if (decide ((c1 : Int) < 0)) = true then
    some (-1)
  else
    some c1
def l_toByteS_L1 (y : (List Int × (List Int × Int))) : Option ((List Int × (List Int × Int)) ⊕ (List Int)) :=
  if (decide ((y.2.2 : Int) < ((List.length y.1 : Nat) : Int))) = true then
    if (decide ((0 : Int) ≤ y.2.2)) = true then
    Option.bind (y.1[Int.toNat y.2.2]?) fun r1 =>
    if (decide ((0 : Int) ≤ y.2.2)) = true then
    if (decide ((y.2.2 : Int) < ((List.length y.2.1 : Nat) : Int))) = true then
    Option.bind (y.2.1[0 + Int.toNat y.2.2]?) fun r2 =>
    Option.bind (y.2.1[0 + Int.toNat y.2.2]?) fun r3 =>
    some (.inl (y.1, y.2.1.set (0 + Int.toNat y.2.2) r1, IntKind.wrap .i64 (y.2.2 + 1)))
    else none
    else none
    else none
  else
    some (.inr y.2.1)
def l_toByteS (x0 : List Int) : Option (List Int) :=
  if (decide ((0 : Int) ≤ ((List.length x0 : Nat) : Int))) = true then
  if (decide ((((List.length x0 : Nat) : Int) : Int) ≤ ((List.length x0 : Nat) : Int))) = true then
  if (roomFor (Int.toNat ((List.length x0 : Nat) : Int)) 1) = true then
  Option.bind (loopG l_toByteS_L1 (x0, List.replicate (Int.toNat ((List.length x0 : Nat) : Int)) (0 : Int), 0)) fun v4 =>
  some v4
  else none
  else none
  else none
def l_toCacheLine (x0 : Int) (x1 : List Int) (x2 : Bool) (x3 : Int) (x4 : Int) : Option ((Int × (List Int × (Bool × (Int × Int))))) :=
  Option.bind (l_toByteS x1) fun c1 =>
  some (x0, c1, x2, x3, x4)
def l_toCacheLineS_L1 (y : (List (Int × (List Int × (Bool × (Int × Int)))) × (List (Int × (List Int × (Bool × (Int × Int)))) × Int))) : Option ((List (Int × (List Int × (Bool × (Int × Int)))) × (List (Int × (List Int × (Bool × (Int × Int)))) × Int)) ⊕ (List (Int × (List Int × (Bool × (Int × Int)))))) :=
  if (decide ((y.2.2 : Int) < ((List.length y.1 : Nat) : Int))) = true then
    if (decide ((0 : Int) ≤ y.2.2)) = true then
    Option.bind (y.1[Int.toNat y.2.2]?) fun r1 =>
    Option.bind (l_toCacheLine r1.1 r1.2.1 r1.2.2.1 r1.2.2.2.1 r1.2.2.2.2) fun c2 =>
    if (decide ((0 : Int) ≤ y.2.2)) = true then
    if (decide ((y.2.2 : Int) < ((List.length y.2.1 : Nat) : Int))) = true then
    Option.bind (y.2.1[0 + Int.toNat y.2.2]?) fun r3 =>
    Option.bind (y.2.1[0 + Int.toNat y.2.2]?) fun r4 =>
    Option.bind ((y.2.1.set (0 + Int.toNat y.2.2) (c2.1, r4.2))[0 + Int.toNat y.2.2]?) fun r5 =>
    Option.bind ((y.2.1.set (0 + Int.toNat y.2.2) (c2.1, r4.2))[0 + Int.toNat y.2.2]?) fun r6 =>
    Option.bind (((y.2.1.set (0 + Int.toNat y.2.2) (c2.1, r4.2)).set (0 + Int.toNat y.2.2) (r6.1, (c2.2.1, r6.2.2)))[0 + Int.toNat y.2.2]?) fun r7 =>
    Option.bind (((y.2.1.set (0 + Int.toNat y.2.2) (c2.1, r4.2)).set (0 + Int.toNat y.2.2) (r6.1, (c2.2.1, r6.2.2)))[0 + Int.toNat y.2.2]?) fun r8 =>
    Option.bind ((((y.2.1.set (0 + Int.toNat y.2.2) (c2.1, r4.2)).set (0 + Int.toNat y.2.2) (r6.1, (c2.2.1, r6.2.2))).set (0 + Int.toNat y.2.2) (r8.1, (r8.2.1, (c2.2.2.1, r8.2.2.2))))[0 + Int.toNat y.2.2]?) fun r9 =>
    Option.bind ((((y.2.1.set (0 + Int.toNat y.2.2) (c2.1, r4.2)).set (0 + Int.toNat y.2.2) (r6.1, (c2.2.1, r6.2.2))).set (0 + Int.toNat y.2.2) (r8.1, (r8.2.1, (c2.2.2.1, r8.2.2.2))))[0 + Int.toNat y.2.2]?) fun r10 =>
    Option.bind (((((y.2.1.set (0 + Int.toNat y.2.2) (c2.1, r4.2)).set (0 + Int.toNat y.2.2) (r6.1, (c2.2.1, r6.2.2))).set (0 + Int.toNat y.2.2) (r8.1, (r8.2.1, (c2.2.2.1, r8.2.2.2)))).set (0 + Int.toNat y.2.2) (r10.1, (r10.2.1, (r10.2.2.1, (c2.2.2.2.1, r10.2.2.2.2)))))[0 + Int.toNat y.2.2]?) fun r11 =>
    Option.bind (((((y.2.1.set (0 + Int.toNat y.2.2) (c2.1, r4.2)).set (0 + Int.toNat y.2.2) (r6.1, (c2.2.1, r6.2.2))).set (0 + Int.toNat y.2.2) (r8.1, (r8.2.1, (c2.2.2.1, r8.2.2.2)))).set (0 + Int.toNat y.2.2) (r10.1, (r10.2.1, (r10.2.2.1, (c2.2.2.2.1, r10.2.2.2.2)))))[0 + Int.toNat y.2.2]?) fun r12 =>
    some (.inl (y.1, ((((y.2.1.set (0 + Int.toNat y.2.2) (c2.1, r4.2)).set (0 + Int.toNat y.2.2) (r6.1, (c2.2.1, r6.2.2))).set (0 + Int.toNat y.2.2) (r8.1, (r8.2.1, (c2.2.2.1, r8.2.2.2)))).set (0 + Int.toNat y.2.2) (r10.1, (r10.2.1, (r10.2.2.1, (c2.2.2.2.1, r10.2.2.2.2))))).set (0 + Int.toNat y.2.2) (r12.1, (r12.2.1, (r12.2.2.1, (r12.2.2.2.1, c2.2.2.2.2)))), IntKind.wrap .i64 (y.2.2 + 1)))
    else none
    else none
    else none
  else
    some (.inr y.2.1)
def l_toCacheLineS (x0 : List (Int × (List Int × (Bool × (Int × Int))))) : Option (List (Int × (List Int × (Bool × (Int × Int))))) :=
  if (decide ((0 : Int) ≤ ((List.length x0 : Nat) : Int))) = true then
  if (decide ((((List.length x0 : Nat) : Int) : Int) ≤ ((List.length x0 : Nat) : Int))) = true then
  if (roomFor (Int.toNat ((List.length x0 : Nat) : Int)) 56) = true then
  Option.bind (loopG l_toCacheLineS_L1 (x0, List.replicate (Int.toNat ((List.length x0 : Nat) : Int)) ((0, ([], (false, (0, 0)))) : (Int × (List Int × (Bool × (Int × Int))))), 0)) fun v13 =>
  some v13
  else none
  else none
  else none
def l_toCache (x0 : Int) (x1 : Int) (x2 : List (Int × (List Int × (Bool × (Int × Int))))) : Option ((Int × (Int × List (Int × (List Int × (Bool × (Int × Int))))))) :=
  Option.bind (l_toCacheLineS x2) fun c1 =>
  some (x0, x1, c1)
def l_toByteSS_L1 (y : (List (List Int) × (List (List Int) × Int))) : Option ((List (List Int) × (List (List Int) × Int)) ⊕ (List (List Int))) :=
  if (decide ((y.2.2 : Int) < ((List.length y.1 : Nat) : Int))) = true then
    if (decide ((0 : Int) ≤ y.2.2)) = true then
    Option.bind (y.1[Int.toNat y.2.2]?) fun r1 =>
    Option.bind (l_toByteS r1) fun c2 =>
    if (decide ((0 : Int) ≤ y.2.2)) = true then
    if (decide ((y.2.2 : Int) < ((List.length y.2.1 : Nat) : Int))) = true then
    Option.bind (y.2.1[0 + Int.toNat y.2.2]?) fun r3 =>
    Option.bind (y.2.1[0 + Int.toNat y.2.2]?) fun r4 =>
    some (.inl (y.1, y.2.1.set (0 + Int.toNat y.2.2) c2, IntKind.wrap .i64 (y.2.2 + 1)))
    else none
    else none
    else none
  else
    some (.inr y.2.1)
def l_toByteSS (x0 : List (List Int)) : Option (List (List Int)) :=
  if (decide ((0 : Int) ≤ ((List.length x0 : Nat) : Int))) = true then
  if (decide ((((List.length x0 : Nat) : Int) : Int) ≤ ((List.length x0 : Nat) : Int))) = true then
  if (roomFor (Int.toNat ((List.length x0 : Nat) : Int)) 24) = true then
  Option.bind (loopG l_toByteSS_L1 (x0, List.replicate (Int.toNat ((List.length x0 : Nat) : Int)) ([] : List Int), 0)) fun v5 =>
  some v5
  else none
  else none
  else none
def l_toDisk (x0 : List (List Int)) (x1 : Int) (x2 : Bool) (x3 : Int) : Option ((List (List Int) × (Int × (Bool × Int)))) :=
  Option.bind (l_toByteSS x0) fun c1 =>
  some (c1, x1, x2, x3)
def s_l1In (x0 : Int) (x1 : Int) (x2 : Int) : Option (Bool) :=
  Option.bind (α := Bool) (
      if (decide ((x1 : Int) ≤ x0)) = true then
        some (decide ((x0 : Int) ≤ x2))
      else
      some false) fun v1 =>
  some v1
def s_GoodDisk_L1 (y : (List (List Int) × (Int × Int))) : Option ((List (List Int) × (Int × Int)) ⊕ (Unit ⊕ Bool)) :=
  if (decide ((y.2.2 : Int) < y.2.1)) = true then
    if (decide ((0 : Int) ≤ y.2.2)) = true then
    Option.bind (y.1[Int.toNat y.2.2]?) fun r5 =>
    if (decide (¬ (((List.length r5 : Nat) : Int) : Int) = 128)) = true then
      some (.inr (.inr false))
    else
      some (.inl (y.1, y.2.1, IntKind.wrap .i64 (y.2.2 + 1)))
    else none
  else
    some (.inr (.inl ()))
def s_GoodDisk (x0 : List (List Int)) (x1 : Int) (x2 : Bool) (x3 : Int) : Option (Bool) :=
  Option.bind (α := (Bool × (List (List Int) × (Int × (Bool × Int))))) (
      Option.bind (s_l1In ((List.length x0 : Nat) : Int) 40 160) fun c1 =>
      if (!c1) = true then
        some (true, x0, x1, x2, x3)
      else
        Option.bind (s_l1In x1 0 1000000000) fun c2 =>
        if (!c2) = true then
          some (true, x0, x1, x2, x3)
        else
          Option.bind (s_l1In x3 (-1) 1000000) fun c3 =>
          some ((!c3), x0, x1, x2, x3)) fun v4 =>
  if v4.1 = true then
    some false
  else
    Option.bind (loopG s_GoodDisk_L1 (v4.2.1, ((List.length v4.2.1 : Nat) : Int), 0)) fun v6 =>
    match v6 with
    | .inl y7 =>
      some true
    | .inr s8 =>
      some s8
def s_GoodCache_L1 (y : (List (Int × (List Int × (Bool × (Int × Int)))) × (Int × (Int × (List (Int × (List Int × (Bool × (Int × Int)))) × (Int × (Int × (Int × (Int × (List (Int × (List Int × (Bool × (Int × Int)))) × (List (List Int) × (Int × (Bool × (Int × (Int × (List Int × (Bool × (Int × Int)))))))))))))))))) : Option ((List (Int × (List Int × (Bool × (Int × Int)))) × (Int × (Int × (List (Int × (List Int × (Bool × (Int × Int)))) × (Int × (Int × (Int × (Int × (List (Int × (List Int × (Bool × (Int × Int)))) × (List (List Int) × (Int × (Bool × (Int × (Int × (List Int × (Bool × (Int × Int))))))))))))))))) ⊕ ((List (Int × (List Int × (Bool × (Int × Int)))) × (Int × (Int × (Int × (Int × (List (Int × (List Int × (Bool × (Int × Int)))) × (List (List Int) × (Int × (Bool × Int))))))))) ⊕ Bool)) :=
  if (decide ((y.2.2.2.2.2.1 : Int) < y.2.2.2.2.1)) = true then
    if (decide ((0 : Int) ≤ y.2.2.2.2.2.1)) = true then
    Option.bind (y.2.2.2.1[Int.toNat y.2.2.2.2.2.1]?) fun r17 =>
    if (decide ((r17.2.2.2.2 : Int) = y.2.2.2.2.2.2.2.2.2.2.2.2.2.2.2.2.2)) = true then
      some (.inr (.inr false))
    else
      some (.inl (y.1, y.2.1, y.2.2.1, y.2.2.2.1, y.2.2.2.2.1, IntKind.wrap .i64 (y.2.2.2.2.2.1 + 1), y.2.2.2.2.2.2.1, y.2.2.2.2.2.2.2.1, y.2.2.2.2.2.2.2.2.1, y.2.2.2.2.2.2.2.2.2.1, y.2.2.2.2.2.2.2.2.2.2.1, y.2.2.2.2.2.2.2.2.2.2.2.1, y.2.2.2.2.2.2.2.2.2.2.2.2.1, y.2.2.2.2.2.2.2.2.2.2.2.2.2.1, y.2.2.2.2.2.2.2.2.2.2.2.2.2.2.1, y.2.2.2.2.2.2.2.2.2.2.2.2.2.2.2.1, y.2.2.2.2.2.2.2.2.2.2.2.2.2.2.2.2.1, y.2.2.2.2.2.2.2.2.2.2.2.2.2.2.2.2.2))
    else none
  else
    some (.inr (.inl (y.1, y.2.1, y.2.2.1, y.2.2.2.2.2.2.1, y.2.2.2.2.2.2.2.1, y.2.2.2.2.2.2.2.2.1, y.2.2.2.2.2.2.2.2.2.1, y.2.2.2.2.2.2.2.2.2.2.1, y.2.2.2.2.2.2.2.2.2.2.2.1, y.2.2.2.2.2.2.2.2.2.2.2.2.1)))
def s_GoodCache_L2 (y : (List (Int × (List Int × (Bool × (Int × Int)))) × (Int × (Int × (Int × (Int × (List (Int × (List Int × (Bool × (Int × Int)))) × (List (List Int) × (Int × (Bool × Int)))))))))) : Option ((List (Int × (List Int × (Bool × (Int × Int)))) × (Int × (Int × (Int × (Int × (List (Int × (List Int × (Bool × (Int × Int)))) × (List (List Int) × (Int × (Bool × Int))))))))) ⊕ (Unit ⊕ Bool)) :=
  if (decide ((y.2.2.1 : Int) < y.2.1)) = true then
    if (decide ((0 : Int) ≤ y.2.2.1)) = true then
    Option.bind (y.1[Int.toNat y.2.2.1]?) fun r5 =>
    Option.bind (α := (Int × (List (Int × (List Int × (Bool × (Int × Int)))) × (Int × (Int × (Bool × (Int × (Int × (List (Int × (List Int × (Bool × (Int × Int)))) × (List (List Int) × (Int × (Bool × (Int × (Int × (List Int × (Bool × (Int × Int))))))))))))))))) (
        Option.bind (s_l1In r5.1 0 (IntKind.wrap .i64 (((List.length y.2.2.2.2.2.2.1 : Nat) : Int) - 1))) fun c6 =>
        if (!c6) = true then
          some (y.2.2.1, y.1, y.2.1, y.2.2.1, true, y.2.2.2.1, y.2.2.2.2.1, y.2.2.2.2.2.1, y.2.2.2.2.2.2.1, y.2.2.2.2.2.2.2.1, y.2.2.2.2.2.2.2.2.1, y.2.2.2.2.2.2.2.2.2, r5.1, r5.2.1, r5.2.2.1, r5.2.2.2.1, r5.2.2.2.2)
        else
        if (decide ((0 : Int) < y.2.2.1)) = true then
          if (decide ((0 : Int) ≤ IntKind.wrap .i64 (y.2.2.1 - 1))) = true then
          Option.bind (y.2.2.2.2.2.1[Int.toNat (IntKind.wrap .i64 (y.2.2.1 - 1))]?) fun r7 =>
          if (decide ((r5.1 : Int) ≤ r7.1)) = true then
            some (y.2.2.1, y.1, y.2.1, y.2.2.1, true, y.2.2.2.1, y.2.2.2.2.1, y.2.2.2.2.2.1, y.2.2.2.2.2.2.1, y.2.2.2.2.2.2.2.1, y.2.2.2.2.2.2.2.2.1, y.2.2.2.2.2.2.2.2.2, r5.1, r5.2.1, r5.2.2.1, r5.2.2.2.1, r5.2.2.2.2)
          else
          if (decide (¬ (((List.length r5.2.1 : Nat) : Int) : Int) = 128)) = true then
            some (y.2.2.1, y.1, y.2.1, y.2.2.1, true, y.2.2.2.1, y.2.2.2.2.1, y.2.2.2.2.2.1, y.2.2.2.2.2.2.1, y.2.2.2.2.2.2.2.1, y.2.2.2.2.2.2.2.2.1, y.2.2.2.2.2.2.2.2.2, r5.1, r5.2.1, r5.2.2.1, r5.2.2.2.1, r5.2.2.2.2)
          else
            Option.bind (s_l1In r5.2.2.2.1 0 100) fun c8 =>
            if (!c8) = true then
              some (y.2.2.1, y.1, y.2.1, y.2.2.1, true, y.2.2.2.1, y.2.2.2.2.1, y.2.2.2.2.2.1, y.2.2.2.2.2.2.1, y.2.2.2.2.2.2.2.1, y.2.2.2.2.2.2.2.2.1, y.2.2.2.2.2.2.2.2.2, r5.1, r5.2.1, r5.2.2.1, r5.2.2.2.1, r5.2.2.2.2)
            else
              Option.bind (s_l1In r5.2.2.2.2 1 y.2.2.2.2.1) fun c9 =>
              some (y.2.2.1, y.1, y.2.1, y.2.2.1, (!c9), y.2.2.2.1, y.2.2.2.2.1, y.2.2.2.2.2.1, y.2.2.2.2.2.2.1, y.2.2.2.2.2.2.2.1, y.2.2.2.2.2.2.2.2.1, y.2.2.2.2.2.2.2.2.2, r5.1, r5.2.1, r5.2.2.1, r5.2.2.2.1, r5.2.2.2.2)
          else none
        else
        if (decide (¬ (((List.length r5.2.1 : Nat) : Int) : Int) = 128)) = true then
          some (y.2.2.1, y.1, y.2.1, y.2.2.1, true, y.2.2.2.1, y.2.2.2.2.1, y.2.2.2.2.2.1, y.2.2.2.2.2.2.1, y.2.2.2.2.2.2.2.1, y.2.2.2.2.2.2.2.2.1, y.2.2.2.2.2.2.2.2.2, r5.1, r5.2.1, r5.2.2.1, r5.2.2.2.1, r5.2.2.2.2)
        else
          Option.bind (s_l1In r5.2.2.2.1 0 100) fun c12 =>
          if (!c12) = true then
            some (y.2.2.1, y.1, y.2.1, y.2.2.1, true, y.2.2.2.1, y.2.2.2.2.1, y.2.2.2.2.2.1, y.2.2.2.2.2.2.1, y.2.2.2.2.2.2.2.1, y.2.2.2.2.2.2.2.2.1, y.2.2.2.2.2.2.2.2.2, r5.1, r5.2.1, r5.2.2.1, r5.2.2.2.1, r5.2.2.2.2)
          else
            Option.bind (s_l1In r5.2.2.2.2 1 y.2.2.2.2.1) fun c13 =>
            some (y.2.2.1, y.1, y.2.1, y.2.2.1, (!c13), y.2.2.2.1, y.2.2.2.2.1, y.2.2.2.2.2.1, y.2.2.2.2.2.2.1, y.2.2.2.2.2.2.2.1, y.2.2.2.2.2.2.2.2.1, y.2.2.2.2.2.2.2.2.2, r5.1, r5.2.1, r5.2.2.1, r5.2.2.2.1, r5.2.2.2.2)) fun v14 =>
    if v14.2.2.2.2.1 = true then
      some (.inr (.inr false))
    else
      Option.bind (α := (Int × (List (Int × (List Int × (Bool × (Int × Int)))) × (Int × (Int × (Bool × (Int × (Int × (List (Int × (List Int × (Bool × (Int × Int)))) × (List (List Int) × (Int × (Bool × (Int × (Int × (List Int × (Bool × (Int × Int))))))))))))))))) (
          if (!v14.2.2.2.2.2.2.2.2.2.2.2.2.2.2.1) = true then
            if (decide ((0 : Int) ≤ v14.2.2.2.2.2.2.2.2.2.2.2.2.1)) = true then
            Option.bind (v14.2.2.2.2.2.2.2.2.1[Int.toNat v14.2.2.2.2.2.2.2.2.2.2.2.2.1]?) fun r15 =>
            some (v14.1, v14.2.1, v14.2.2.1, v14.2.2.2.1, (!((textOf v14.2.2.2.2.2.2.2.2.2.2.2.2.2.1 : List UInt8) == (textOf r15))), v14.2.2.2.2.2.1, v14.2.2.2.2.2.2.1, v14.2.2.2.2.2.2.2.1, v14.2.2.2.2.2.2.2.2.1, v14.2.2.2.2.2.2.2.2.2.1, v14.2.2.2.2.2.2.2.2.2.2.1, v14.2.2.2.2.2.2.2.2.2.2.2.1, v14.2.2.2.2.2.2.2.2.2.2.2.2.1, v14.2.2.2.2.2.2.2.2.2.2.2.2.2.1, v14.2.2.2.2.2.2.2.2.2.2.2.2.2.2.1, v14.2.2.2.2.2.2.2.2.2.2.2.2.2.2.2.1, v14.2.2.2.2.2.2.2.2.2.2.2.2.2.2.2.2)
            else none
          else
          some (v14.1, v14.2.1, v14.2.2.1, v14.2.2.2.1, false, v14.2.2.2.2.2.1, v14.2.2.2.2.2.2.1, v14.2.2.2.2.2.2.2.1, v14.2.2.2.2.2.2.2.2.1, v14.2.2.2.2.2.2.2.2.2.1, v14.2.2.2.2.2.2.2.2.2.2.1, v14.2.2.2.2.2.2.2.2.2.2.2.1, v14.2.2.2.2.2.2.2.2.2.2.2.2.1, v14.2.2.2.2.2.2.2.2.2.2.2.2.2.1, v14.2.2.2.2.2.2.2.2.2.2.2.2.2.2.1, v14.2.2.2.2.2.2.2.2.2.2.2.2.2.2.2.1, v14.2.2.2.2.2.2.2.2.2.2.2.2.2.2.2.2)) fun v16 =>
      if v16.2.2.2.2.1 = true then
        some (.inr (.inr false))
      else
      if (decide ((0 : Int) ≤ 0)) = true then
      if (decide ((0 : Int) ≤ v16.1)) = true then
      if (decide ((v16.1 : Int) ≤ ((List.length v16.2.2.2.2.2.2.2.1 : Nat) : Int))) = true then
      if (decide ((((List.length v16.2.2.2.2.2.2.2.1 : Nat) : Int) : Int) ≤ ((List.length v16.2.2.2.2.2.2.2.1 : Nat) : Int))) = true then
      Option.bind (loopG s_GoodCache_L1 (v16.2.1, v16.2.2.1, v16.2.2.2.1, (List.drop (Int.toNat 0) v16.2.2.2.2.2.2.2.1).take (Int.toNat v16.1 - Int.toNat 0), ((List.length ((List.drop (Int.toNat 0) v16.2.2.2.2.2.2.2.1).take (Int.toNat v16.1 - Int.toNat 0)) : Nat) : Int), 0, v16.2.2.2.2.2.1, v16.2.2.2.2.2.2.1, v16.2.2.2.2.2.2.2.1, v16.2.2.2.2.2.2.2.2.1, v16.2.2.2.2.2.2.2.2.2.1, v16.2.2.2.2.2.2.2.2.2.2.1, v16.2.2.2.2.2.2.2.2.2.2.2.1, v16.2.2.2.2.2.2.2.2.2.2.2.2.1, v16.2.2.2.2.2.2.2.2.2.2.2.2.2.1, v16.2.2.2.2.2.2.2.2.2.2.2.2.2.2.1, v16.2.2.2.2.2.2.2.2.2.2.2.2.2.2.2.1, v16.2.2.2.2.2.2.2.2.2.2.2.2.2.2.2.2)) fun v18 =>
      match v18 with
      | .inl y19 =>
        some (.inl (y19.1, y19.2.1, IntKind.wrap .i64 (y19.2.2.1 + 1), y19.2.2.2.1, y19.2.2.2.2.1, y19.2.2.2.2.2.1, y19.2.2.2.2.2.2.1, y19.2.2.2.2.2.2.2.1, y19.2.2.2.2.2.2.2.2.1, y19.2.2.2.2.2.2.2.2.2))
      | .inr s20 =>
        some (.inr (.inr s20))
      else none
      else none
      else none
      else none
    else none
  else
    some (.inr (.inl ()))
def s_GoodCache (x0 : Int) (x1 : Int) (x2 : List (Int × (List Int × (Bool × (Int × Int))))) (x3 : List (List Int)) (x4 : Int) (x5 : Bool) (x6 : Int) : Option (Bool) :=
  Option.bind (α := (Bool × (Int × (Int × (List (Int × (List Int × (Bool × (Int × Int)))) × (List (List Int) × (Int × (Bool × Int)))))))) (
      Option.bind (s_GoodDisk x3 x4 x5 x6) fun c1 =>
      if (!c1) = true then
        some (true, x0, x1, x2, x3, x4, x5, x6)
      else
        Option.bind (s_l1In x0 1 8) fun c2 =>
        if (!c2) = true then
          some (true, x0, x1, x2, x3, x4, x5, x6)
        else
          Option.bind (s_l1In x1 0 1000000) fun c3 =>
          if (!c3) = true then
            some (true, x0, x1, x2, x3, x4, x5, x6)
          else
          some (decide ((x0 : Int) < ((List.length x2 : Nat) : Int)), x0, x1, x2, x3, x4, x5, x6)) fun v4 =>
  if v4.1 = true then
    some false
  else
    Option.bind (loopG s_GoodCache_L2 (v4.2.2.2.1, ((List.length v4.2.2.2.1 : Nat) : Int), 0, v4.2.1, v4.2.2.1, v4.2.2.2.1, v4.2.2.2.2.1, v4.2.2.2.2.2.1, v4.2.2.2.2.2.2.1, v4.2.2.2.2.2.2.2)) fun v21 =>
    match v21 with
    | .inl y22 =>
      some true
    | .inr s23 =>
      some s23
def s_l3Own_L1 (y : (List (Int × (List Int × (Bool × (Int × Int)))) × (List (Int × (List Int × (Bool × (Int × Int)))) × (Int × (Int × (Int × (Int × (List (Int × (List Int × (Bool × (Int × Int)))) × (Int × Int))))))))) : Option ((List (Int × (List Int × (Bool × (Int × Int)))) × (List (Int × (List Int × (Bool × (Int × Int)))) × (Int × (Int × (Int × (Int × (List (Int × (List Int × (Bool × (Int × Int)))) × (Int × Int)))))))) ⊕ (List (Int × (List Int × (Bool × (Int × Int)))) × (Int × (Int × (List (Int × (List Int × (Bool × (Int × Int)))) × (Int × Int)))))) :=
  if (decide ((y.2.2.2.1 : Int) < y.2.2.1)) = true then
    if (decide ((0 : Int) ≤ y.2.2.2.1)) = true then
    Option.bind (y.2.1[Int.toNat y.2.2.2.1]?) fun r2 =>
    if (roomFor (List.length ([] : List Int) + List.length r2.2.1) 1) = true then
    if (roomFor (List.length y.1 + List.length ([(r2.1, (([] : List Int) ++ r2.2.1, (r2.2.2.1, (r2.2.2.2.1, r2.2.2.2.2))))] : List (Int × (List Int × (Bool × (Int × Int)))))) 56) = true then
    some (.inl (y.1 ++ ([(r2.1, (([] : List Int) ++ r2.2.1, (r2.2.2.1, (r2.2.2.2.1, r2.2.2.2.2))))] : List (Int × (List Int × (Bool × (Int × Int))))), y.2.1, y.2.2.1, IntKind.wrap .i64 (y.2.2.2.1 + 1), y.2.2.2.2.1, y.2.2.2.2.2.1, y.2.2.2.2.2.2.1, y.2.2.2.2.2.2.2.1, y.2.2.2.2.2.2.2.2))
    else none
    else none
    else none
  else
    some (.inr (y.1, y.2.2.2.2.1, y.2.2.2.2.2.1, y.2.2.2.2.2.2.1, y.2.2.2.2.2.2.2.1, y.2.2.2.2.2.2.2.2))
def s_l3Own (x0 : Int) (x1 : Int) (x2 : List (Int × (List Int × (Bool × (Int × Int))))) : Option ((Int × (Int × List (Int × (List Int × (Bool × (Int × Int))))))) :=
  Option.bind (loopG s_l3Own_L1 ([], x2, ((List.length x2 : Nat) : Int), 0, x0, x1, x2, 0, 0)) fun v3 =>
  some (v3.2.1, v3.2.2.1, v3.1)
def s_l3At_L1 (y : (Int × (List (Int × (List Int × (Bool × (Int × Int)))) × (Int × Int)))) : Option ((Int × (List (Int × (List Int × (Bool × (Int × Int)))) × (Int × Int))) ⊕ (Unit ⊕ Int)) :=
  if (decide ((y.2.2.2 : Int) < y.2.2.1)) = true then
    if (decide ((0 : Int) ≤ y.2.2.2)) = true then
    Option.bind (y.2.1[Int.toNat y.2.2.2]?) fun r1 =>
    if (decide ((r1.1 : Int) = y.1)) = true then
      some (.inr (.inr y.2.2.2))
    else
      some (.inl (y.1, y.2.1, y.2.2.1, IntKind.wrap .i64 (y.2.2.2 + 1)))
    else none
  else
    some (.inr (.inl ()))
def s_l3At (x0 : Int) (x1 : Int) (x2 : List (Int × (List Int × (Bool × (Int × Int))))) (x3 : Int) : Option (Int) :=
  Option.bind (loopG s_l3At_L1 (x3, x2, ((List.length x2 : Nat) : Int), 0)) fun v2 =>
  match v2 with
  | .inl y3 =>
    some (-1)
  | .inr s4 =>
    some s4
def s_PinLine (x0 : Int) (x1 : Int) (x2 : List (Int × (List Int × (Bool × (Int × Int))))) (x3 : List (List Int)) (x4 : Int) (x5 : Bool) (x6 : Int) (x7 : Int) (x8 : Int) : Option ((Int × (Int × (Int × List (Int × (List Int × (Bool × (Int × Int)))))))) :=
  Option.bind (α := (Int × (Int × (Bool × (Int × (Int × (List (Int × (List Int × (Bool × (Int × Int)))) × (List (List Int) × (Int × (Bool × (Int × (Int × Int)))))))))))) (
      Option.bind (s_GoodCache x0 x1 x2 x3 x4 x5 x6) fun c1 =>
      if (!c1) = true then
        some (x7, x8, true, x0, x1, x2, x3, x4, x5, x6, 0, 0)
      else
      if (decide (¬ (x8 : Int) = 1)) = true then
        some (x7, x8, decide (¬ (x8 : Int) = (-1)), x0, x1, x2, x3, x4, x5, x6, 0, 0)
      else
      some (x7, x8, false, x0, x1, x2, x3, x4, x5, x6, 0, 0)) fun v2 =>
  if v2.2.2.1 = true then
    some (1, 0, 0, [])
  else
    Option.bind (s_l3Own v2.2.2.2.1 v2.2.2.2.2.1 v2.2.2.2.2.2.1) fun c3 =>
    Option.bind (s_l1In v2.1 0 (IntKind.wrap .i64 (((List.length v2.2.2.2.2.2.2.1 : Nat) : Int) - 1))) fun c4 =>
    if (!c4) = true then
      some (2, c3.1, c3.2.1, c3.2.2)
    else
      Option.bind (s_l3At c3.1 c3.2.1 c3.2.2 v2.1) fun c5 =>
      Option.bind (α := (Int × (Int × (Bool × (Int × (Int × (List (Int × (List Int × (Bool × (Int × Int)))) × (Int × Int)))))))) (
          if (decide ((c5 : Int) < 0)) = true then
            some (v2.2.1, c5, true, c3.1, c3.2.1, c3.2.2, v2.2.2.2.2.2.2.2.2.2.2.1, v2.2.2.2.2.2.2.2.2.2.2.2)
          else
          if (decide ((0 : Int) ≤ c5)) = true then
          if (decide ((c5 : Int) < ((List.length c3.2.2 : Nat) : Int))) = true then
          Option.bind (c3.2.2[0 + Int.toNat c5]?) fun r6 =>
          Option.bind (s_l1In (IntKind.wrap .i64 (r6.2.2.2.1 + v2.2.1)) 0 100) fun c7 =>
          some (v2.2.1, c5, (!c7), c3.1, c3.2.1, c3.2.2, v2.2.2.2.2.2.2.2.2.2.2.1, v2.2.2.2.2.2.2.2.2.2.2.2)
          else none
          else none) fun v8 =>
      if v8.2.2.1 = true then
        some (4, v8.2.2.2.1, v8.2.2.2.2.1, v8.2.2.2.2.2.1)
      else
      if (decide ((0 : Int) ≤ v8.2.1)) = true then
      if (decide ((v8.2.1 : Int) < ((List.length v8.2.2.2.2.2.1 : Nat) : Int))) = true then
      Option.bind (v8.2.2.2.2.2.1[0 + Int.toNat v8.2.1]?) fun r9 =>
      if (decide ((0 : Int) ≤ v8.2.1)) = true then
      if (decide ((v8.2.1 : Int) < ((List.length v8.2.2.2.2.2.1 : Nat) : Int))) = true then
      Option.bind (v8.2.2.2.2.2.1[0 + Int.toNat v8.2.1]?) fun r10 =>
      Option.bind (v8.2.2.2.2.2.1[0 + Int.toNat v8.2.1]?) fun r11 =>
      some (0, v8.2.2.2.1, v8.2.2.2.2.1, v8.2.2.2.2.2.1.set (0 + Int.toNat v8.2.1) (r11.1, (r11.2.1, (r11.2.2.1, (IntKind.wrap .i64 (r9.2.2.2.1 + v8.1), r11.2.2.2.2)))))
      else none
      else none
      else none
      else none
def i_within (x0 : Int) (x1 : Int) (x2 : Int) : Option (Bool) :=
  Option.bind (α := Bool) (
      if (decide ((x1 : Int) ≤ x0)) = true then
        some (decide ((x0 : Int) ≤ x2))
      else
      some false) fun v1 =>
  some v1
def i_areBlocks_1 (x0 : List Int) : Option (Bool) :=
  some (decide (¬ (((List.length x0 : Nat) : Int) : Int) = 128))
def slices_IndexFunc_byte_byte_i_areBlocks_1_L1 (y : (List (List Int) × (Int × Int))) : Option ((List (List Int) × (Int × Int)) ⊕ (Unit ⊕ Int)) :=
  if (decide ((y.2.2 : Int) < y.2.1)) = true then
    if (decide ((0 : Int) ≤ y.2.2)) = true then
    Option.bind (y.1[Int.toNat y.2.2]?) fun r1 =>
    Option.bind (i_areBlocks_1 r1) fun c2 =>
    if c2 = true then
      some (.inr (.inr y.2.2))
    else
      some (.inl (y.1, y.2.1, IntKind.wrap .i64 (y.2.2 + 1)))
    else none
  else
    some (.inr (.inl ()))
def slices_IndexFunc_byte_byte_i_areBlocks_1 (x0 : List (List Int)) : Option (Int) :=
  Option.bind (loopG slices_IndexFunc_byte_byte_i_areBlocks_1_L1 (x0, ((List.length x0 : Nat) : Int), 0)) fun v3 =>
  match v3 with
  | .inl y4 =>
    some (-1)
  | .inr s5 =>
    some s5
def slices_ContainsFunc_byte_byte_i_areBlocks_1 (x0 : List (List Int)) : Option (Bool) :=
  Option.bind (slices_IndexFunc_byte_byte_i_areBlocks_1 x0) fun c1 =>
  some (decide ((0 : Int) ≤ c1))
def i_areBlocks (x0 : List (List Int)) : Option (Bool) :=
  Option.bind (α := Bool) (
      Option.bind (i_within ((List.length x0 : Nat) : Int) 40 160) fun c1 =>
      if c1 = true then
        Option.bind (slices_ContainsFunc_byte_byte_i_areBlocks_1 x0) fun c2 =>
        some (!c2)
      else
      some false) fun v3 =>
  some v3
def i_GoodDisk (x0 : List (List Int)) (x1 : Int) (x2 : Bool) (x3 : Int) : Option (Bool) :=
  Option.bind (α := Bool) (
      Option.bind (i_areBlocks x0) fun c1 =>
      if c1 = true then
        Option.bind (i_within x1 0 1000000000) fun c2 =>
        if c2 = true then
          Option.bind (i_within x3 (-1) 1000000) fun c3 =>
          some c3
        else
        some false
      else
      some false) fun v4 =>
  some v4
def i_Disk_has (x0 : List (List Int)) (x1 : Int) (x2 : Bool) (x3 : Int) (x4 : Int) : Option (Bool) :=
  Option.bind (i_within x4 0 (IntKind.wrap .i64 (((List.length x0 : Nat) : Int) - 1))) fun c1 =>
  some c1
def slices_Equal_byte_byte_L1 (y : (List Int × (List Int × (Int × Int)))) : Option ((List Int × (List Int × (Int × Int))) ⊕ (Unit ⊕ Bool)) :=
  if (decide ((y.2.2.2 : Int) < y.2.2.1)) = true then
    if (decide ((0 : Int) ≤ y.2.2.2)) = true then
    Option.bind (y.1[Int.toNat y.2.2.2]?) fun r1 =>
    if (decide ((0 : Int) ≤ y.2.2.2)) = true then
    Option.bind (y.2.1[Int.toNat y.2.2.2]?) fun r2 =>
    if (decide (¬ (r1 : Int) = r2)) = true then
      some (.inr (.inr false))
    else
      some (.inl (y.1, y.2.1, y.2.2.1, IntKind.wrap .i64 (y.2.2.2 + 1)))
    else none
    else none
  else
    some (.inr (.inl ()))
def slices_Equal_byte_byte (x0 : List Int) (x1 : List Int) : Option (Bool) :=
  if (decide (¬ (((List.length x0 : Nat) : Int) : Int) = ((List.length x1 : Nat) : Int))) = true then
    some false
  else
    Option.bind (loopG slices_Equal_byte_byte_L1 (x0, x1, ((List.length x0 : Nat) : Int), 0)) fun v3 =>
    match v3 with
    | .inl y4 =>
      some true
    | .inr s5 =>
      some s5
def i_GoodCache_1_f (x0 : Int) (x1 : List Int) (x2 : Bool) (x3 : Int) (x4 : Int) (x5 : Int) (x6 : List Int) (x7 : Bool) (x8 : Int) (x9 : Int) : Option ((Bool × (Int × (List Int × (Bool × (Int × Int)))))) :=
  some (decide ((x4 : Int) = x9), x5, x6, x7, x8, x9)
def slices_IndexFunc_loop_example_g00083_impl_CacheLine_loop_example_g00083_impl_CacheLine_i_GoodCache_1_f_L1 (y : (List (Int × (List Int × (Bool × (Int × Int)))) × (Int × (Int × (Int × (List Int × (Bool × (Int × Int)))))))) : Option ((List (Int × (List Int × (Bool × (Int × Int)))) × (Int × (Int × (Int × (List Int × (Bool × (Int × Int))))))) ⊕ ((Int × (List Int × (Bool × (Int × Int)))) ⊕ (Int × (Int × (List Int × (Bool × (Int × Int))))))) :=
  if (decide ((y.2.2.1 : Int) < y.2.1)) = true then
    if (decide ((0 : Int) ≤ y.2.2.1)) = true then
    Option.bind (y.1[Int.toNat y.2.2.1]?) fun r1 =>
    Option.bind (i_GoodCache_1_f r1.1 r1.2.1 r1.2.2.1 r1.2.2.2.1 r1.2.2.2.2 y.2.2.2.1 y.2.2.2.2.1 y.2.2.2.2.2.1 y.2.2.2.2.2.2.1 y.2.2.2.2.2.2.2) fun c2 =>
    if c2.1 = true then
      some (.inr (.inr (y.2.2.1, c2.2.1, c2.2.2.1, c2.2.2.2.1, c2.2.2.2.2.1, c2.2.2.2.2.2)))
    else
      some (.inl (y.1, y.2.1, IntKind.wrap .i64 (y.2.2.1 + 1), c2.2.1, c2.2.2.1, c2.2.2.2.1, c2.2.2.2.2.1, c2.2.2.2.2.2))
    else none
  else
    some (.inr (.inl (y.2.2.2.1, y.2.2.2.2.1, y.2.2.2.2.2.1, y.2.2.2.2.2.2.1, y.2.2.2.2.2.2.2)))
def slices_IndexFunc_loop_example_g00083_impl_CacheLine_loop_example_g00083_impl_CacheLine_i_GoodCache_1_f (x0 : List (Int × (List Int × (Bool × (Int × Int))))) (x1 : Int) (x2 : List Int) (x3 : Bool) (x4 : Int) (x5 : Int) : Option ((Int × (Int × (List Int × (Bool × (Int × Int)))))) :=
  Option.bind (loopG slices_IndexFunc_loop_example_g00083_impl_CacheLine_loop_example_g00083_impl_CacheLine_i_GoodCache_1_f_L1 (x0, ((List.length x0 : Nat) : Int), 0, x1, x2, x3, x4, x5)) fun v3 =>
  match v3 with
  | .inl y4 =>
    some ((-1), y4.1, y4.2.1, y4.2.2.1, y4.2.2.2.1, y4.2.2.2.2)
  | .inr s5 =>
    some (s5.1, s5.2.1, s5.2.2.1, s5.2.2.2.1, s5.2.2.2.2.1, s5.2.2.2.2.2)
def slices_ContainsFunc_loop_example_g00083_impl_CacheLine_loop_example_g00083_impl_CacheLine_i_GoodCache_1_f (x0 : List (Int × (List Int × (Bool × (Int × Int))))) (x1 : Int) (x2 : List Int) (x3 : Bool) (x4 : Int) (x5 : Int) : Option ((Bool × (Int × (List Int × (Bool × (Int × Int)))))) :=
  Option.bind (slices_IndexFunc_loop_example_g00083_impl_CacheLine_loop_example_g00083_impl_CacheLine_i_GoodCache_1_f x0 x1 x2 x3 x4 x5) fun c1 =>
  some (decide ((0 : Int) ≤ c1.1), c1.2.1, c1.2.2.1, c1.2.2.2.1, c1.2.2.2.2.1, c1.2.2.2.2.2)
def i_GoodCache_L1 (y : (List (Int × (List Int × (Bool × (Int × Int)))) × (Int × (Int × (Int × (Int × (List (Int × (List Int × (Bool × (Int × Int)))) × (List (List Int) × (Int × (Bool × Int)))))))))) : Option ((List (Int × (List Int × (Bool × (Int × Int)))) × (Int × (Int × (Int × (Int × (List (Int × (List Int × (Bool × (Int × Int)))) × (List (List Int) × (Int × (Bool × Int))))))))) ⊕ (Unit ⊕ Bool)) :=
  if (decide ((y.2.2.1 : Int) < y.2.1)) = true then
    if (decide ((0 : Int) ≤ y.2.2.1)) = true then
    Option.bind (y.1[Int.toNat y.2.2.1]?) fun r5 =>
    Option.bind (α := (List (Int × (List Int × (Bool × (Int × Int)))) × (Int × (Int × (Bool × (Int × (Int × (List (Int × (List Int × (Bool × (Int × Int)))) × (List (List Int) × (Int × (Bool × Int))))))))))) (
        Option.bind (i_Disk_has y.2.2.2.2.2.2.1 y.2.2.2.2.2.2.2.1 y.2.2.2.2.2.2.2.2.1 y.2.2.2.2.2.2.2.2.2 r5.1) fun c6 =>
        if (!c6) = true then
          some (y.1, y.2.1, y.2.2.1, true, y.2.2.2.1, y.2.2.2.2.1, y.2.2.2.2.2.1, y.2.2.2.2.2.2.1, y.2.2.2.2.2.2.2.1, y.2.2.2.2.2.2.2.2.1, y.2.2.2.2.2.2.2.2.2)
        else
        if (decide ((0 : Int) < y.2.2.1)) = true then
          if (decide ((0 : Int) ≤ IntKind.wrap .i64 (y.2.2.1 - 1))) = true then
          Option.bind (y.2.2.2.2.2.1[Int.toNat (IntKind.wrap .i64 (y.2.2.1 - 1))]?) fun r7 =>
          if (decide ((r5.1 : Int) ≤ r7.1)) = true then
            some (y.1, y.2.1, y.2.2.1, true, y.2.2.2.1, y.2.2.2.2.1, y.2.2.2.2.2.1, y.2.2.2.2.2.2.1, y.2.2.2.2.2.2.2.1, y.2.2.2.2.2.2.2.2.1, y.2.2.2.2.2.2.2.2.2)
          else
          if (decide (¬ (((List.length r5.2.1 : Nat) : Int) : Int) = 128)) = true then
            some (y.1, y.2.1, y.2.2.1, true, y.2.2.2.1, y.2.2.2.2.1, y.2.2.2.2.2.1, y.2.2.2.2.2.2.1, y.2.2.2.2.2.2.2.1, y.2.2.2.2.2.2.2.2.1, y.2.2.2.2.2.2.2.2.2)
          else
            Option.bind (i_within r5.2.2.2.1 0 100) fun c8 =>
            if (!c8) = true then
              some (y.1, y.2.1, y.2.2.1, true, y.2.2.2.1, y.2.2.2.2.1, y.2.2.2.2.2.1, y.2.2.2.2.2.2.1, y.2.2.2.2.2.2.2.1, y.2.2.2.2.2.2.2.2.1, y.2.2.2.2.2.2.2.2.2)
            else
              Option.bind (i_within r5.2.2.2.2 1 y.2.2.2.2.1) fun c9 =>
              if (!c9) = true then
                some (y.1, y.2.1, y.2.2.1, true, y.2.2.2.1, y.2.2.2.2.1, y.2.2.2.2.2.1, y.2.2.2.2.2.2.1, y.2.2.2.2.2.2.2.1, y.2.2.2.2.2.2.2.2.1, y.2.2.2.2.2.2.2.2.2)
              else
              if (!r5.2.2.1) = true then
                if (decide ((0 : Int) ≤ r5.1)) = true then
                Option.bind (y.2.2.2.2.2.2.1[Int.toNat r5.1]?) fun r10 =>
                Option.bind (slices_Equal_byte_byte r5.2.1 r10) fun c11 =>
                if (!c11) = true then
                  some (y.1, y.2.1, y.2.2.1, true, y.2.2.2.1, y.2.2.2.2.1, y.2.2.2.2.2.1, y.2.2.2.2.2.2.1, y.2.2.2.2.2.2.2.1, y.2.2.2.2.2.2.2.2.1, y.2.2.2.2.2.2.2.2.2)
                else
                if (decide ((0 : Int) ≤ 0)) = true then
                if (decide ((0 : Int) ≤ y.2.2.1)) = true then
                if (decide ((y.2.2.1 : Int) ≤ ((List.length y.2.2.2.2.2.1 : Nat) : Int))) = true then
                if (decide ((((List.length y.2.2.2.2.2.1 : Nat) : Int) : Int) ≤ ((List.length y.2.2.2.2.2.1 : Nat) : Int))) = true then
                Option.bind (slices_ContainsFunc_loop_example_g00083_impl_CacheLine_loop_example_g00083_impl_CacheLine_i_GoodCache_1_f ((List.drop (Int.toNat 0) y.2.2.2.2.2.1).take (Int.toNat y.2.2.1 - Int.toNat 0)) r5.1 r5.2.1 r5.2.2.1 r5.2.2.2.1 r5.2.2.2.2) fun c12 =>
                some (y.1, y.2.1, y.2.2.1, c12.1, y.2.2.2.1, y.2.2.2.2.1, y.2.2.2.2.2.1, y.2.2.2.2.2.2.1, y.2.2.2.2.2.2.2.1, y.2.2.2.2.2.2.2.2.1, y.2.2.2.2.2.2.2.2.2)
                else none
                else none
                else none
                else none
                else none
              else
              if (decide ((0 : Int) ≤ 0)) = true then
              if (decide ((0 : Int) ≤ y.2.2.1)) = true then
              if (decide ((y.2.2.1 : Int) ≤ ((List.length y.2.2.2.2.2.1 : Nat) : Int))) = true then
              if (decide ((((List.length y.2.2.2.2.2.1 : Nat) : Int) : Int) ≤ ((List.length y.2.2.2.2.2.1 : Nat) : Int))) = true then
              Option.bind (slices_ContainsFunc_loop_example_g00083_impl_CacheLine_loop_example_g00083_impl_CacheLine_i_GoodCache_1_f ((List.drop (Int.toNat 0) y.2.2.2.2.2.1).take (Int.toNat y.2.2.1 - Int.toNat 0)) r5.1 r5.2.1 r5.2.2.1 r5.2.2.2.1 r5.2.2.2.2) fun c14 =>
              some (y.1, y.2.1, y.2.2.1, c14.1, y.2.2.2.1, y.2.2.2.2.1, y.2.2.2.2.2.1, y.2.2.2.2.2.2.1, y.2.2.2.2.2.2.2.1, y.2.2.2.2.2.2.2.2.1, y.2.2.2.2.2.2.2.2.2)
              else none
              else none
              else none
              else none
          else none
        else
        if (decide (¬ (((List.length r5.2.1 : Nat) : Int) : Int) = 128)) = true then
          some (y.1, y.2.1, y.2.2.1, true, y.2.2.2.1, y.2.2.2.2.1, y.2.2.2.2.2.1, y.2.2.2.2.2.2.1, y.2.2.2.2.2.2.2.1, y.2.2.2.2.2.2.2.2.1, y.2.2.2.2.2.2.2.2.2)
        else
          Option.bind (i_within r5.2.2.2.1 0 100) fun c22 =>
          if (!c22) = true then
            some (y.1, y.2.1, y.2.2.1, true, y.2.2.2.1, y.2.2.2.2.1, y.2.2.2.2.2.1, y.2.2.2.2.2.2.1, y.2.2.2.2.2.2.2.1, y.2.2.2.2.2.2.2.2.1, y.2.2.2.2.2.2.2.2.2)
          else
            Option.bind (i_within r5.2.2.2.2 1 y.2.2.2.2.1) fun c23 =>
            if (!c23) = true then
              some (y.1, y.2.1, y.2.2.1, true, y.2.2.2.1, y.2.2.2.2.1, y.2.2.2.2.2.1, y.2.2.2.2.2.2.1, y.2.2.2.2.2.2.2.1, y.2.2.2.2.2.2.2.2.1, y.2.2.2.2.2.2.2.2.2)
            else
            if (!r5.2.2.1) = true then
              if (decide ((0 : Int) ≤ r5.1)) = true then
              Option.bind (y.2.2.2.2.2.2.1[Int.toNat r5.1]?) fun r24 =>
              Option.bind (slices_Equal_byte_byte r5.2.1 r24) fun c25 =>
              if (!c25) = true then
                some (y.1, y.2.1, y.2.2.1, true, y.2.2.2.1, y.2.2.2.2.1, y.2.2.2.2.2.1, y.2.2.2.2.2.2.1, y.2.2.2.2.2.2.2.1, y.2.2.2.2.2.2.2.2.1, y.2.2.2.2.2.2.2.2.2)
              else
              if (decide ((0 : Int) ≤ 0)) = true then
              if (decide ((0 : Int) ≤ y.2.2.1)) = true then
              if (decide ((y.2.2.1 : Int) ≤ ((List.length y.2.2.2.2.2.1 : Nat) : Int))) = true then
              if (decide ((((List.length y.2.2.2.2.2.1 : Nat) : Int) : Int) ≤ ((List.length y.2.2.2.2.2.1 : Nat) : Int))) = true then
              Option.bind (slices_ContainsFunc_loop_example_g00083_impl_CacheLine_loop_example_g00083_impl_CacheLine_i_GoodCache_1_f ((List.drop (Int.toNat 0) y.2.2.2.2.2.1).take (Int.toNat y.2.2.1 - Int.toNat 0)) r5.1 r5.2.1 r5.2.2.1 r5.2.2.2.1 r5.2.2.2.2) fun c26 =>
              some (y.1, y.2.1, y.2.2.1, c26.1, y.2.2.2.1, y.2.2.2.2.1, y.2.2.2.2.2.1, y.2.2.2.2.2.2.1, y.2.2.2.2.2.2.2.1, y.2.2.2.2.2.2.2.2.1, y.2.2.2.2.2.2.2.2.2)
              else none
              else none
              else none
              else none
              else none
            else
            if (decide ((0 : Int) ≤ 0)) = true then
            if (decide ((0 : Int) ≤ y.2.2.1)) = true then
            if (decide ((y.2.2.1 : Int) ≤ ((List.length y.2.2.2.2.2.1 : Nat) : Int))) = true then
            if (decide ((((List.length y.2.2.2.2.2.1 : Nat) : Int) : Int) ≤ ((List.length y.2.2.2.2.2.1 : Nat) : Int))) = true then
            Option.bind (slices_ContainsFunc_loop_example_g00083_impl_CacheLine_loop_example_g00083_impl_CacheLine_i_GoodCache_1_f ((List.drop (Int.toNat 0) y.2.2.2.2.2.1).take (Int.toNat y.2.2.1 - Int.toNat 0)) r5.1 r5.2.1 r5.2.2.1 r5.2.2.2.1 r5.2.2.2.2) fun c28 =>
            some (y.1, y.2.1, y.2.2.1, c28.1, y.2.2.2.1, y.2.2.2.2.1, y.2.2.2.2.2.1, y.2.2.2.2.2.2.1, y.2.2.2.2.2.2.2.1, y.2.2.2.2.2.2.2.2.1, y.2.2.2.2.2.2.2.2.2)
            else none
            else none
            else none
            else none) fun v29 =>
    if v29.2.2.2.1 = true then
      some (.inr (.inr false))
    else
      some (.inl (v29.1, v29.2.1, IntKind.wrap .i64 (v29.2.2.1 + 1), v29.2.2.2.2.1, v29.2.2.2.2.2.1, v29.2.2.2.2.2.2.1, v29.2.2.2.2.2.2.2.1, v29.2.2.2.2.2.2.2.2.1, v29.2.2.2.2.2.2.2.2.2.1, v29.2.2.2.2.2.2.2.2.2.2))
    else none
  else
    some (.inr (.inl ()))
def i_GoodCache (x0 : Int) (x1 : Int) (x2 : List (Int × (List Int × (Bool × (Int × Int))))) (x3 : List (List Int)) (x4 : Int) (x5 : Bool) (x6 : Int) : Option (Bool) :=
  Option.bind (α := (Bool × (Int × (Int × (List (Int × (List Int × (Bool × (Int × Int)))) × (List (List Int) × (Int × (Bool × Int)))))))) (
      Option.bind (i_GoodDisk x3 x4 x5 x6) fun c1 =>
      if (!c1) = true then
        some (true, x0, x1, x2, x3, x4, x5, x6)
      else
        Option.bind (i_within x0 1 8) fun c2 =>
        if (!c2) = true then
          some (true, x0, x1, x2, x3, x4, x5, x6)
        else
          Option.bind (i_within x1 0 1000000) fun c3 =>
          if (!c3) = true then
            some (true, x0, x1, x2, x3, x4, x5, x6)
          else
          some (decide ((x0 : Int) < ((List.length x2 : Nat) : Int)), x0, x1, x2, x3, x4, x5, x6)) fun v4 =>
  if v4.1 = true then
    some false
  else
    Option.bind (loopG i_GoodCache_L1 (v4.2.2.2.1, ((List.length v4.2.2.2.1 : Nat) : Int), 0, v4.2.1, v4.2.2.1, v4.2.2.2.1, v4.2.2.2.2.1, v4.2.2.2.2.2.1, v4.2.2.2.2.2.2.1, v4.2.2.2.2.2.2.2)) fun v30 =>
    match v30 with
    | .inl y31 =>
      some true
    | .inr s32 =>
      some s32
def slices_Clone_byte_byte (x0 : List Int) : Option (List Int) :=
  Option.bind (α := List Int) (bothQ (List.isEmpty x0) (
      some []) (
      if (roomFor (List.length ([] : List Int) + List.length x0) 1) = true then
      some (([] : List Int) ++ x0)
      else none)) fun v1 =>
  some v1
def i_Cache_copied_L1 (y : (List (Int × (List Int × (Bool × (Int × Int)))) × (Int × (Int × (Int × (Int × (Int × (Int × List (Int × (List Int × (Bool × (Int × Int)))))))))))) : Option ((List (Int × (List Int × (Bool × (Int × Int)))) × (Int × (Int × (Int × (Int × (Int × (Int × List (Int × (List Int × (Bool × (Int × Int))))))))))) ⊕ (Int × (Int × (Int × (Int × List (Int × (List Int × (Bool × (Int × Int))))))))) :=
  if (decide ((y.2.2.1 : Int) < y.2.1)) = true then
    if (decide ((0 : Int) ≤ y.2.2.1)) = true then
    Option.bind (y.1[Int.toNat y.2.2.1]?) fun r3 =>
    Option.bind (slices_Clone_byte_byte r3.2.1) fun c4 =>
    if (roomFor (List.length y.2.2.2.2.2.2.2 + List.length ([(r3.1, (c4, (r3.2.2.1, (r3.2.2.2.1, r3.2.2.2.2))))] : List (Int × (List Int × (Bool × (Int × Int)))))) 56) = true then
    some (.inl (y.1, y.2.1, IntKind.wrap .i64 (y.2.2.1 + 1), y.2.2.2.1, y.2.2.2.2.1, y.2.2.2.2.2.1, y.2.2.2.2.2.2.1, y.2.2.2.2.2.2.2 ++ ([(r3.1, (c4, (r3.2.2.1, (r3.2.2.2.1, r3.2.2.2.2))))] : List (Int × (List Int × (Bool × (Int × Int)))))))
    else none
    else none
  else
    some (.inr (y.2.2.2.1, y.2.2.2.2.1, y.2.2.2.2.2.1, y.2.2.2.2.2.2.1, y.2.2.2.2.2.2.2))
def i_Cache_copied (x0 : Int) (x1 : Int) (x2 : List (Int × (List Int × (Bool × (Int × Int))))) : Option ((Int × (Int × List (Int × (List Int × (Bool × (Int × Int))))))) :=
  Option.bind (loopG i_Cache_copied_L1 (x2, ((List.length x2 : Nat) : Int), 0, 0, 0, x0, x1, [])) fun v5 =>
  some (v5.2.2.1, v5.2.2.2.1, v5.2.2.2.2)
def i_Cache_line_1 (x0 : Int) (x1 : List Int) (x2 : Bool) (x3 : Int) (x4 : Int) (x5 : Int) : Option (Int) :=
  some (IntKind.wrap .i64 (x0 - x5))
def slices_BinarySearchFunc_loop_example_g00083_impl_CacheLine_loop_example_g00083_impl_CacheLine_int_i_Cache_line_1_L1 (y : (List (Int × (List Int × (Bool × (Int × Int)))) × (Int × (Int × (Int × Int))))) : Option ((List (Int × (List Int × (Bool × (Int × Int)))) × (Int × (Int × (Int × Int)))) ⊕ (List (Int × (List Int × (Bool × (Int × Int)))) × (Int × (Int × Int)))) :=
  if (decide ((y.2.2.2.1 : Int) < y.2.2.2.2)) = true then
    if (decide ((0 : Int) ≤ 1)) = true then
    if (decide ((0 : Int) ≤ IntKind.wrap .i64 (Int.fdiv (IntKind.wrap .u64 (IntKind.wrap .i64 (y.2.2.2.1 + y.2.2.2.2))) (2 ^ (min (Int.toNat 1) (IntKind.bits .u64)))))) = true then
    Option.bind (y.1[Int.toNat (IntKind.wrap .i64 (Int.fdiv (IntKind.wrap .u64 (IntKind.wrap .i64 (y.2.2.2.1 + y.2.2.2.2))) (2 ^ (min (Int.toNat 1) (IntKind.bits .u64)))))]?) fun r1 =>
    Option.bind (i_Cache_line_1 r1.1 r1.2.1 r1.2.2.1 r1.2.2.2.1 r1.2.2.2.2 y.2.1) fun c2 =>
    Option.bind (α := (List (Int × (List Int × (Bool × (Int × Int)))) × (Int × (Int × (Int × Int))))) (
        if (decide ((c2 : Int) < 0)) = true then
          some (y.1, y.2.1, y.2.2.1, IntKind.wrap .i64 ((IntKind.wrap .i64 (Int.fdiv (IntKind.wrap .u64 (IntKind.wrap .i64 (y.2.2.2.1 + y.2.2.2.2))) (2 ^ (min (Int.toNat 1) (IntKind.bits .u64))))) + 1), y.2.2.2.2)
        else
          some (y.1, y.2.1, y.2.2.1, y.2.2.2.1, IntKind.wrap .i64 (Int.fdiv (IntKind.wrap .u64 (IntKind.wrap .i64 (y.2.2.2.1 + y.2.2.2.2))) (2 ^ (min (Int.toNat 1) (IntKind.bits .u64)))))) fun v3 =>
    some (.inl (v3.1, v3.2.1, v3.2.2.1, v3.2.2.2.1, v3.2.2.2.2))
    else none
    else none
  else
    some (.inr (y.1, y.2.1, y.2.2.1, y.2.2.2.1))
def slices_BinarySearchFunc_loop_example_g00083_impl_CacheLine_loop_example_g00083_impl_CacheLine_int_i_Cache_line_1 (x0 : List (Int × (List Int × (Bool × (Int × Int))))) (x1 : Int) : Option ((Int × Bool)) :=
  Option.bind (loopG slices_BinarySearchFunc_loop_example_g00083_impl_CacheLine_loop_example_g00083_impl_CacheLine_int_i_Cache_line_1_L1 (x0, x1, ((List.length x0 : Nat) : Int), 0, ((List.length x0 : Nat) : Int))) fun v4 =>
  Option.bind (α := (Int × Bool)) (
      if (decide ((v4.2.2.2 : Int) < v4.2.2.1)) = true then
        if (decide ((0 : Int) ≤ v4.2.2.2)) = true then
        Option.bind (v4.1[Int.toNat v4.2.2.2]?) fun r5 =>
        Option.bind (i_Cache_line_1 r5.1 r5.2.1 r5.2.2.1 r5.2.2.2.1 r5.2.2.2.2 v4.2.1) fun c6 =>
        some (v4.2.2.2, decide ((c6 : Int) = 0))
        else none
      else
      some (v4.2.2.2, false)) fun v7 =>
  some (v7.1, v7.2)
def i_Cache_line_o (x0 : Int) (x1 : Int) (x2 : Int) (x3 : List (Int × (List Int × (Bool × (Int × Int))))) : Option ((Int × (Bool × (Int × (Int × List (Int × (List Int × (Bool × (Int × Int))))))))) :=
  Option.bind (slices_BinarySearchFunc_loop_example_g00083_impl_CacheLine_loop_example_g00083_impl_CacheLine_int_i_Cache_line_1 x3 x0) fun c1 =>
  some (c1.1, c1.2, x1, x2, x3)
def i_PinLine (x0 : Int) (x1 : Int) (x2 : List (Int × (List Int × (Bool × (Int × Int))))) (x3 : List (List Int)) (x4 : Int) (x5 : Bool) (x6 : Int) (x7 : Int) (x8 : Int) : Option ((Int × (Int × (Int × List (Int × (List Int × (Bool × (Int × Int)))))))) :=
  Option.bind (α := (Int × (Int × (Bool × (Int × (Int × (List (Int × (List Int × (Bool × (Int × Int)))) × (List (List Int) × (Int × (Bool × (Int × (Int × Int)))))))))))) (
      Option.bind (i_GoodCache x0 x1 x2 x3 x4 x5 x6) fun c1 =>
      if (!c1) = true then
        some (x7, x8, true, x0, x1, x2, x3, x4, x5, x6, 0, 0)
      else
      if (decide (¬ (x8 : Int) = 1)) = true then
        some (x7, x8, decide (¬ (x8 : Int) = (-1)), x0, x1, x2, x3, x4, x5, x6, 0, 0)
      else
      some (x7, x8, false, x0, x1, x2, x3, x4, x5, x6, 0, 0)) fun v2 =>
  if v2.2.2.1 = true then
    some (1, 0, 0, [])
  else
    Option.bind (i_Disk_has v2.2.2.2.2.2.2.1 v2.2.2.2.2.2.2.2.1 v2.2.2.2.2.2.2.2.2.1 v2.2.2.2.2.2.2.2.2.2.1 v2.1) fun c3 =>
    if (!c3) = true then
      Option.bind (i_Cache_copied v2.2.2.2.1 v2.2.2.2.2.1 v2.2.2.2.2.2.1) fun c4 =>
      some (2, c4.1, c4.2.1, c4.2.2)
    else
      Option.bind (i_Cache_copied v2.2.2.2.1 v2.2.2.2.2.1 v2.2.2.2.2.2.1) fun c5 =>
      Option.bind (i_Cache_line_o v2.1 c5.1 c5.2.1 c5.2.2) fun c6 =>
      Option.bind (α := (Int × (Int × (Bool × (Int × (Int × (Int × (Int × List (Int × (List Int × (Bool × (Int × Int)))))))))))) (
          if (!c6.2.1) = true then
            some (v2.2.1, c6.1, true, v2.2.2.2.2.2.2.2.2.2.2.1, v2.2.2.2.2.2.2.2.2.2.2.2, c6.2.2.1, c6.2.2.2.1, c6.2.2.2.2)
          else
          if (decide ((0 : Int) ≤ c6.1)) = true then
          if (decide ((c6.1 : Int) < ((List.length c6.2.2.2.2 : Nat) : Int))) = true then
          Option.bind (c6.2.2.2.2[0 + Int.toNat c6.1]?) fun r7 =>
          Option.bind (i_within (IntKind.wrap .i64 (r7.2.2.2.1 + v2.2.1)) 0 100) fun c8 =>
          some (v2.2.1, c6.1, (!c8), v2.2.2.2.2.2.2.2.2.2.2.1, v2.2.2.2.2.2.2.2.2.2.2.2, c6.2.2.1, c6.2.2.2.1, c6.2.2.2.2)
          else none
          else none) fun v9 =>
      if v9.2.2.1 = true then
        some (4, v9.2.2.2.2.2.1, v9.2.2.2.2.2.2.1, v9.2.2.2.2.2.2.2)
      else
      if (decide ((0 : Int) ≤ v9.2.1)) = true then
      if (decide ((v9.2.1 : Int) < ((List.length v9.2.2.2.2.2.2.2 : Nat) : Int))) = true then
      Option.bind (v9.2.2.2.2.2.2.2[0 + Int.toNat v9.2.1]?) fun r10 =>
      if (decide ((0 : Int) ≤ v9.2.1)) = true then
      if (decide ((v9.2.1 : Int) < ((List.length v9.2.2.2.2.2.2.2 : Nat) : Int))) = true then
      Option.bind (v9.2.2.2.2.2.2.2[0 + Int.toNat v9.2.1]?) fun r11 =>
      Option.bind (v9.2.2.2.2.2.2.2[0 + Int.toNat v9.2.1]?) fun r12 =>
      some (0, v9.2.2.2.2.2.1, v9.2.2.2.2.2.2.1, v9.2.2.2.2.2.2.2.set (0 + Int.toNat v9.2.1) (r12.1, (r12.2.1, (r12.2.2.1, (IntKind.wrap .i64 (r10.2.2.2.1 + v9.1), r12.2.2.2.2)))))
      else none
      else none
      else none
      else none
def l_eqByteS_L1 (y : (List Int × (List Int × Int))) : Option ((List Int × (List Int × Int)) ⊕ (Unit ⊕ Bool)) :=
  if (decide ((y.2.2 : Int) < ((List.length y.1 : Nat) : Int))) = true then
    if (decide ((0 : Int) ≤ y.2.2)) = true then
    Option.bind (y.1[Int.toNat y.2.2]?) fun r1 =>
    if (decide ((0 : Int) ≤ y.2.2)) = true then
    Option.bind (y.2.1[Int.toNat y.2.2]?) fun r2 =>
    if (decide (¬ (r1 : Int) = r2)) = true then
      some (.inr (.inr false))
    else
      some (.inl (y.1, y.2.1, IntKind.wrap .i64 (y.2.2 + 1)))
    else none
    else none
  else
    some (.inr (.inl ()))
def l_eqByteS (x0 : List Int) (x1 : List Int) : Option (Bool) :=
  if (decide (¬ (((List.length x0 : Nat) : Int) : Int) = ((List.length x1 : Nat) : Int))) = true then
    some false
  else
    Option.bind (loopG l_eqByteS_L1 (x0, x1, 0)) fun v3 =>
    match v3 with
    | .inl y4 =>
      some true
    | .inr s5 =>
      some s5
def l_eqCacheLine (x0 : Int) (x1 : List Int) (x2 : Bool) (x3 : Int) (x4 : Int) (x5 : Int) (x6 : List Int) (x7 : Bool) (x8 : Int) (x9 : Int) : Option (Bool) :=
  if (decide (¬ (x0 : Int) = x5)) = true then
    some false
  else
    Option.bind (l_eqByteS x1 x6) fun c1 =>
    if (!c1) = true then
      some false
    else
    if (x2 != x7) = true then
      some false
    else
    if (decide (¬ (x3 : Int) = x8)) = true then
      some false
    else
    if (decide (¬ (x4 : Int) = x9)) = true then
      some false
    else
      some true
def l_eqCacheLineS_L1 (y : (List (Int × (List Int × (Bool × (Int × Int)))) × (List (Int × (List Int × (Bool × (Int × Int)))) × Int))) : Option ((List (Int × (List Int × (Bool × (Int × Int)))) × (List (Int × (List Int × (Bool × (Int × Int)))) × Int)) ⊕ (Unit ⊕ Bool)) :=
  if (decide ((y.2.2 : Int) < ((List.length y.1 : Nat) : Int))) = true then
    if (decide ((0 : Int) ≤ y.2.2)) = true then
    Option.bind (y.1[Int.toNat y.2.2]?) fun r1 =>
    if (decide ((0 : Int) ≤ y.2.2)) = true then
    Option.bind (y.2.1[Int.toNat y.2.2]?) fun r2 =>
    Option.bind (l_eqCacheLine r1.1 r1.2.1 r1.2.2.1 r1.2.2.2.1 r1.2.2.2.2 r2.1 r2.2.1 r2.2.2.1 r2.2.2.2.1 r2.2.2.2.2) fun c3 =>
    if (!c3) = true then
      some (.inr (.inr false))
    else
      some (.inl (y.1, y.2.1, IntKind.wrap .i64 (y.2.2 + 1)))
    else none
    else none
  else
    some (.inr (.inl ()))
def l_eqCacheLineS (x0 : List (Int × (List Int × (Bool × (Int × Int))))) (x1 : List (Int × (List Int × (Bool × (Int × Int))))) : Option (Bool) :=
  if (decide (¬ (((List.length x0 : Nat) : Int) : Int) = ((List.length x1 : Nat) : Int))) = true then
    some false
  else
    Option.bind (loopG l_eqCacheLineS_L1 (x0, x1, 0)) fun v4 =>
    match v4 with
    | .inl y5 =>
      some true
    | .inr s6 =>
      some s6
def l_eqCache (x0 : Int) (x1 : Int) (x2 : List (Int × (List Int × (Bool × (Int × Int))))) (x3 : Int) (x4 : Int) (x5 : List (Int × (List Int × (Bool × (Int × Int))))) : Option (Bool) :=
  if (decide (¬ (x0 : Int) = x3)) = true then
    some false
  else
  if (decide (¬ (x1 : Int) = x4)) = true then
    some false
  else
    Option.bind (l_eqCacheLineS x2 x5) fun c1 =>
    if (!c1) = true then
      some false
    else
      some true
def l_eqByteSS_L1 (y : (List (List Int) × (List (List Int) × Int))) : Option ((List (List Int) × (List (List Int) × Int)) ⊕ (Unit ⊕ Bool)) :=
  if (decide ((y.2.2 : Int) < ((List.length y.1 : Nat) : Int))) = true then
    if (decide ((0 : Int) ≤ y.2.2)) = true then
    Option.bind (y.1[Int.toNat y.2.2]?) fun r1 =>
    if (decide ((0 : Int) ≤ y.2.2)) = true then
    Option.bind (y.2.1[Int.toNat y.2.2]?) fun r2 =>
    Option.bind (l_eqByteS r1 r2) fun c3 =>
    if (!c3) = true then
      some (.inr (.inr false))
    else
      some (.inl (y.1, y.2.1, IntKind.wrap .i64 (y.2.2 + 1)))
    else none
    else none
  else
    some (.inr (.inl ()))
def l_eqByteSS (x0 : List (List Int)) (x1 : List (List Int)) : Option (Bool) :=
  if (decide (¬ (((List.length x0 : Nat) : Int) : Int) = ((List.length x1 : Nat) : Int))) = true then
    some false
  else
    Option.bind (loopG l_eqByteSS_L1 (x0, x1, 0)) fun v4 =>
    match v4 with
    | .inl y5 =>
      some true
    | .inr s6 =>
      some s6
def l_eqDisk (x0 : List (List Int)) (x1 : Int) (x2 : Bool) (x3 : Int) (x4 : List (List Int)) (x5 : Int) (x6 : Bool) (x7 : Int) : Option (Bool) :=
  Option.bind (l_eqByteSS x0 x4) fun c1 =>
  if (!c1) = true then
    some false
  else
  if (decide (¬ (x1 : Int) = x5)) = true then
    some false
  else
  if (x2 != x6) = true then
    some false
  else
  if (decide (¬ (x3 : Int) = x7)) = true then
    some false
  else
    some true
def l_markByteS_l_L1 (y : (List Int × (Int × Int))) : Option ((List Int × (Int × Int)) ⊕ (List Int × Int)) :=
  if (decide ((y.2.2 : Int) < ((List.length y.1 : Nat) : Int))) = true then
    if (decide ((0 : Int) ≤ y.2.2)) = true then
    if (decide ((y.2.2 : Int) < ((List.length y.1 : Nat) : Int))) = true then
    Option.bind (y.1[0 + Int.toNat y.2.2]?) fun r1 =>
    Option.bind (y.1[0 + Int.toNat y.2.2]?) fun r2 =>
    some (.inl (y.1.set (0 + Int.toNat y.2.2) (IntKind.wrap .u8 y.2.1), IntKind.wrap .i64 (y.2.1 + 1), IntKind.wrap .i64 (y.2.2 + 1)))
    else none
    else none
  else
    some (.inr (y.1, y.2.1))
def l_markByteS_l (x0 : List Int) (x1 : Int) : Option ((List Int × Int)) :=
  Option.bind (loopG l_markByteS_l_L1 (x0, x1, 0)) fun v3 =>
  some (v3.1, v3.2)
def l_markCacheLineS_l_L1 (y : (List (Int × (List Int × (Bool × (Int × Int)))) × (Int × Int))) : Option ((List (Int × (List Int × (Bool × (Int × Int)))) × (Int × Int)) ⊕ (List (Int × (List Int × (Bool × (Int × Int)))) × Int)) :=
  if (decide ((y.2.2 : Int) < ((List.length y.1 : Nat) : Int))) = true then
    if (decide ((0 : Int) ≤ y.2.2)) = true then
    if (decide ((y.2.2 : Int) < ((List.length y.1 : Nat) : Int))) = true then
    Option.bind (y.1[0 + Int.toNat y.2.2]?) fun r1 =>
    Option.bind (y.1[0 + Int.toNat y.2.2]?) fun r2 =>
    if (decide ((0 : Int) ≤ y.2.2)) = true then
    if (decide ((y.2.2 : Int) < ((List.length (y.1.set (0 + Int.toNat y.2.2) (y.2.1, r2.2)) : Nat) : Int))) = true then
    Option.bind ((y.1.set (0 + Int.toNat y.2.2) (y.2.1, r2.2))[0 + Int.toNat y.2.2]?) fun r3 =>
    Option.bind ((y.1.set (0 + Int.toNat y.2.2) (y.2.1, r2.2))[0 + Int.toNat y.2.2]?) fun r4 =>
    Option.bind (l_markByteS_l r4.2.1 (IntKind.wrap .i64 (y.2.1 + 1))) fun c5 =>
    Option.bind ((y.1.set (0 + Int.toNat y.2.2) (y.2.1, r2.2))[0 + Int.toNat y.2.2]?) fun r6 =>
    Option.bind ((y.1.set (0 + Int.toNat y.2.2) (y.2.1, r2.2))[0 + Int.toNat y.2.2]?) fun r7 =>
    if (decide (¬ (3 : Int) = 0)) = true then
    if (decide ((0 : Int) ≤ y.2.2)) = true then
    if (decide ((y.2.2 : Int) < ((List.length ((y.1.set (0 + Int.toNat y.2.2) (y.2.1, r2.2)).set (0 + Int.toNat y.2.2) (r7.1, (c5.1, r7.2.2))) : Nat) : Int))) = true then
    Option.bind (((y.1.set (0 + Int.toNat y.2.2) (y.2.1, r2.2)).set (0 + Int.toNat y.2.2) (r7.1, (c5.1, r7.2.2)))[0 + Int.toNat y.2.2]?) fun r8 =>
    Option.bind (((y.1.set (0 + Int.toNat y.2.2) (y.2.1, r2.2)).set (0 + Int.toNat y.2.2) (r7.1, (c5.1, r7.2.2)))[0 + Int.toNat y.2.2]?) fun r9 =>
    if (decide ((0 : Int) ≤ y.2.2)) = true then
    if (decide ((y.2.2 : Int) < ((List.length (((y.1.set (0 + Int.toNat y.2.2) (y.2.1, r2.2)).set (0 + Int.toNat y.2.2) (r7.1, (c5.1, r7.2.2))).set (0 + Int.toNat y.2.2) (r9.1, (r9.2.1, (decide ((Int.tmod c5.2 3 : Int) = 0), r9.2.2.2)))) : Nat) : Int))) = true then
    Option.bind ((((y.1.set (0 + Int.toNat y.2.2) (y.2.1, r2.2)).set (0 + Int.toNat y.2.2) (r7.1, (c5.1, r7.2.2))).set (0 + Int.toNat y.2.2) (r9.1, (r9.2.1, (decide ((Int.tmod c5.2 3 : Int) = 0), r9.2.2.2))))[0 + Int.toNat y.2.2]?) fun r10 =>
    Option.bind ((((y.1.set (0 + Int.toNat y.2.2) (y.2.1, r2.2)).set (0 + Int.toNat y.2.2) (r7.1, (c5.1, r7.2.2))).set (0 + Int.toNat y.2.2) (r9.1, (r9.2.1, (decide ((Int.tmod c5.2 3 : Int) = 0), r9.2.2.2))))[0 + Int.toNat y.2.2]?) fun r11 =>
    if (decide ((0 : Int) ≤ y.2.2)) = true then
    if (decide ((y.2.2 : Int) < ((List.length ((((y.1.set (0 + Int.toNat y.2.2) (y.2.1, r2.2)).set (0 + Int.toNat y.2.2) (r7.1, (c5.1, r7.2.2))).set (0 + Int.toNat y.2.2) (r9.1, (r9.2.1, (decide ((Int.tmod c5.2 3 : Int) = 0), r9.2.2.2)))).set (0 + Int.toNat y.2.2) (r11.1, (r11.2.1, (r11.2.2.1, (IntKind.wrap .i64 (c5.2 + 1), r11.2.2.2.2))))) : Nat) : Int))) = true then
    Option.bind (((((y.1.set (0 + Int.toNat y.2.2) (y.2.1, r2.2)).set (0 + Int.toNat y.2.2) (r7.1, (c5.1, r7.2.2))).set (0 + Int.toNat y.2.2) (r9.1, (r9.2.1, (decide ((Int.tmod c5.2 3 : Int) = 0), r9.2.2.2)))).set (0 + Int.toNat y.2.2) (r11.1, (r11.2.1, (r11.2.2.1, (IntKind.wrap .i64 (c5.2 + 1), r11.2.2.2.2)))))[0 + Int.toNat y.2.2]?) fun r12 =>
    Option.bind (((((y.1.set (0 + Int.toNat y.2.2) (y.2.1, r2.2)).set (0 + Int.toNat y.2.2) (r7.1, (c5.1, r7.2.2))).set (0 + Int.toNat y.2.2) (r9.1, (r9.2.1, (decide ((Int.tmod c5.2 3 : Int) = 0), r9.2.2.2)))).set (0 + Int.toNat y.2.2) (r11.1, (r11.2.1, (r11.2.2.1, (IntKind.wrap .i64 (c5.2 + 1), r11.2.2.2.2)))))[0 + Int.toNat y.2.2]?) fun r13 =>
    some (.inl (((((y.1.set (0 + Int.toNat y.2.2) (y.2.1, r2.2)).set (0 + Int.toNat y.2.2) (r7.1, (c5.1, r7.2.2))).set (0 + Int.toNat y.2.2) (r9.1, (r9.2.1, (decide ((Int.tmod c5.2 3 : Int) = 0), r9.2.2.2)))).set (0 + Int.toNat y.2.2) (r11.1, (r11.2.1, (r11.2.2.1, (IntKind.wrap .i64 (c5.2 + 1), r11.2.2.2.2))))).set (0 + Int.toNat y.2.2) (r13.1, (r13.2.1, (r13.2.2.1, (r13.2.2.2.1, IntKind.wrap .i64 ((IntKind.wrap .i64 (c5.2 + 1)) + 1))))), IntKind.wrap .i64 ((IntKind.wrap .i64 ((IntKind.wrap .i64 (c5.2 + 1)) + 1)) + 1), IntKind.wrap .i64 (y.2.2 + 1)))
    else none
    else none
    else none
    else none
    else none
    else none
    else none
    else none
    else none
    else none
    else none
  else
    some (.inr (y.1, y.2.1))
def l_markCacheLineS_l (x0 : List (Int × (List Int × (Bool × (Int × Int))))) (x1 : Int) : Option ((List (Int × (List Int × (Bool × (Int × Int)))) × Int)) :=
  Option.bind (loopG l_markCacheLineS_l_L1 (x0, x1, 0)) fun v14 =>
  some (v14.1, v14.2)
def l_markCache_l (x0 : Int) (x1 : Int) (x2 : List (Int × (List Int × (Bool × (Int × Int))))) (x3 : Int) : Option ((Int × (Int × (List (Int × (List Int × (Bool × (Int × Int)))) × Int)))) :=
  Option.bind (l_markCacheLineS_l x2 x3) fun c1 =>
  some (x0, x1, c1.1, c1.2)
def l_markByteSS_l_L1 (y : (List (List Int) × (Int × Int))) : Option ((List (List Int) × (Int × Int)) ⊕ (List (List Int) × Int)) :=
  if (decide ((y.2.2 : Int) < ((List.length y.1 : Nat) : Int))) = true then
    if (decide ((0 : Int) ≤ y.2.2)) = true then
    if (decide ((y.2.2 : Int) < ((List.length y.1 : Nat) : Int))) = true then
    Option.bind (y.1[0 + Int.toNat y.2.2]?) fun r1 =>
    Option.bind (y.1[0 + Int.toNat y.2.2]?) fun r2 =>
    Option.bind (l_markByteS_l r2 y.2.1) fun c3 =>
    Option.bind (y.1[0 + Int.toNat y.2.2]?) fun r4 =>
    Option.bind (y.1[0 + Int.toNat y.2.2]?) fun r5 =>
    some (.inl (y.1.set (0 + Int.toNat y.2.2) c3.1, c3.2, IntKind.wrap .i64 (y.2.2 + 1)))
    else none
    else none
  else
    some (.inr (y.1, y.2.1))
def l_markByteSS_l (x0 : List (List Int)) (x1 : Int) : Option ((List (List Int) × Int)) :=
  Option.bind (loopG l_markByteSS_l_L1 (x0, x1, 0)) fun v6 =>
  some (v6.1, v6.2)
def l_markDisk_l (x0 : List (List Int)) (x1 : Int) (x2 : Bool) (x3 : Int) (x4 : Int) : Option ((List (List Int) × (Int × (Bool × (Int × Int))))) :=
  Option.bind (l_markByteSS_l x0 x4) fun c1 =>
  some (c1.1, x1, x2, x3, c1.2)
def l_heldByteS_L1 (y : (List Int × (Int × Int))) : Option ((List Int × (Int × Int)) ⊕ (Int ⊕ Int)) :=
  if (decide ((y.2.2 : Int) < ((List.length y.1 : Nat) : Int))) = true then
    if (decide ((0 : Int) ≤ y.2.2)) = true then
    Option.bind (y.1[Int.toNat y.2.2]?) fun r1 =>
    if (decide (¬ (r1 : Int) = (IntKind.wrap .u8 y.2.1))) = true then
      some (.inr (.inr (-1)))
    else
      some (.inl (y.1, IntKind.wrap .i64 (y.2.1 + 1), IntKind.wrap .i64 (y.2.2 + 1)))
    else none
  else
    some (.inr (.inl y.2.1))
def l_heldByteS (x0 : List Int) (x1 : Int) : Option (Int) :=
  Option.bind (loopG l_heldByteS_L1 (x0, x1, 0)) fun v2 =>
  match v2 with
  | .inl y3 =>
    some y3
  | .inr s4 =>
    some s4
def l_heldCacheLineS_L1 (y : (List (Int × (List Int × (Bool × (Int × Int)))) × (Int × Int))) : Option ((List (Int × (List Int × (Bool × (Int × Int)))) × (Int × Int)) ⊕ (Int ⊕ Int)) :=
  if (decide ((y.2.2 : Int) < ((List.length y.1 : Nat) : Int))) = true then
    if (decide ((0 : Int) ≤ y.2.2)) = true then
    Option.bind (y.1[Int.toNat y.2.2]?) fun r1 =>
    if (decide (¬ (r1.1 : Int) = y.2.1)) = true then
      some (.inr (.inr (-1)))
    else
    if (decide ((0 : Int) ≤ y.2.2)) = true then
    Option.bind (y.1[Int.toNat y.2.2]?) fun r2 =>
    Option.bind (l_heldByteS r2.2.1 (IntKind.wrap .i64 (y.2.1 + 1))) fun c3 =>
    if (decide ((c3 : Int) < 0)) = true then
      some (.inr (.inr (-1)))
    else
    if (decide ((0 : Int) ≤ y.2.2)) = true then
    Option.bind (y.1[Int.toNat y.2.2]?) fun r4 =>
    if (decide (¬ (3 : Int) = 0)) = true then
    if (r4.2.2.1 != (decide ((Int.tmod c3 3 : Int) = 0))) = true then
      some (.inr (.inr (-1)))
    else
    if (decide ((0 : Int) ≤ y.2.2)) = true then
    Option.bind (y.1[Int.toNat y.2.2]?) fun r5 =>
    if (decide (¬ (r5.2.2.2.1 : Int) = (IntKind.wrap .i64 (c3 + 1)))) = true then
      some (.inr (.inr (-1)))
    else
    if (decide ((0 : Int) ≤ y.2.2)) = true then
    Option.bind (y.1[Int.toNat y.2.2]?) fun r6 =>
    if (decide (¬ (r6.2.2.2.2 : Int) = (IntKind.wrap .i64 ((IntKind.wrap .i64 (c3 + 1)) + 1)))) = true then
      some (.inr (.inr (-1)))
    else
      some (.inl (y.1, IntKind.wrap .i64 ((IntKind.wrap .i64 ((IntKind.wrap .i64 (c3 + 1)) + 1)) + 1), IntKind.wrap .i64 (y.2.2 + 1)))
    else none
    else none
    else none
    else none
    else none
    else none
  else
    some (.inr (.inl y.2.1))
def l_heldCacheLineS (x0 : List (Int × (List Int × (Bool × (Int × Int))))) (x1 : Int) : Option (Int) :=
  Option.bind (loopG l_heldCacheLineS_L1 (x0, x1, 0)) fun v7 =>
  match v7 with
  | .inl y8 =>
    some y8
  | .inr s9 =>
    some s9
def l_heldCache (x0 : Int) (x1 : Int) (x2 : List (Int × (List Int × (Bool × (Int × Int))))) (x3 : Int) : Option (Int) :=
  Option.bind (l_heldCacheLineS x2 x3) fun c1 =>
  if (decide ((c1 : Int) < 0)) = true then
    some (-1)
  else
    some c1
def l_FnExactPinLine (x0 : Int) (x1 : Int) (x2 : List (Int × (List Int × (Bool × (Int × Int))))) (x3 : List (List Int)) (x4 : Int) (x5 : Bool) (x6 : Int) (x7 : Int) (x8 : Int) : Option (Bool) :=
  Option.bind (l_szCache x0 x1 x2 1048576) fun c1 =>
  if (decide ((c1 : Int) < 0)) = true then
    some true
  else
    Option.bind (l_szDisk x3 x4 x5 x6 c1) fun c2 =>
    if (decide ((c2 : Int) < 0)) = true then
      some true
    else
      Option.bind (l_toCache x0 x1 x2) fun c3 =>
      Option.bind (l_toDisk x3 x4 x5 x6) fun c4 =>
      Option.bind (s_PinLine c3.1 c3.2.1 c3.2.2 c4.1 c4.2.1 c4.2.2.1 c4.2.2.2 x7 x8) fun c5 =>
      Option.bind (l_toCache x0 x1 x2) fun c6 =>
      Option.bind (l_toDisk x3 x4 x5 x6) fun c7 =>
      Option.bind (i_PinLine c6.1 c6.2.1 c6.2.2 c7.1 c7.2.1 c7.2.2.1 c7.2.2.2 x7 x8) fun c8 =>
      Option.bind (α := (Int × (Int × (Int × (Int × (Bool × (Int × (Int × (List (Int × (List Int × (Bool × (Int × Int)))) × (List (List Int) × (Int × (Bool × (Int × (Int × (Int × (List (Int × (List Int × (Bool × (Int × Int)))) × (Int × (Int × (List (Int × (List Int × (Bool × (Int × Int)))) × (List (List Int) × (Int × (Bool × (Int × (Int × (Int × List (Int × (List Int × (Bool × (Int × Int))))))))))))))))))))))))))))) (
          Option.bind (l_eqCache c8.2.1 c8.2.2.1 c8.2.2.2 c5.2.1 c5.2.2.1 c5.2.2.2) fun c9 =>
          if (!c9) = true then
            some (x7, x8, c5.1, c8.1, true, x0, x1, x2, x3, x4, x5, x6, c5.2.1, c5.2.2.1, c5.2.2.2, c6.1, c6.2.1, c6.2.2, c7.1, c7.2.1, c7.2.2.1, c7.2.2.2, c8.2.1, c8.2.2.1, c8.2.2.2)
          else
          some (x7, x8, c5.1, c8.1, decide (¬ (c8.1 : Int) = c5.1), x0, x1, x2, x3, x4, x5, x6, c5.2.1, c5.2.2.1, c5.2.2.2, c6.1, c6.2.1, c6.2.2, c7.1, c7.2.1, c7.2.2.1, c7.2.2.2, c8.2.1, c8.2.2.1, c8.2.2.2)) fun v10 =>
      if v10.2.2.2.2.1 = true then
        some false
      else
        Option.bind (l_toCache v10.2.2.2.2.2.1 v10.2.2.2.2.2.2.1 v10.2.2.2.2.2.2.2.1) fun c11 =>
        Option.bind (l_eqCache v10.2.2.2.2.2.2.2.2.2.2.2.2.2.2.2.1 v10.2.2.2.2.2.2.2.2.2.2.2.2.2.2.2.2.1 v10.2.2.2.2.2.2.2.2.2.2.2.2.2.2.2.2.2.1 c11.1 c11.2.1 c11.2.2) fun c12 =>
        if (!c12) = true then
          some false
        else
          Option.bind (l_toDisk v10.2.2.2.2.2.2.2.2.1 v10.2.2.2.2.2.2.2.2.2.1 v10.2.2.2.2.2.2.2.2.2.2.1 v10.2.2.2.2.2.2.2.2.2.2.2.1) fun c13 =>
          Option.bind (l_eqDisk v10.2.2.2.2.2.2.2.2.2.2.2.2.2.2.2.2.2.2.1 v10.2.2.2.2.2.2.2.2.2.2.2.2.2.2.2.2.2.2.2.1 v10.2.2.2.2.2.2.2.2.2.2.2.2.2.2.2.2.2.2.2.2.1 v10.2.2.2.2.2.2.2.2.2.2.2.2.2.2.2.2.2.2.2.2.2.1 c13.1 c13.2.1 c13.2.2.1 c13.2.2.2) fun c14 =>
          if (!c14) = true then
            some false
          else
            Option.bind (l_markCache_l v10.2.2.2.2.2.2.2.2.2.2.2.2.2.2.2.1 v10.2.2.2.2.2.2.2.2.2.2.2.2.2.2.2.2.1 v10.2.2.2.2.2.2.2.2.2.2.2.2.2.2.2.2.2.1 1) fun c15 =>
            Option.bind (l_markDisk_l v10.2.2.2.2.2.2.2.2.2.2.2.2.2.2.2.2.2.2.1 v10.2.2.2.2.2.2.2.2.2.2.2.2.2.2.2.2.2.2.2.1 v10.2.2.2.2.2.2.2.2.2.2.2.2.2.2.2.2.2.2.2.2.1 v10.2.2.2.2.2.2.2.2.2.2.2.2.2.2.2.2.2.2.2.2.2.1 c15.2.2.2) fun c16 =>
            Option.bind (α := (Int × (Int × (Int × (Bool × (Int × (Int × (List (Int × (List Int × (Bool × (Int × Int)))) × (List (List Int) × (Int × (Bool × (Int × (Int × (Int × (List (Int × (List Int × (Bool × (Int × Int)))) × (Int × (Int × List (Int × (List Int × (Bool × (Int × Int))))))))))))))))))))) (
                if (decide ((c16.2.2.2.2 : Int) < 0)) = true then
                  some (v10.1, v10.2.1, v10.2.2.1, true, v10.2.2.2.2.2.1, v10.2.2.2.2.2.2.1, v10.2.2.2.2.2.2.2.1, v10.2.2.2.2.2.2.2.2.1, v10.2.2.2.2.2.2.2.2.2.1, v10.2.2.2.2.2.2.2.2.2.2.1, v10.2.2.2.2.2.2.2.2.2.2.2.1, v10.2.2.2.2.2.2.2.2.2.2.2.2.1, v10.2.2.2.2.2.2.2.2.2.2.2.2.2.1, v10.2.2.2.2.2.2.2.2.2.2.2.2.2.2.1, v10.2.2.2.2.2.2.2.2.2.2.2.2.2.2.2.2.2.2.2.2.2.2.1, v10.2.2.2.2.2.2.2.2.2.2.2.2.2.2.2.2.2.2.2.2.2.2.2.1, v10.2.2.2.2.2.2.2.2.2.2.2.2.2.2.2.2.2.2.2.2.2.2.2.2)
                else
                  Option.bind (l_eqCache v10.2.2.2.2.2.2.2.2.2.2.2.2.2.2.2.2.2.2.2.2.2.2.1 v10.2.2.2.2.2.2.2.2.2.2.2.2.2.2.2.2.2.2.2.2.2.2.2.1 v10.2.2.2.2.2.2.2.2.2.2.2.2.2.2.2.2.2.2.2.2.2.2.2.2 v10.2.2.2.2.2.2.2.2.2.2.2.2.1 v10.2.2.2.2.2.2.2.2.2.2.2.2.2.1 v10.2.2.2.2.2.2.2.2.2.2.2.2.2.2.1) fun c17 =>
                  if (!c17) = true then
                    some (v10.1, v10.2.1, v10.2.2.1, true, v10.2.2.2.2.2.1, v10.2.2.2.2.2.2.1, v10.2.2.2.2.2.2.2.1, v10.2.2.2.2.2.2.2.2.1, v10.2.2.2.2.2.2.2.2.2.1, v10.2.2.2.2.2.2.2.2.2.2.1, v10.2.2.2.2.2.2.2.2.2.2.2.1, v10.2.2.2.2.2.2.2.2.2.2.2.2.1, v10.2.2.2.2.2.2.2.2.2.2.2.2.2.1, v10.2.2.2.2.2.2.2.2.2.2.2.2.2.2.1, v10.2.2.2.2.2.2.2.2.2.2.2.2.2.2.2.2.2.2.2.2.2.2.1, v10.2.2.2.2.2.2.2.2.2.2.2.2.2.2.2.2.2.2.2.2.2.2.2.1, v10.2.2.2.2.2.2.2.2.2.2.2.2.2.2.2.2.2.2.2.2.2.2.2.2)
                  else
                  some (v10.1, v10.2.1, v10.2.2.1, decide (¬ (v10.2.2.2.1 : Int) = v10.2.2.1), v10.2.2.2.2.2.1, v10.2.2.2.2.2.2.1, v10.2.2.2.2.2.2.2.1, v10.2.2.2.2.2.2.2.2.1, v10.2.2.2.2.2.2.2.2.2.1, v10.2.2.2.2.2.2.2.2.2.2.1, v10.2.2.2.2.2.2.2.2.2.2.2.1, v10.2.2.2.2.2.2.2.2.2.2.2.2.1, v10.2.2.2.2.2.2.2.2.2.2.2.2.2.1, v10.2.2.2.2.2.2.2.2.2.2.2.2.2.2.1, v10.2.2.2.2.2.2.2.2.2.2.2.2.2.2.2.2.2.2.2.2.2.2.1, v10.2.2.2.2.2.2.2.2.2.2.2.2.2.2.2.2.2.2.2.2.2.2.2.1, v10.2.2.2.2.2.2.2.2.2.2.2.2.2.2.2.2.2.2.2.2.2.2.2.2)) fun v18 =>
            if v18.2.2.2.1 = true then
              some false
            else
              Option.bind (l_markCache_l v18.2.2.2.2.2.2.2.2.2.2.2.2.2.2.1 v18.2.2.2.2.2.2.2.2.2.2.2.2.2.2.2.1 v18.2.2.2.2.2.2.2.2.2.2.2.2.2.2.2.2 1) fun c19 =>
              Option.bind (l_heldCache v18.2.2.2.2.2.2.2.2.2.2.2.2.2.2.1 v18.2.2.2.2.2.2.2.2.2.2.2.2.2.2.2.1 c19.2.2.1 1) fun c20 =>
              if (decide ((c20 : Int) < 0)) = true then
                some false
              else
              if (decide (¬ (c20 : Int) = c19.2.2.2)) = true then
                some false
              else
                Option.bind (l_toCache v18.2.2.2.2.1 v18.2.2.2.2.2.1 v18.2.2.2.2.2.2.1) fun c21 =>
                Option.bind (l_toDisk v18.2.2.2.2.2.2.2.1 v18.2.2.2.2.2.2.2.2.1 v18.2.2.2.2.2.2.2.2.2.1 v18.2.2.2.2.2.2.2.2.2.2.1) fun c22 =>
                Option.bind (i_PinLine c21.1 c21.2.1 c21.2.2 c22.1 c22.2.1 c22.2.2.1 c22.2.2.2 v18.1 v18.2.1) fun c23 =>
                Option.bind (α := (Int × (Bool × (Int × (Int × List (Int × (List Int × (Bool × (Int × Int))))))))) (
                    Option.bind (l_eqCache c23.2.1 c23.2.2.1 c23.2.2.2 v18.2.2.2.2.2.2.2.2.2.2.2.1 v18.2.2.2.2.2.2.2.2.2.2.2.2.1 v18.2.2.2.2.2.2.2.2.2.2.2.2.2.1) fun c24 =>
                    if (!c24) = true then
                      some (c19.2.2.2, true, v18.2.2.2.2.2.2.2.2.2.2.2.2.2.2.1, v18.2.2.2.2.2.2.2.2.2.2.2.2.2.2.2.1, c19.2.2.1)
                    else
                    some (c19.2.2.2, decide (¬ (c23.1 : Int) = v18.2.2.1), v18.2.2.2.2.2.2.2.2.2.2.2.2.2.2.1, v18.2.2.2.2.2.2.2.2.2.2.2.2.2.2.2.1, c19.2.2.1)) fun v25 =>
                if v25.2.1 = true then
                  some false
                else
                  Option.bind (l_heldCache v25.2.2.1 v25.2.2.2.1 v25.2.2.2.2 1) fun c26 =>
                  if (decide ((c26 : Int) < 0)) = true then
                    some false
                  else
                  if (decide (¬ (c26 : Int) = v25.1)) = true then
                    some false
                  else
                    some true
end
end Go.V.G

set_option linter.unusedVariables false
set_option linter.unusedSimpArgs false
namespace Go.V.G
open Go.V
theorem w64 {n : Int} (h1 : -9223372036854775808 ≤ n) (h2 : n ≤ 9223372036854775807) : IntKind.wrap .i64 n = n := IntWalk.i64_in n ⟨h1, h2⟩
theorem wu64 {n : Int} (h1 : 0 ≤ n) (h2 : n ≤ 18446744073709551615) : IntKind.wrap .u64 n = n := IntWalk.u64_in n ⟨h1, h2⟩
section
variable {σ τ : Type}
theorem loop_run (f : σ → Option (σ ⊕ τ)) (st : Nat → σ) (n : Nat) (z : τ) (h : ∀ k, k < n → f (st k) = some (.inl (st (k + 1)))) (hz : f (st n) = some (.inr z)) : loopG f (st 0) = some z := by
  have : ∀ j, j ≤ n → loopG f (st (n - j)) = some z := by
    intro j
    induction j with
    | zero => intro _; rw [loopG_eq, Nat.sub_zero, hz]
    | succ j ih =>
      intro hj
      rw [loopG_eq, h _ (by omega), show n - (j + 1) + 1 = n - j by omega]
      exact ih (by omega)
  have := this n (Nat.le_refl _)
  rwa [Nat.sub_self] at this
theorem loop_inv (f : σ → Option (σ ⊕ τ)) (I : σ → Prop) (m : σ → Nat) (Q : τ → Prop) (step : ∀ x, I x → (∃ y, f x = some (.inl y) ∧ I y ∧ m y < m x) ∨ ∃ z, f x = some (.inr z) ∧ Q z) :
    ∀ x, I x → ∃ z, loopG f x = some z ∧ Q z := by
  intro x
  induction hm : m x using Nat.strongRecOn generalizing x with
  | ind k ih =>
    intro hx
    rcases step x hx with ⟨y, h1, h2, h3⟩ | ⟨z, h1, h2⟩
    · obtain ⟨z, h4, h5⟩ := ih (m y) (by omega) y rfl h2
      exact ⟨z, by rw [loopG_eq, h1]; exact h4, h5⟩
    · exact ⟨z, by rw [loopG_eq, h1], h2⟩
theorem loop_fn (f : σ → Option (σ ⊕ τ)) (I : σ → Prop) (m : σ → Nat) (F : σ → τ) (step : ∀ x, I x → (∃ y, f x = some (.inl y) ∧ I y ∧ m y < m x ∧ F y = F x) ∨ f x = some (.inr (F x))) :
    ∀ x, I x → loopG f x = some (F x) := by
  intro x
  induction hm : m x using Nat.strongRecOn generalizing x with
  | ind k ih =>
    intro hx
    rcases step x hx with ⟨y, h1, h2, h3, h4⟩ | h1
    · rw [loopG_eq, h1, ← h4]; exact ih (m y) (by omega) y rfl h2
    · rw [loopG_eq, h1]
end
end Go.V.G

set_option linter.unusedVariables false
set_option linter.unusedSimpArgs false
set_option maxRecDepth 100000
namespace Go.V.G
open Go.V
def Ok {α : Type} (o : Option α) (Q : α → Prop) : Prop := ∃ r, o = some r ∧ Q r
section
variable {α β σ τ : Type} {Q : α → Prop}
theorem Ok.mk {r : α} (h : Q r) : Ok (some r) Q := ⟨r, rfl, h⟩
theorem Ok.of {o : Option α} {r : α} (h : o = some r) (hq : Q r) : Ok o Q := ⟨r, h, hq⟩
theorem Ok.eq {o : Option α} {r : α} (h : Ok o fun x => x = r) : o = some r := by obtain ⟨x, h, rfl⟩ := h; exact h
theorem Ok.mono {o : Option α} {R : α → Prop} (h : Ok o Q) (hq : ∀ x, Q x → R x) : Ok o R := by obtain ⟨x, h, h'⟩ := h; exact ⟨x, h, hq x h'⟩
theorem Ok.bind {o : Option α} {f : α → Option β} {R : β → Prop} (h : Ok o Q) (hf : ∀ x, Q x → Ok (f x) R) : Ok (o.bind f) R := by
  obtain ⟨x, h, hx⟩ := h
  subst h
  exact hf x hx
theorem Ok.bind_eq {o : Option α} {f : α → Option β} {R : β → Prop} {r : α} (h : o = some r) (hf : Ok (f r) R) : Ok (o.bind f) R := by subst h; exact hf
theorem Ok.ite {c : Prop} [Decidable c] {a b : Option α} (h1 : c → Ok a Q) (h2 : ¬ c → Ok b Q) : Ok (if c then a else b) Q := by
  split
  · rename_i h; exact h1 h
  · rename_i h; exact h2 h
theorem Ok.yes {c : Prop} [Decidable c] {a b : Option α} (hc : c) (h : Ok a Q) : Ok (if c then a else b) Q := by rw [if_pos hc]; exact h
theorem Ok.no {c : Prop} [Decidable c] {a b : Option α} (hc : ¬ c) (h : Ok b Q) : Ok (if c then a else b) Q := by rw [if_neg hc]; exact h
theorem Ok.loop {f : σ → Option (σ ⊕ τ)} (I : σ → Prop) (m : σ → Nat) {R : τ → Prop} {x : σ} (hx : I x) (step : ∀ x, I x → Ok (f x) fun r => match r with
    | .inl y => I y ∧ m y < m x
    | .inr z => R z) : Ok (loopG f x) R := by
  obtain ⟨z, h1, h2⟩ := loop_inv f I m R (fun x hx => by
    obtain ⟨r, h1, h2⟩ := step x hx
    cases r with
    | inl y => exact .inl ⟨y, h1, h2⟩
    | inr z => exact .inr ⟨z, h1, h2⟩) x hx
  exact ⟨z, h1, h2⟩
end
abbrev Prt := Int × (Int × List UInt8)
def kd (p : Prt) : Int := if 0 < p.1 ∧ p.2.1 = 0 ∧ p.2.2 = [] then 1 else if 0 < p.2.1 ∧ p.1 = 0 ∧ p.2.2 = [] then 2 else if p.2.2 ≠ [] ∧ p.1 = 0 ∧ p.2.1 = 0 then 3 else 0
def I64 (n : Int) : Prop := -9223372036854775808 ≤ n ∧ n ≤ 9223372036854775807
theorem I64.wrap (n : Int) : I64 (IntKind.wrap .i64 n) := by rw [IntKind.wrap_i64]; unfold I64; omega
theorem I64.eq {n : Int} (h : I64 n) : IntKind.wrap .i64 n = n := w64 h.1 h.2
def psum : List Prt → Nat
  | [] => 0
  | p :: l => p.2.2.length + psum l
theorem psum_append : ∀ a b : List Prt, psum (a ++ b) = psum a + psum b
  | [], b => by simp [psum]
  | p :: a, b => by simp only [List.cons_append, psum, psum_append a b]; omega
structure Sm (B : Nat) (l : List Prt) : Prop where
  len : l.length ≤ B
  put : psum l ≤ B
  fit : ∀ p ∈ l, I64 p.1 ∧ I64 p.2.1
theorem Sm.mono {B C : Nat} {l : List Prt} (h : Sm B l) (hc : B ≤ C) : Sm C l := ⟨Nat.le_trans h.len hc, Nat.le_trans h.put hc, h.fit⟩
theorem Sm.nil (B : Nat) : Sm B [] := ⟨Nat.zero_le _, Nat.zero_le _, fun _ h => by cases h⟩
def Bytes (code : List Int) : Prop := ∀ x ∈ code, 0 ≤ x ∧ x ≤ 255
structure At (code : List Int) (k : Int) (a : Int) : Prop where
  b : Bytes code
  lo : 0 ≤ a
  hi : a + k ≤ 4611686018427387904
structure To (code : List Int) (a k : Int) (code' : List Int) (a' : Int) : Prop where
  c : code' = code
  lo : a ≤ a'
  hi : a' ≤ a + k
theorem To.at {code code' : List Int} {a k a' j : Int} (t : To code a k code' a') (h : At code (k + j) a) : At code' j a' := by
  obtain ⟨rfl, h1, h2⟩ := t
  exact ⟨h.b, by have := h.lo; omega, by have := h.hi; omega⟩
theorem To.trans {c c1 c2 : List Int} {a k a1 j a2 : Int} (t : To c a k c1 a1) (u : To c1 a1 j c2 a2) : To c a (k + j) c2 a2 := by
  obtain ⟨rfl, h1, h2⟩ := t
  obtain ⟨rfl, h3, h4⟩ := u
  exact ⟨rfl, by omega, by omega⟩
theorem To.refl (c : List Int) (a : Int) : To c a 0 c a := ⟨rfl, Int.le_refl _, by omega⟩
theorem To.more {c c1 : List Int} {a k a1 j : Int} (t : To c a k c1 a1) (h : k ≤ j) : To c a j c1 a1 := ⟨t.c, t.lo, by have := t.hi; omega⟩
end Go.V.G

set_option linter.unusedVariables false
set_option linter.unusedSimpArgs false
set_option maxRecDepth 100000
namespace Go.V.G
open Go.V
theorem Sm.snoc {B C : Nat} {l : List Prt} {p : Prt} (h : Sm B l) (hp : I64 p.1 ∧ I64 p.2.1) (hl : B + 1 ≤ C) (hc : B + p.2.2.length ≤ C) : Sm C (l ++ [p]) :=
  ⟨by have := h.len; simp; omega, by rw [psum_append]; simp only [psum]; have := h.put; omega, fun q hq => by
    rcases List.mem_append.1 hq with hq | hq
    · exact h.fit q hq
    · rw [List.mem_singleton.1 hq]; exact hp⟩
end Go.V.G

set_option linter.unusedVariables false
set_option linter.unusedSimpArgs false
set_option maxRecDepth 100000
namespace Go.V.G
open Go.V
def src : List Prt → Int
  | [] => 0
  | p :: l => p.1 + p.2.1 + src l
structure Some1 (p : Prt) : Prop where
  k : 0 ≤ p.1
  d : 0 ≤ p.2.1
  ne : kd p ≠ 0
def before (l : List Prt) (i : Nat) : Int := if i = 0 then 0 else match l[i - 1]? with
  | some p => kd p
  | none => 0
end Go.V.G

set_option linter.unusedVariables false
set_option linter.unusedSimpArgs false
set_option maxRecDepth 100000
namespace Go.V.G
open Go.V
theorem s_In_eq (n lo hi : Int) : s_l1In n lo hi = some (decide (lo ≤ n ∧ n ≤ hi)) := by
  unfold s_l1In
  by_cases h1 : lo ≤ n <;> simp [h1]
theorem i_within_eq (n lo hi : Int) : i_within n lo hi = some (decide (lo ≤ n ∧ n ≤ hi)) := by
  unfold i_within
  by_cases h1 : lo ≤ n <;> simp [h1]
end Go.V.G

set_option linter.unusedVariables false
set_option linter.unusedSimpArgs false
set_option maxRecDepth 100000
namespace Go.V.G
open Go.V
abbrev Bls := List (List Int)
structure Bd (bl : Bls) : Prop where
  n : bl.length ≤ 100000
  b : ∀ x ∈ bl, 0 < x.length ∧ x.length ≤ 100000
def gd (bl : Bls) (wr lf : Int) : Bool := decide (40 ≤ bl.length ∧ bl.length ≤ 160) && (bl.all (fun b => b.length == 128) && (decide (0 ≤ wr ∧ wr ≤ 1000000000) && decide (-1 ≤ lf ∧ lf ≤ 1000000)))
theorem clone_any {x : List Int} (h : x.length ≤ 1048576) : slices_Clone_byte_byte x = some x := by
  unfold slices_Clone_byte_byte
  have hr : roomFor (List.length ([] : List Int) + List.length x) 1 = true := by
    simp only [List.length_nil, roomFor, decide_eq_true_eq]; omega
  cases x with
  | nil => simp [bothQ, roomFor]
  | cons a x => simp only [bothQ, List.isEmpty_cons, Bool.false_eq_true, if_false, Option.bind_some, hr, if_true, List.nil_append]
theorem index_eq {bl : Bls} (hn : bl.length ≤ 1048576) : Ok (slices_IndexFunc_byte_byte_i_areBlocks_1 bl) fun r => (0 ≤ r ↔ ¬ bl.all (fun b => b.length == 128) = true) := by
  unfold slices_IndexFunc_byte_byte_i_areBlocks_1
  refine Ok.bind (Q := fun r => match r with | .inl _ => bl.all (fun b => b.length == 128) = true | .inr i => 0 ≤ i ∧ ¬ bl.all (fun b => b.length == 128) = true) ?_ ?_
  · refine Ok.loop (fun y => ∃ k : Nat, k ≤ bl.length ∧ y = (bl, ((bl.length : Nat) : Int), ((k : Nat) : Int)) ∧ ∀ j (hj : j < bl.length), j < k → bl[j].length = 128) (fun y => (((bl.length : Nat) : Int) - y.2.2).toNat) ⟨0, by omega, rfl, fun _ _ h => absurd h (by omega)⟩ ?_
    rintro _ ⟨k, hk, rfl, hall⟩
    unfold slices_IndexFunc_byte_byte_i_areBlocks_1_L1
    dsimp only
    refine Ok.ite (fun hc => ?_) fun hc => ?_
    · have hlt : k < bl.length := by simpa using hc
      refine Ok.yes (by simp) ?_
      have hg : bl[Int.toNat ((k : Nat) : Int)]? = some bl[k] := by simp [hlt]
      refine Ok.bind_eq hg (Ok.bind_eq rfl (Ok.ite (fun hb => Ok.mk ⟨by omega, ?_⟩) fun hb => ?_))
      · have hb' : ¬ bl[k].length = 128 := by simp at hb; omega
        intro hx
        have := List.all_eq_true.1 hx _ (List.getElem_mem hlt)
        simp at this
        exact hb' this
      · have hb' : bl[k].length = 128 := by simp at hb; omega
        have e1 : IntKind.wrap .i64 (((k : Nat) : Int) + 1) = (((k + 1 : Nat)) : Int) := by rw [w64 (by omega) (by omega)]; omega
        refine Ok.mk ⟨⟨k + 1, by omega, by rw [e1], fun j hj hjk => ?_⟩, ?_⟩
        · by_cases hjk2 : j = k
          · subst hjk2; exact hb'
          · exact hall j hj (by omega)
        · dsimp only; rw [e1]; omega
    · have : k = bl.length := by simp at hc; omega
      refine Ok.mk ?_
      dsimp only
      rw [List.all_eq_true]
      intro x hx
      obtain ⟨j, hj, rfl⟩ := List.getElem_of_mem hx
      simp [hall j hj (by omega)]
  · rintro (u | i) hr
    · refine Ok.mk ?_
      simp only at hr
      simp [hr]
    · refine Ok.mk ?_
      simp only at hr
      simp only [hr.1, true_iff]; exact hr.2
theorem i_good_n {bl : Bls} (hn : bl.length ≤ 1048576) (wr : Int) (on : Bool) (lf : Int) : i_GoodDisk bl wr on lf = some (gd bl wr lf) := by
  have hA : i_areBlocks bl = some (decide (40 ≤ bl.length ∧ bl.length ≤ 160) && bl.all (fun b => b.length == 128)) := by
    unfold i_areBlocks
    refine Ok.eq (Ok.bind (Q := fun r => r = _) ?_ (fun r hr => Ok.mk hr))
    refine Ok.bind_eq (i_within_eq _ _ _) ?_
    refine Ok.ite (fun hc => ?_) fun hc => Ok.mk ?_
    · refine Ok.bind (Q := fun r => r = !(bl.all (fun b => b.length == 128))) ?_ (fun r hr => Ok.mk ?_)
      · unfold slices_ContainsFunc_byte_byte_i_areBlocks_1
        refine (index_eq hn).bind fun r hr => Ok.mk ?_
        cases ha : bl.all (fun b => b.length == 128) with
        | true => rw [ha] at hr; simpa using hr
        | false => rw [ha] at hr; simpa using hr
      · have hc' : 40 ≤ bl.length ∧ bl.length ≤ 160 := by simp at hc; omega
        rw [hr]; simp [hc']
    · have hc' : ¬ (40 ≤ bl.length ∧ bl.length ≤ 160) := by simp at hc; omega
      simp [hc']
  unfold i_GoodDisk gd
  refine Ok.eq (Ok.bind (Q := fun r => r = _) ?_ (fun r hr => Ok.mk hr))
  refine Ok.bind_eq hA ?_
  refine Ok.ite (fun hc => ?_) fun hc => Ok.mk ?_
  · simp only [Bool.and_eq_true] at hc
    refine Ok.bind_eq (i_within_eq _ _ _) (Ok.ite (fun hw => Ok.bind_eq (i_within_eq _ _ _) (Ok.mk ?_)) fun hw => Ok.mk ?_)
    · simp only [decide_eq_true_eq] at hw
      simp [hc.1, hc.2, hw]
    · simp only [decide_eq_true_eq] at hw
      simp [hw]
  · have : (decide (40 ≤ bl.length ∧ bl.length ≤ 160) && bl.all (fun b => b.length == 128)) = false := by simpa using hc
    rw [← Bool.and_assoc, this, Bool.false_and]
theorem s_good_n {bl : Bls} (hn : bl.length ≤ 1048576) (wr : Int) (on : Bool) (lf : Int) : s_GoodDisk bl wr on lf = some (gd bl wr lf) := by
  unfold s_GoodDisk gd
  refine Ok.eq (Ok.bind (Q := fun r => r = (!(decide (40 ≤ bl.length ∧ bl.length ≤ 160) && (decide (0 ≤ wr ∧ wr ≤ 1000000000) && decide (-1 ≤ lf ∧ lf ≤ 1000000))), bl, wr, on, lf)) ?_ ?_)
  · refine Ok.bind_eq (s_In_eq _ _ _) (Ok.ite (fun hc => Ok.mk ?_) fun hc => ?_)
    · have hc' : ¬ (40 ≤ bl.length ∧ bl.length ≤ 160) := by simp at hc; omega
      simp [hc']
    · have hc' : 40 ≤ bl.length ∧ bl.length ≤ 160 := by simp at hc; omega
      refine Ok.bind_eq (s_In_eq _ _ _) (Ok.ite (fun hw => Ok.mk ?_) fun hw => Ok.bind_eq (s_In_eq _ _ _) (Ok.mk ?_))
      · have hw' : ¬ (0 ≤ wr ∧ wr ≤ 1000000000) := by simpa only [Bool.not_eq_true', decide_eq_false_iff_not] using hw
        simp [hw']
      · have hw' : 0 ≤ wr ∧ wr ≤ 1000000000 := by simpa using hw
        simp [hc', hw']
  · rintro _ rfl
    dsimp only
    refine Ok.ite (fun hc => Ok.mk ?_) fun hc => ?_
    · have hc' : (decide (40 ≤ bl.length ∧ bl.length ≤ 160) && (decide (0 ≤ wr ∧ wr ≤ 1000000000) && decide (-1 ≤ lf ∧ lf ≤ 1000000))) = false := by simpa only [Bool.not_not, Bool.not_eq_true', Bool.not_eq_true, Bool.not_eq_false'] using hc
      cases h1 : decide (40 ≤ bl.length ∧ bl.length ≤ 160) with
      | false => simp
      | true => rw [h1, Bool.true_and] at hc'; rw [hc']; simp
    · have hc' : (decide (40 ≤ bl.length ∧ bl.length ≤ 160) && (decide (0 ≤ wr ∧ wr ≤ 1000000000) && decide (-1 ≤ lf ∧ lf ≤ 1000000))) = true := by simpa using hc
      rw [Bool.and_eq_true] at hc'
      rw [hc'.1, hc'.2, Bool.true_and, Bool.and_true]
      refine Ok.bind (Q := fun r => match r with | .inl _ => bl.all (fun b => b.length == 128) = true | .inr i => i = false ∧ ¬ bl.all (fun b => b.length == 128) = true) ?_ ?_
      · refine Ok.loop (fun y => ∃ k : Nat, k ≤ bl.length ∧ y = (bl, ((bl.length : Nat) : Int), ((k : Nat) : Int)) ∧ ∀ j (hj : j < bl.length), j < k → bl[j].length = 128) (fun y => (((bl.length : Nat) : Int) - y.2.2).toNat) ⟨0, by omega, rfl, fun _ _ h => absurd h (by omega)⟩ ?_
        rintro _ ⟨k, hk, rfl, hall⟩
        unfold s_GoodDisk_L1
        dsimp only
        refine Ok.ite (fun hc => ?_) fun hc => ?_
        · have hlt : k < bl.length := by simpa using hc
          refine Ok.yes (by simp) ?_
          have hg : bl[Int.toNat ((k : Nat) : Int)]? = some bl[k] := by simp [hlt]
          refine Ok.bind_eq hg (Ok.ite (fun hb => Ok.mk ⟨rfl, ?_⟩) fun hb => ?_)
          · have hb' : ¬ bl[k].length = 128 := by simp at hb; omega
            intro hx
            have := List.all_eq_true.1 hx _ (List.getElem_mem hlt)
            simp at this
            exact hb' this
          · have hb' : bl[k].length = 128 := by simp at hb; omega
            have e1 : IntKind.wrap .i64 (((k : Nat) : Int) + 1) = (((k + 1 : Nat)) : Int) := by rw [w64 (by omega) (by omega)]; omega
            refine Ok.mk ⟨⟨k + 1, by omega, by rw [e1], fun j hj hjk => ?_⟩, ?_⟩
            · by_cases hjk2 : j = k
              · subst hjk2; exact hb'
              · exact hall j hj (by omega)
            · dsimp only; rw [e1]; omega
        · have : k = bl.length := by simp at hc; omega
          refine Ok.mk ?_
          dsimp only
          rw [List.all_eq_true]
          intro x hx
          obtain ⟨j, hj, rfl⟩ := List.getElem_of_mem hx
          simp [hall j hj (by omega)]
      · rintro (u | i) hr
        · exact Ok.mk hr.symm
        · refine Ok.mk ?_
          simp only at hr
          rw [hr.1]
          simpa using hr.2
end Go.V.G

set_option linter.unusedVariables false
set_option linter.unusedSimpArgs false
set_option maxRecDepth 100000
namespace Go.V.G
open Go.V
theorem Bd.set {bl : Bls} (h : Bd bl) {x : List Int} (hx : 0 < x.length ∧ x.length ≤ 100000) (i : Nat) : Bd (bl.set i x) :=
  ⟨by rw [List.length_set]; exact h.n, fun y hy => by
    rcases List.mem_or_eq_of_mem_set hy with hy | rfl
    · exact h.b y hy
    · exact hx⟩
theorem has_n {bl : Bls} (hn : bl.length ≤ 1048576) (wr : Int) (on : Bool) (lf a : Int) : i_Disk_has bl wr on lf a = some (decide (0 ≤ a ∧ a < bl.length)) := by
  unfold i_Disk_has
  rw [w64 (by omega) (by omega), i_within_eq]
  refine congrArg some ?_
  by_cases h0 : 0 ≤ a ∧ a < bl.length
  · have : 0 ≤ a ∧ a ≤ ((bl.length : Nat) : Int) - 1 := by omega
    simp only [this, h0, decide_true, and_self]
  · have : ¬ (0 ≤ a ∧ a ≤ ((bl.length : Nat) : Int) - 1) := by omega
    rw [decide_eq_false this, decide_eq_false h0]
end Go.V.G

set_option linter.unusedVariables false
set_option linter.unusedSimpArgs false
set_option maxRecDepth 100000
namespace Go.V.G
open Go.V
section
variable {α : Type}
theorem ixS {n i : Nat} (hn : n ≤ 4611686018427387904) (h : i < n) : IntKind.wrap .i64 (((i : Nat) : Int) + 1) = ((i + 1 : Nat) : Int) := by rw [w64 (by omega) (by omega)]; omega
def wsum (w : α → Nat) : List α → Nat
  | [] => 0
  | x :: xs => w x + wsum w xs
theorem wsum_mem (w : α → Nat) : ∀ {xs : List α} {x : α}, x ∈ xs → w x ≤ wsum w xs
  | y :: xs, x, h => by
    rcases List.mem_cons.1 h with rfl | h
    · simp only [wsum]; omega
    · have := wsum_mem w h; simp only [wsum]; omega
theorem wsum_append (w : α → Nat) : ∀ (a b : List α), wsum w (a ++ b) = wsum w a + wsum w b
  | [], b => by simp [wsum]
  | x :: a, b => by simp only [List.cons_append, wsum, wsum_append w a b]; omega
def lft (l : Int) (n : Nat) : Int := if ((n : Nat) : Int) ≤ l then l - n else -1
theorem sz_loop (f : List α × (Int × Int) → Option ((List α × (Int × Int)) ⊕ (Int ⊕ Int))) (w : α → Nat) (xs : List α)
    (step : ∀ (i : Nat) (h : i < xs.length) (l : Int), 0 ≤ l → l ≤ 1048576 → f (xs, l, ((i : Nat) : Int)) = some (if ((w xs[i] : Nat) : Int) ≤ l then .inl (xs, l - w xs[i], ((i + 1 : Nat) : Int)) else .inr (.inr (-1))))
    (last : ∀ l, f (xs, l, ((xs.length : Nat) : Int)) = some (.inr (.inl l))) {l : Int} (h0 : 0 ≤ l) (h1 : l ≤ 1048576) :
    loopG f (xs, l, 0) = some (if ((wsum w xs : Nat) : Int) ≤ l then .inl (l - wsum w xs) else .inr (-1)) := by
  have := loop_fn f (fun y => y.1 = xs ∧ (0 ≤ y.2.1 ∧ y.2.1 ≤ 1048576) ∧ ∃ i : Nat, y.2.2 = ((i : Nat) : Int) ∧ i ≤ xs.length) (fun y => (((xs.length : Nat) : Int) - y.2.2).toNat)
    (fun y => if ((wsum w (y.1.drop y.2.2.toNat) : Nat) : Int) ≤ y.2.1 then .inl (y.2.1 - wsum w (y.1.drop y.2.2.toNat)) else .inr (-1)) (by
      rintro ⟨ys, l, i'⟩ ⟨e1, ⟨h0, h1⟩, i, e2, hi⟩
      dsimp only at e1 h0 h1 e2
      subst e1 e2
      dsimp only
      rcases Nat.lt_or_ge i ys.length with hlt | hge
      · have hs := step i hlt l h0 h1
        have hd : wsum w (ys.drop i) = w ys[i] + wsum w (ys.drop (i + 1)) := by rw [List.drop_eq_getElem_cons hlt]; rfl
        simp only [Int.toNat_natCast]
        by_cases hw : ((w ys[i] : Nat) : Int) ≤ l
        · left
          rw [if_pos hw] at hs
          refine ⟨_, hs, ⟨rfl, by dsimp only; omega, i + 1, rfl, by omega⟩, by dsimp only; omega, ?_⟩
          dsimp only
          simp only [Int.toNat_natCast, hd]
          by_cases hx : (((wsum w (ys.drop (i + 1)) : Nat) : Int)) ≤ l - ((w ys[i] : Nat) : Int)
          · rw [if_pos hx, if_pos (by omega)]
            congr 1; omega
          · rw [if_neg hx, if_neg (by omega)]
        · right
          rw [if_neg hw] at hs
          rw [hs, if_neg (by rw [hd]; omega)]
      · right
        have : i = ys.length := by omega
        subst this
        rw [last]
        simp [wsum, h0]) (xs, l, 0) ⟨rfl, ⟨h0, h1⟩, 0, rfl, Nat.zero_le _⟩
  simpa using this
theorem eq_loop (f : List α × (List α × Int) → Option ((List α × (List α × Int)) ⊕ (Unit ⊕ Bool))) (xs : List α) (step : ∀ (i : Nat) (h : i < xs.length), f (xs, xs, ((i : Nat) : Int)) = some (.inl (xs, xs, ((i + 1 : Nat) : Int))))
    (last : f (xs, xs, ((xs.length : Nat) : Int)) = some (.inr (.inl ()))) : loopG f (xs, xs, 0) = some (.inl ()) := by
  have := loop_run f (fun k => (xs, xs, ((k : Nat) : Int))) xs.length (.inl ()) (fun k hk => step k hk) last
  simpa using this
theorem to_loop (f : List α × (List α × Int) → Option ((List α × (List α × Int)) ⊕ (List α))) (xs : List α) (z : α)
    (step : ∀ (ys : List α) (i : Nat) (h : i < xs.length), ys.length = xs.length → f (xs, ys, ((i : Nat) : Int)) = some (.inl (xs, ys.set i xs[i], ((i + 1 : Nat) : Int))))
    (last : ∀ ys : List α, f (xs, ys, ((xs.length : Nat) : Int)) = some (.inr ys)) : loopG f (xs, List.replicate xs.length z, 0) = some xs := by
  have := loop_run f (fun k => (xs, xs.take k ++ List.replicate (xs.length - k) z, ((k : Nat) : Int))) xs.length xs (fun k hk => by
    rw [step _ k hk (by simp; omega), show xs.length - k = (xs.length - (k + 1)) + 1 by omega, List.replicate_succ, List.take_succ_eq_append_getElem hk, List.set_append_right _ _ (by simp; omega),
      List.length_take, Nat.min_eq_left (Nat.le_of_lt hk), Nat.sub_self, List.set_cons_zero, List.append_assoc]
    rfl) (by rw [last]; simp)
  simpa using this
def mks (m : α → Int → α) (c : α → Nat) : List α → Int → List α
  | [], _ => []
  | x :: xs, k => m x k :: mks m c xs (k + c x)
theorem mks_len (m : α → Int → α) (c : α → Nat) : ∀ (xs : List α) (k : Int), (mks m c xs k).length = xs.length
  | [], _ => rfl
  | x :: xs, k => by simp only [mks, List.length_cons, mks_len m c xs]
theorem mks_append (m : α → Int → α) (c : α → Nat) : ∀ (a b : List α) (k : Int), mks m c (a ++ b) k = mks m c a k ++ mks m c b (k + wsum c a)
  | [], b, k => by simp [mks, wsum]
  | x :: a, b, k => by
    simp only [List.cons_append, mks, mks_append m c a b, wsum]
    congr 3; omega
theorem mks_get (m : α → Int → α) (c : α → Nat) {xs : List α} {k : Int} {i : Nat} (h : i < xs.length) : (mks m c xs k)[i]'(by rw [mks_len]; exact h) = m xs[i] (k + wsum c (xs.take i)) := by
  have e : xs = xs.take i ++ xs[i] :: xs.drop (i + 1) := by rw [← List.drop_eq_getElem_cons h, List.take_append_drop]
  have hl : (mks m c (xs.take i) k).length = i := by rw [mks_len, List.length_take]; omega
  have h2 : (mks m c xs k)[i]? = some (m xs[i] (k + wsum c (xs.take i))) := by
    conv => lhs; rw [e]
    rw [mks_append, List.getElem?_append_right (by omega), hl, Nat.sub_self]; rfl
  rw [List.getElem?_eq_getElem (by rw [mks_len]; exact h)] at h2
  exact Option.some.inj h2
theorem wsum_take (c : α → Nat) {xs : List α} {i : Nat} (h : i < xs.length) : wsum c (xs.take (i + 1)) = wsum c (xs.take i) + c xs[i] := by
  rw [List.take_succ_eq_append_getElem h, wsum_append]; simp [wsum]
theorem wsum_take_le (c : α → Nat) (xs : List α) (i : Nat) : wsum c (xs.take i) ≤ wsum c xs := by
  conv => rhs; rw [← List.take_append_drop i xs]
  rw [wsum_append]; omega
theorem mark_loop (f : List α × (Int × Int) → Option ((List α × (Int × Int)) ⊕ (List α × Int))) (m : α → Int → α) (c : α → Nat) (xs : List α)
    (step : ∀ (ys : List α) (i : Nat) (h : i < ys.length) (k : Int), ys.length = xs.length → ys[i] ∈ xs → 0 ≤ k → k + c ys[i] ≤ 4611686018427387904 → f (ys, k, ((i : Nat) : Int)) = some (.inl (ys.set i (m ys[i] k), k + c ys[i], ((i + 1 : Nat) : Int))))
    (last : ∀ (ys : List α) (k : Int), f (ys, k, ((ys.length : Nat) : Int)) = some (.inr (ys, k))) {k : Int} (h0 : 0 ≤ k) (h1 : k + wsum c xs ≤ 4611686018427387904) :
    loopG f (xs, k, 0) = some (mks m c xs k, k + wsum c xs) := by
  have := loop_run f (fun i => (mks m c (xs.take i) k ++ xs.drop i, k + wsum c (xs.take i), ((i : Nat) : Int))) xs.length (mks m c xs k, k + wsum c xs) (fun i hi => by
    have hl : (mks m c (xs.take i) k).length = i := by rw [mks_len, List.length_take]; omega
    have hlen : (mks m c (xs.take i) k ++ xs.drop i).length = xs.length := by rw [List.length_append, hl, List.length_drop]; omega
    have hget : (mks m c (xs.take i) k ++ xs.drop i)[i]'(by rw [hlen]; exact hi) = xs[i] := by
      rw [List.getElem_append_right (by omega)]
      simp [hl]
    have ht := wsum_take c hi
    have hle := wsum_take_le c xs (i + 1)
    rw [step _ i (by rw [hlen]; exact hi) _ hlen (by rw [hget]; exact List.getElem_mem hi) (by omega) (by rw [hget]; omega), hget]
    have e1 : (mks m c (xs.take i) k ++ xs.drop i).set i (m xs[i] (k + wsum c (xs.take i))) = mks m c (xs.take (i + 1)) k ++ xs.drop (i + 1) := by
      rw [List.set_append_right _ _ (by omega), hl, Nat.sub_self, List.drop_eq_getElem_cons hi, List.set_cons_zero, List.take_succ_eq_append_getElem hi, mks_append, List.append_assoc]; rfl
    rw [e1, ht]
    congr 4; omega) (by
      have hl : (mks m c (xs.take xs.length) k ++ xs.drop xs.length).length = xs.length := by rw [List.length_append, mks_len]; simp
      have := last (mks m c (xs.take xs.length) k ++ xs.drop xs.length) (k + wsum c (xs.take xs.length))
      rw [hl] at this
      rw [this]; simp)
  simpa [mks, wsum] using this
theorem held_loop (g : List α × (Int × Int) → Option ((List α × (Int × Int)) ⊕ (Int ⊕ Int))) (m : α → Int → α) (c : α → Nat) (xs : List α)
    (step : ∀ (ys : List α) (i : Nat) (h : i < ys.length) (x : α) (k : Int), ys.length = xs.length → x ∈ xs → ys[i] = m x k → 0 ≤ k → k + c x ≤ 4611686018427387904 → g (ys, k, ((i : Nat) : Int)) = some (.inl (ys, k + c x, ((i + 1 : Nat) : Int))))
    (last : ∀ (ys : List α) (k : Int), g (ys, k, ((ys.length : Nat) : Int)) = some (.inr (.inl k))) {k : Int} (h0 : 0 ≤ k) (h1 : k + wsum c xs ≤ 4611686018427387904) :
    loopG g (mks m c xs k, k, 0) = some (.inl (k + wsum c xs)) := by
  have := loop_run g (fun i => (mks m c xs k, k + wsum c (xs.take i), ((i : Nat) : Int))) xs.length (.inl (k + wsum c xs)) (fun i hi => by
    have ht := wsum_take c hi
    have hle := wsum_take_le c xs (i + 1)
    rw [step _ i (by rw [mks_len]; exact hi) xs[i] _ (mks_len ..) (List.getElem_mem hi) (mks_get m c hi) (by omega) (by omega), ht]
    congr 4; omega) (by
      have := last (mks m c xs k) (k + wsum c (xs.take xs.length))
      rw [mks_len] at this
      rw [this]; simp)
  simpa [wsum] using this
end
end Go.V.G

set_option linter.unusedVariables false
set_option linter.unusedSimpArgs false
set_option maxRecDepth 100000
namespace Go.V.G
open Go.V
def fit_ByteS (xs : List (Int)) : Prop := xs.length ≤ maxLen
def w_ByteS (xs : List (Int)) : Nat := xs.length
theorem w_ByteS_len (xs : List (Int)) : xs.length ≤ w_ByteS xs := by unfold w_ByteS; omega
theorem sz_ByteS {xs : List (Int)} (hf : fit_ByteS xs) {l : Int} (h0 : 0 ≤ l) (h1 : l ≤ 1048576) : l_szByteS xs l = some (lft l (w_ByteS xs)) := by
  have hl : xs.length ≤ maxLen := hf
  unfold maxLen at hl
  unfold l_szByteS lft w_ByteS
  rw [w64 (by omega) (by omega)]
  by_cases h : l - ((xs.length : Nat) : Int) < 0
  · rw [if_pos (by simpa using h), if_neg (by omega)]
  · rw [if_neg (by simpa using h), if_pos (by omega)]
theorem to_ByteS {xs : List (Int)} (h : w_ByteS xs ≤ 1048576) : l_toByteS xs = some xs := by
  have hl := w_ByteS_len xs
  have hr : roomFor xs.length 1 = true := by simp only [roomFor, decide_eq_true_eq]; omega
  unfold l_toByteS
  simp only [Int.toNat_natCast, hr, if_true, Int.le_refl, decide_true, show (0 : Int) ≤ ((xs.length : Nat) : Int) from by omega]
  rw [to_loop l_toByteS_L1 xs _ (by
    intro ys i hi hy
    have hc : ((i : Nat) : Int) < ((xs.length : Nat) : Int) := by omega
    have hy' : i < ys.length := by omega
    have g1 : ∀ x, (ys.set i x)[i]? = some x := fun x => List.getElem?_set_self hy'
    skip
    unfold l_toByteS_L1
    simp only [hy, hc, decide_true, if_true, show (0 : Int) ≤ ((i : Nat) : Int) from by omega, Int.toNat_natCast, List.getElem?_eq_getElem hi, List.getElem?_eq_getElem hy', Option.bind_some, Nat.zero_add, List.set_set, g1, ixS (show xs.length ≤ 4611686018427387904 by omega) hi]) (by intro ys; simp [l_toByteS_L1])]
  rfl
theorem eq_ByteS {xs : List (Int)} (h : w_ByteS xs ≤ 1099511627776) : l_eqByteS xs xs = some true := by
  have hl := w_ByteS_len xs
  unfold l_eqByteS
  rw [if_neg (by simp), eq_loop l_eqByteS_L1 xs (by
    intro i hi
    have hc : ((i : Nat) : Int) < ((xs.length : Nat) : Int) := by omega
    skip
    unfold l_eqByteS_L1
    simp only [hc, decide_true, if_true, show (0 : Int) ≤ ((i : Nat) : Int) from by omega, Int.toNat_natCast, List.getElem?_eq_getElem hi, Option.bind_some, ixS (show xs.length ≤ 4611686018427387904 by omega) hi, Bool.not_true, Bool.false_eq_true, if_false, not_true_eq_false, decide_false]) (by simp [l_eqByteS_L1])]
  rfl
def fit_ByteSS (xs : List (List Int)) : Prop := xs.length ≤ maxLen ∧ ∀ x ∈ xs, fit_ByteS x
def w_ByteSS (xs : List (List Int)) : Nat := xs.length + wsum w_ByteS xs
theorem w_ByteSS_len (xs : List (List Int)) : xs.length ≤ w_ByteSS xs := by unfold w_ByteSS; omega
theorem sz_ByteSS {xs : List (List Int)} (hf : fit_ByteSS xs) {l : Int} (h0 : 0 ≤ l) (h1 : l ≤ 1048576) : l_szByteSS xs l = some (lft l (w_ByteSS xs)) := by
  obtain ⟨hl, hx⟩ := hf
  unfold maxLen at hl
  unfold l_szByteSS
  rw [w64 (by omega) (by omega)]
  by_cases h : l - ((xs.length : Nat) : Int) < 0
  · rw [if_pos (by simpa using h)]; unfold lft w_ByteSS; rw [if_neg (by omega)]
  · rw [if_neg (by simpa using h), sz_loop l_szByteSS_L1 w_ByteS xs (by
      intro i hi l h0 h1
      have hc : ((i : Nat) : Int) < ((xs.length : Nat) : Int) := by omega
      have hx := hx _ (List.getElem_mem hi)
      unfold l_szByteSS_L1
      simp only [hc, decide_true, if_true, show (0 : Int) ≤ ((i : Nat) : Int) from by omega, Int.toNat_natCast, List.getElem?_eq_getElem hi, Option.bind_some, sz_ByteS (hx) h0 h1, ixS (show xs.length ≤ 4611686018427387904 by omega) hi]
      unfold lft
      by_cases hw : ((w_ByteS xs[i] : Nat) : Int) ≤ l
      · have : ¬ l - ((w_ByteS xs[i] : Nat) : Int) < 0 := by omega
        simp [hw, this]
      · simp [hw]) (by intro l; simp [l_szByteSS_L1]) (by omega) (by omega), Option.bind_some]
    unfold lft w_ByteSS
    by_cases hx : ((wsum w_ByteS xs : Nat) : Int) ≤ l - ((xs.length : Nat) : Int)
    · rw [if_pos hx, if_pos (by omega)]
      show some _ = some _
      congr 1; omega
    · rw [if_neg hx, if_neg (by omega)]
theorem to_ByteSS {xs : List (List Int)} (h : w_ByteSS xs ≤ 1048576) : l_toByteSS xs = some xs := by
  have hl := w_ByteSS_len xs
  have hr : roomFor xs.length 24 = true := by simp only [roomFor, decide_eq_true_eq]; omega
  unfold l_toByteSS
  simp only [Int.toNat_natCast, hr, if_true, Int.le_refl, decide_true, show (0 : Int) ≤ ((xs.length : Nat) : Int) from by omega]
  rw [to_loop l_toByteSS_L1 xs _ (by
    intro ys i hi hy
    have hc : ((i : Nat) : Int) < ((xs.length : Nat) : Int) := by omega
    have hy' : i < ys.length := by omega
    have g1 : ∀ x, (ys.set i x)[i]? = some x := fun x => List.getElem?_set_self hy'
    have hb : w_ByteS xs[i] ≤ 1048576 := by have := wsum_mem w_ByteS (List.getElem_mem hi); unfold w_ByteSS at h; omega
    unfold l_toByteSS_L1
    simp only [hy, hc, decide_true, if_true, show (0 : Int) ≤ ((i : Nat) : Int) from by omega, Int.toNat_natCast, List.getElem?_eq_getElem hi, List.getElem?_eq_getElem hy', Option.bind_some, Nat.zero_add, List.set_set, g1, ixS (show xs.length ≤ 4611686018427387904 by omega) hi, to_ByteS (hb)]) (by intro ys; simp [l_toByteSS_L1])]
  rfl
theorem eq_ByteSS {xs : List (List Int)} (h : w_ByteSS xs ≤ 1099511627776) : l_eqByteSS xs xs = some true := by
  have hl := w_ByteSS_len xs
  unfold l_eqByteSS
  rw [if_neg (by simp), eq_loop l_eqByteSS_L1 xs (by
    intro i hi
    have hc : ((i : Nat) : Int) < ((xs.length : Nat) : Int) := by omega
    have hb : w_ByteS xs[i] ≤ 1099511627776 := by have := wsum_mem w_ByteS (List.getElem_mem hi); unfold w_ByteSS at h; omega
    unfold l_eqByteSS_L1
    simp only [hc, decide_true, if_true, show (0 : Int) ≤ ((i : Nat) : Int) from by omega, Int.toNat_natCast, List.getElem?_eq_getElem hi, Option.bind_some, ixS (show xs.length ≤ 4611686018427387904 by omega) hi, eq_ByteS (hb), Bool.not_true, Bool.false_eq_true, if_false, not_true_eq_false, decide_false]) (by simp [l_eqByteSS_L1])]
  rfl
def fit_CacheLineS (xs : List (Int × (List Int × (Bool × (Int × Int))))) : Prop := xs.length ≤ maxLen ∧ ∀ x ∈ xs, fit_ByteS x.2.1
def w_CacheLine (x : Int × (List Int × (Bool × (Int × Int)))) : Nat := w_ByteS x.2.1
def w_CacheLineS (xs : List (Int × (List Int × (Bool × (Int × Int))))) : Nat := xs.length + wsum w_CacheLine xs
theorem w_CacheLineS_len (xs : List (Int × (List Int × (Bool × (Int × Int))))) : xs.length ≤ w_CacheLineS xs := by unfold w_CacheLineS; omega
theorem sz_CacheLine {x : Int × (List Int × (Bool × (Int × Int)))} (hf : fit_ByteS x.2.1) {l : Int} (h0 : 0 ≤ l) (h1 : l ≤ 1048576) : l_szCacheLine x.1 x.2.1 x.2.2.1 x.2.2.2.1 x.2.2.2.2 l = some (lft l (w_CacheLine x)) := by
  unfold l_szCacheLine
  rw [sz_ByteS hf h0 h1, Option.bind_some]
  show _ = some (lft l (w_ByteS x.2.1))
  by_cases h : lft l (w_ByteS x.2.1) < 0
  · rw [if_pos (by simpa using h)]; unfold lft at h ⊢; split at h
    · omega
    · rename_i hn; rw [if_neg hn]
  · rw [if_neg (by simpa using h)]
theorem sz_CacheLineS {xs : List (Int × (List Int × (Bool × (Int × Int))))} (hf : fit_CacheLineS xs) {l : Int} (h0 : 0 ≤ l) (h1 : l ≤ 1048576) : l_szCacheLineS xs l = some (lft l (w_CacheLineS xs)) := by
  obtain ⟨hl, hx⟩ := hf
  unfold maxLen at hl
  unfold l_szCacheLineS
  rw [w64 (by omega) (by omega)]
  by_cases h : l - ((xs.length : Nat) : Int) < 0
  · rw [if_pos (by simpa using h)]; unfold lft w_CacheLineS; rw [if_neg (by omega)]
  · rw [if_neg (by simpa using h), sz_loop l_szCacheLineS_L1 w_CacheLine xs (by
      intro i hi l h0 h1
      have hc : ((i : Nat) : Int) < ((xs.length : Nat) : Int) := by omega
      have hx := hx _ (List.getElem_mem hi)
      unfold l_szCacheLineS_L1
      simp only [hc, decide_true, if_true, show (0 : Int) ≤ ((i : Nat) : Int) from by omega, Int.toNat_natCast, List.getElem?_eq_getElem hi, Option.bind_some, sz_CacheLine (hx) h0 h1, ixS (show xs.length ≤ 4611686018427387904 by omega) hi]
      unfold lft
      by_cases hw : ((w_CacheLine xs[i] : Nat) : Int) ≤ l
      · have : ¬ l - ((w_CacheLine xs[i] : Nat) : Int) < 0 := by omega
        simp [hw, this]
      · simp [hw]) (by intro l; simp [l_szCacheLineS_L1]) (by omega) (by omega), Option.bind_some]
    unfold lft w_CacheLineS
    by_cases hx : ((wsum w_CacheLine xs : Nat) : Int) ≤ l - ((xs.length : Nat) : Int)
    · rw [if_pos hx, if_pos (by omega)]
      show some _ = some _
      congr 1; omega
    · rw [if_neg hx, if_neg (by omega)]
theorem to_CacheLine {x : Int × (List Int × (Bool × (Int × Int)))} (h : w_CacheLine x ≤ 1048576) : l_toCacheLine x.1 x.2.1 x.2.2.1 x.2.2.2.1 x.2.2.2.2 = some x := by
  unfold l_toCacheLine; rw [to_ByteS h]; rfl
theorem to_CacheLineS {xs : List (Int × (List Int × (Bool × (Int × Int))))} (h : w_CacheLineS xs ≤ 1048576) : l_toCacheLineS xs = some xs := by
  have hl := w_CacheLineS_len xs
  have hr : roomFor xs.length 56 = true := by simp only [roomFor, decide_eq_true_eq]; omega
  unfold l_toCacheLineS
  simp only [Int.toNat_natCast, hr, if_true, Int.le_refl, decide_true, show (0 : Int) ≤ ((xs.length : Nat) : Int) from by omega]
  rw [to_loop l_toCacheLineS_L1 xs _ (by
    intro ys i hi hy
    have hc : ((i : Nat) : Int) < ((xs.length : Nat) : Int) := by omega
    have hy' : i < ys.length := by omega
    have g1 : ∀ x, (ys.set i x)[i]? = some x := fun x => List.getElem?_set_self hy'
    have hb : w_CacheLine xs[i] ≤ 1048576 := by have := wsum_mem w_CacheLine (List.getElem_mem hi); unfold w_CacheLineS at h; omega
    unfold l_toCacheLineS_L1
    simp only [hy, hc, decide_true, if_true, show (0 : Int) ≤ ((i : Nat) : Int) from by omega, Int.toNat_natCast, List.getElem?_eq_getElem hi, List.getElem?_eq_getElem hy', Option.bind_some, Nat.zero_add, List.set_set, g1, ixS (show xs.length ≤ 4611686018427387904 by omega) hi, to_CacheLine (hb)]) (by intro ys; simp [l_toCacheLineS_L1])]
  rfl
theorem eq_CacheLine {x : Int × (List Int × (Bool × (Int × Int)))} (h : w_CacheLine x ≤ 1099511627776) : l_eqCacheLine x.1 x.2.1 x.2.2.1 x.2.2.2.1 x.2.2.2.2 x.1 x.2.1 x.2.2.1 x.2.2.2.1 x.2.2.2.2 = some true := by
  unfold l_eqCacheLine; simp [eq_ByteS (show w_ByteS _ ≤ _ from h)]
theorem eq_CacheLineS {xs : List (Int × (List Int × (Bool × (Int × Int))))} (h : w_CacheLineS xs ≤ 1099511627776) : l_eqCacheLineS xs xs = some true := by
  have hl := w_CacheLineS_len xs
  unfold l_eqCacheLineS
  rw [if_neg (by simp), eq_loop l_eqCacheLineS_L1 xs (by
    intro i hi
    have hc : ((i : Nat) : Int) < ((xs.length : Nat) : Int) := by omega
    have hb : w_CacheLine xs[i] ≤ 1099511627776 := by have := wsum_mem w_CacheLine (List.getElem_mem hi); unfold w_CacheLineS at h; omega
    unfold l_eqCacheLineS_L1
    simp only [hc, decide_true, if_true, show (0 : Int) ≤ ((i : Nat) : Int) from by omega, Int.toNat_natCast, List.getElem?_eq_getElem hi, Option.bind_some, ixS (show xs.length ≤ 4611686018427387904 by omega) hi, eq_CacheLine (hb), Bool.not_true, Bool.false_eq_true, if_false, not_true_eq_false, decide_false]) (by simp [l_eqCacheLineS_L1])]
  rfl
end Go.V.G

set_option linter.unusedVariables false
set_option linter.unusedSimpArgs false
set_option maxRecDepth 100000
namespace Go.V.G
open Go.V
theorem n1 : ((1 : Nat) : Int) = 1 := rfl
def c_ByteS : Int → Nat := fun _ => 1
def m_ByteS : Int → Int → Int := fun _ k => IntKind.wrap .u8 k
theorem cb_ByteS : ∀ xs : List Int, wsum c_ByteS xs = xs.length
  | [] => rfl
  | x :: xs => by simp only [wsum, cb_ByteS xs, c_ByteS, List.length_cons]; omega
theorem mark_ByteS {xs : List Int} (hl : xs.length ≤ 1099511627776) {k : Int} (h0 : 0 ≤ k) (h1 : k + wsum c_ByteS xs ≤ 4611686018427387904) : l_markByteS_l xs k = some (mks m_ByteS c_ByteS xs k, k + wsum c_ByteS xs) := by
  unfold l_markByteS_l
  rw [mark_loop l_markByteS_l_L1 m_ByteS c_ByteS xs (by
    intro ys i hi k hlen hmem h0 hk
    have hc : ((i : Nat) : Int) < ((ys.length : Nat) : Int) := by omega
    simp only [c_ByteS] at hk
    have w1 : IntKind.wrap .i64 (k + 1) = k + 1 := w64 (by omega) (by omega)
    unfold l_markByteS_l_L1
    simp only [hc, decide_true, if_true, show (0 : Int) ≤ ((i : Nat) : Int) from by omega, Int.toNat_natCast, List.getElem?_eq_getElem hi, Option.bind_some, Nat.zero_add, ixS (show ys.length ≤ 4611686018427387904 by omega) hi, w1, m_ByteS, c_ByteS, n1]) (by intro ys k; simp [l_markByteS_l_L1]) h0 h1]
  rfl
theorem held_ByteS {xs : List Int} (hl : xs.length ≤ 1099511627776) {k : Int} (h0 : 0 ≤ k) (h1 : k + wsum c_ByteS xs ≤ 4611686018427387904) : l_heldByteS (mks m_ByteS c_ByteS xs k) k = some (k + wsum c_ByteS xs) := by
  unfold l_heldByteS
  rw [held_loop l_heldByteS_L1 m_ByteS c_ByteS xs (by
    intro ys i hi x k hlen hmem hx h0 hk
    have hc : ((i : Nat) : Int) < ((ys.length : Nat) : Int) := by omega
    simp only [c_ByteS] at hk
    have w1 : IntKind.wrap .i64 (k + 1) = k + 1 := w64 (by omega) (by omega)
    unfold l_heldByteS_L1
    simp only [hc, decide_true, if_true, show (0 : Int) ≤ ((i : Nat) : Int) from by omega, Int.toNat_natCast, List.getElem?_eq_getElem hi, Option.bind_some, hx, ixS (show ys.length ≤ 4611686018427387904 by omega) hi, w1, m_ByteS, c_ByteS, n1, not_true_eq_false, decide_false, Bool.false_eq_true, if_false]) (by intro ys k; simp [l_heldByteS_L1]) h0 h1]
  rfl
def c_ByteSS : List Int → Nat := fun x => wsum c_ByteS x
def m_ByteSS : List Int → Int → List Int := fun x k => mks m_ByteS c_ByteS x k
theorem cb_ByteSS : ∀ xs : List (List Int), wsum c_ByteSS xs ≤ w_ByteSS xs
  | [] => Nat.zero_le _
  | x :: xs => by
    have ih := cb_ByteSS xs; have hx := cb_ByteS x
    simp only [w_ByteSS, wsum, List.length_cons, c_ByteSS, w_ByteS] at ih ⊢
    omega
theorem mark_ByteSS {xs : List (List Int)} (h : w_ByteSS xs ≤ 1099511627776) {k : Int} (h0 : 0 ≤ k) (h1 : k + wsum c_ByteSS xs ≤ 4611686018427387904) : l_markByteSS_l xs k = some (mks m_ByteSS c_ByteSS xs k, k + wsum c_ByteSS xs) := by
  have hl := w_ByteSS_len xs
  unfold l_markByteSS_l
  rw [mark_loop l_markByteSS_l_L1 m_ByteSS c_ByteSS xs (by
    intro ys i hi k hlen hmem h0 hk
    have hc : ((i : Nat) : Int) < ((ys.length : Nat) : Int) := by omega
    have hb : ys[i].length ≤ 1099511627776 := by have := wsum_mem w_ByteS hmem; have e : w_ByteS ys[i] = ys[i].length := rfl; unfold w_ByteSS at h; omega
    have hm := mark_ByteS hb h0 hk
    unfold l_markByteSS_l_L1
    simp only [hc, decide_true, if_true, show (0 : Int) ≤ ((i : Nat) : Int) from by omega, Int.toNat_natCast, List.getElem?_eq_getElem hi, Option.bind_some, Nat.zero_add, ixS (show ys.length ≤ 4611686018427387904 by omega) hi, hm, m_ByteSS, c_ByteSS]) (by intro ys k; simp [l_markByteSS_l_L1]) h0 h1]
  rfl
def c_CacheLineS : Int × (List Int × (Bool × (Int × Int))) → Nat := fun x => 4 + wsum c_ByteS x.2.1
def m_CacheLineS : Int × (List Int × (Bool × (Int × Int))) → Int → Int × (List Int × (Bool × (Int × Int))) := fun x k =>
  (k, mks m_ByteS c_ByteS x.2.1 (k + 1), decide (Int.tmod (k + 1 + ((wsum c_ByteS x.2.1 : Nat) : Int)) 3 = 0), k + 1 + ((wsum c_ByteS x.2.1 : Nat) : Int) + 1, k + 1 + ((wsum c_ByteS x.2.1 : Nat) : Int) + 1 + 1)
theorem cb_CacheLineS : ∀ xs : List (Int × (List Int × (Bool × (Int × Int)))), wsum c_CacheLineS xs ≤ 8 * w_CacheLineS xs
  | [] => Nat.zero_le _
  | x :: xs => by
    have ih := cb_CacheLineS xs; have hx := cb_ByteS x.2.1
    simp only [w_CacheLineS, wsum, List.length_cons, c_CacheLineS, w_CacheLine, w_ByteS] at ih ⊢
    omega
theorem mark_CacheLineS {xs : List (Int × (List Int × (Bool × (Int × Int))))} (h : w_CacheLineS xs ≤ 1099511627776) {k : Int} (h0 : 0 ≤ k) (h1 : k + wsum c_CacheLineS xs ≤ 4611686018427387904) : l_markCacheLineS_l xs k = some (mks m_CacheLineS c_CacheLineS xs k, k + wsum c_CacheLineS xs) := by
  have hl := w_CacheLineS_len xs
  unfold l_markCacheLineS_l
  rw [mark_loop l_markCacheLineS_l_L1 m_CacheLineS c_CacheLineS xs (by
    intro ys i hi k hlen hmem h0 hk
    have hc : ((i : Nat) : Int) < ((ys.length : Nat) : Int) := by omega
    have g1 : ∀ x, (ys.set i x)[i]? = some x := fun x => List.getElem?_set_self hi
    have hb : (ys[i]).2.1.length ≤ 1099511627776 := by have := wsum_mem w_CacheLine hmem; have e : w_CacheLine ys[i] = (ys[i]).2.1.length := rfl; unfold w_CacheLineS at h; omega
    simp only [c_CacheLineS] at hk
    have hm := mark_ByteS (k := k + 1) hb (by omega) (by omega)
    have w1 : IntKind.wrap .i64 (k + 1) = k + 1 := w64 (by omega) (by omega)
    have w2 : IntKind.wrap .i64 (k + 1 + ((wsum c_ByteS (ys[i]).2.1 : Nat) : Int) + 1) = k + 1 + ((wsum c_ByteS (ys[i]).2.1 : Nat) : Int) + 1 := w64 (by omega) (by omega)
    have w3 : IntKind.wrap .i64 (k + 1 + ((wsum c_ByteS (ys[i]).2.1 : Nat) : Int) + 1 + 1) = k + 1 + ((wsum c_ByteS (ys[i]).2.1 : Nat) : Int) + 1 + 1 := w64 (by omega) (by omega)
    have w4 : IntKind.wrap .i64 (k + 1 + ((wsum c_ByteS (ys[i]).2.1 : Nat) : Int) + 1 + 1 + 1) = k + ((4 + wsum c_ByteS (ys[i]).2.1 : Nat) : Int) := by rw [w64 (by omega) (by omega)]; omega
    unfold l_markCacheLineS_l_L1
    simp only [List.length_set, hc, decide_true, if_true, show (0 : Int) ≤ ((i : Nat) : Int) from by omega, Int.toNat_natCast, List.getElem?_eq_getElem hi, Option.bind_some, Nat.zero_add, List.set_set, g1, ixS (show ys.length ≤ 4611686018427387904 by omega) hi, w1, hm, show decide (¬ (3 : Int) = 0) = true from rfl, w2, w3, w4, m_CacheLineS, c_CacheLineS]) (by intro ys k; simp [l_markCacheLineS_l_L1]) h0 h1]
  rfl
theorem held_CacheLineS {xs : List (Int × (List Int × (Bool × (Int × Int))))} (h : w_CacheLineS xs ≤ 1099511627776) {k : Int} (h0 : 0 ≤ k) (h1 : k + wsum c_CacheLineS xs ≤ 4611686018427387904) : l_heldCacheLineS (mks m_CacheLineS c_CacheLineS xs k) k = some (k + wsum c_CacheLineS xs) := by
  have hl := w_CacheLineS_len xs
  unfold l_heldCacheLineS
  rw [held_loop l_heldCacheLineS_L1 m_CacheLineS c_CacheLineS xs (by
    intro ys i hi x k hlen hmem hx h0 hk
    have hc : ((i : Nat) : Int) < ((ys.length : Nat) : Int) := by omega
    have hb : x.2.1.length ≤ 1099511627776 := by have := wsum_mem w_CacheLine hmem; have e : w_CacheLine x = x.2.1.length := rfl; unfold w_CacheLineS at h; omega
    simp only [c_CacheLineS] at hk
    have hm := held_ByteS (xs := x.2.1) (k := k + 1) hb (by omega) (by omega)
    have w1 : IntKind.wrap .i64 (k + 1) = k + 1 := w64 (by omega) (by omega)
    have w2 : IntKind.wrap .i64 (k + 1 + ((wsum c_ByteS x.2.1 : Nat) : Int) + 1) = k + 1 + ((wsum c_ByteS x.2.1 : Nat) : Int) + 1 := w64 (by omega) (by omega)
    have w3 : IntKind.wrap .i64 (k + 1 + ((wsum c_ByteS x.2.1 : Nat) : Int) + 1 + 1) = k + 1 + ((wsum c_ByteS x.2.1 : Nat) : Int) + 1 + 1 := w64 (by omega) (by omega)
    have w4 : IntKind.wrap .i64 (k + 1 + ((wsum c_ByteS x.2.1 : Nat) : Int) + 1 + 1 + 1) = k + ((4 + wsum c_ByteS x.2.1 : Nat) : Int) := by rw [w64 (by omega) (by omega)]; omega
    have w5 : ¬ (k + 1 + ((wsum c_ByteS x.2.1 : Nat) : Int) < 0) := by omega
    unfold l_heldCacheLineS_L1
    simp only [hc, decide_true, if_true, show (0 : Int) ≤ ((i : Nat) : Int) from by omega, Int.toNat_natCast, List.getElem?_eq_getElem hi, Option.bind_some, hx, m_CacheLineS, ixS (show ys.length ≤ 4611686018427387904 by omega) hi, w1, hm, w5, show decide (¬ (3 : Int) = 0) = true from rfl, w2, w3, w4, c_CacheLineS, not_true_eq_false, decide_false, Bool.false_eq_true, if_false, bne_self_eq_false]) (by intro ys k; simp [l_heldCacheLineS_L1]) h0 h1]
  rfl
theorem lft_out (l : Int) (n : Nat) : (if decide (lft l n < 0) = true then (some (-1) : Option Int) else some (lft l n)) = some (lft l n) := by
  by_cases h : lft l n < 0
  · rw [if_pos (by simpa using h)]
    unfold lft at h ⊢
    split at h
    · omega
    · rename_i hn; rw [if_neg hn]
  · rw [if_neg (by simpa using h)]
theorem sz_Cache {a b : Int} {xs : List (Int × (List Int × (Bool × (Int × Int))))} (hf : fit_CacheLineS xs) {l : Int} (h0 : 0 ≤ l) (h1 : l ≤ 1048576) : l_szCache a b xs l = some (lft l (w_CacheLineS xs)) := by
  unfold l_szCache; rw [sz_CacheLineS hf h0 h1, Option.bind_some, lft_out]
theorem sz_Disk {b : List (List Int)} {x : Int} {y : Bool} {z : Int} (hf : fit_ByteSS b) {l : Int} (h0 : 0 ≤ l) (h1 : l ≤ 1048576) : l_szDisk b x y z l = some (lft l (w_ByteSS b)) := by
  unfold l_szDisk; rw [sz_ByteSS hf h0 h1, Option.bind_some, lft_out]
theorem to_Cache {a b : Int} {xs : List (Int × (List Int × (Bool × (Int × Int))))} (h : w_CacheLineS xs ≤ 1048576) : l_toCache a b xs = some (a, b, xs) := by
  unfold l_toCache; rw [to_CacheLineS h]; rfl
theorem to_Disk {b : List (List Int)} {x : Int} {y : Bool} {z : Int} (h : w_ByteSS b ≤ 1048576) : l_toDisk b x y z = some (b, x, y, z) := by
  unfold l_toDisk; rw [to_ByteSS h]; rfl
theorem eq_Cache {a b : Int} {xs : List (Int × (List Int × (Bool × (Int × Int))))} (h : w_CacheLineS xs ≤ 1099511627776) : l_eqCache a b xs a b xs = some true := by
  unfold l_eqCache; simp [eq_CacheLineS h]
theorem eq_Disk {b : List (List Int)} {x : Int} {y : Bool} {z : Int} (h : w_ByteSS b ≤ 1099511627776) : l_eqDisk b x y z b x y z = some true := by
  unfold l_eqDisk; simp [eq_ByteSS h]
theorem mark_Cache {a b : Int} {xs : List (Int × (List Int × (Bool × (Int × Int))))} (h : w_CacheLineS xs ≤ 1099511627776) {k : Int} (h0 : 0 ≤ k) (h1 : k ≤ 1099511627776) :
    l_markCache_l a b xs k = some (a, b, mks m_CacheLineS c_CacheLineS xs k, k + wsum c_CacheLineS xs) := by
  have := cb_CacheLineS xs
  unfold l_markCache_l; rw [mark_CacheLineS h h0 (by omega)]; rfl
theorem mark_Disk {b : List (List Int)} {x : Int} {y : Bool} {z : Int} (h : w_ByteSS b ≤ 1099511627776) {k : Int} (h0 : 0 ≤ k) (h1 : k ≤ 1000000000000000) :
    l_markDisk_l b x y z k = some (mks m_ByteSS c_ByteSS b k, x, y, z, k + wsum c_ByteSS b) := by
  have := cb_ByteSS b
  unfold l_markDisk_l; rw [mark_ByteSS h h0 (by omega)]; rfl
theorem held_Cache {a b : Int} {xs : List (Int × (List Int × (Bool × (Int × Int))))} (h : w_CacheLineS xs ≤ 1099511627776) {k : Int} (h0 : 0 ≤ k) (h1 : k ≤ 1099511627776) :
    l_heldCache a b (mks m_CacheLineS c_CacheLineS xs k) k = some (k + wsum c_CacheLineS xs) := by
  have := cb_CacheLineS xs
  unfold l_heldCache; rw [held_CacheLineS h h0 (by omega), Option.bind_some, if_neg (by simp; omega)]
end Go.V.G

set_option linter.unusedVariables false
set_option linter.unusedSimpArgs false
set_option maxRecDepth 100000
namespace Go.V.G
open Go.V
abbrev Cl := Int × (List Int × (Bool × (Int × Int)))
theorem fst_loop {σ τ ρ : Type} (f : σ → Option (σ ⊕ (τ ⊕ ρ))) (st : Nat → σ) (p : Nat → Bool) (e : Nat → ρ) (z : τ) (n : Nat)
    (step : ∀ i, i < n → f (st i) = some (if p i = true then .inl (st (i + 1)) else .inr (.inr (e i)))) (last : f (st n) = some (.inr (.inl z))) :
    ((∀ j, j < n → p j = true) ∧ loopG f (st 0) = some (.inl z)) ∨ ∃ k, k < n ∧ p k = false ∧ (∀ j, j < k → p j = true) ∧ loopG f (st 0) = some (.inr (e k)) := by
  by_cases h : ∃ k, k < n ∧ p k = false
  · have hf : ∃ k, (k < n ∧ p k = false) ∧ ∀ j, j < k → p j = true := by
      obtain ⟨k, hk⟩ := h
      induction k using Nat.strongRecOn with
      | _ k ih =>
        by_cases hx : ∃ j, j < k ∧ p j = false
        · obtain ⟨j, hj, hp⟩ := hx
          exact ih j hj ⟨by omega, hp⟩
        · refine ⟨k, hk, fun j hj => ?_⟩
          cases hpj : p j with
          | true => rfl
          | false => exact absurd ⟨j, hj, hpj⟩ hx
    obtain ⟨k, ⟨hk, hp⟩, hall⟩ := hf
    refine .inr ⟨k, hk, hp, hall, loop_run f st k _ (fun j hj => ?_) ?_⟩
    · rw [step j (by omega), if_pos (hall j hj)]
    · rw [step k hk, hp, if_neg (by simp)]
  · have hall : ∀ j, j < n → p j = true := fun j hj => by
      cases hpj : p j with
      | true => rfl
      | false => exact absurd ⟨j, hj, hpj⟩ h
    exact .inl ⟨hall, loop_run f st n _ (fun j hj => by rw [step j hj, if_pos (hall j hj)]) last⟩
def usedB (ls : List Cl) (u : Int) : Bool := ls.any fun q => q.2.2.2.2 == u
def gl (x1 : Int) (ls : List Cl) (bl : Bls) (i : Nat) (r : Cl) : Bool :=
  decide (0 ≤ r.1 ∧ r.1 < bl.length) && (decide (0 < i → (ls[i - 1]?.getD r).1 < r.1) && (decide (r.2.1.length = 128) && (decide (0 ≤ r.2.2.2.1 ∧ r.2.2.2.1 ≤ 100) && (decide (1 ≤ r.2.2.2.2 ∧ r.2.2.2.2 ≤ x1) &&
    ((r.2.2.1 || r.2.1 == bl[r.1.toNat]?.getD []) && !(usedB (ls.take i) r.2.2.2.2))))))
structure CD (ls : List Cl) (bl : Bls) : Prop where
  n : ls.length ≤ 1048576
  m : bl.length ≤ 1048576
  b : ∀ x ∈ ls, x.2.1.length ≤ 1048576 ∧ ∀ y ∈ x.2.1, 0 ≤ y ∧ y ≤ 255
  k : ∀ x ∈ bl, x.length ≤ 1048576 ∧ ∀ y ∈ x, 0 ≤ y ∧ y ≤ 255
def gc (x0 x1 : Int) (ls : List Cl) (bl : Bls) (wr lf : Int) : Bool :=
  gd bl wr lf && (decide (1 ≤ x0 ∧ x0 ≤ 8) && (decide (0 ≤ x1 ∧ x1 ≤ 1000000) && (decide (((ls.length : Nat) : Int) ≤ x0) && (List.range ls.length).all fun i => gl x1 ls bl i (ls[i]?.getD (0, [], false, 0, 0)))))
theorem textOf_inj : ∀ {a b : List Int}, (∀ y ∈ a, 0 ≤ y ∧ y ≤ 255) → (∀ y ∈ b, 0 ≤ y ∧ y ≤ 255) → textOf a = textOf b → a = b
  | [], [], _, _, _ => rfl
  | [], _ :: _, _, _, h => by simp [textOf] at h
  | _ :: _, [], _, _, h => by simp [textOf] at h
  | x :: a, y :: b, ha, hb, h => by
    simp only [textOf, List.map_cons, List.cons.injEq] at h
    have h1 := ha x (by simp)
    have h2 := hb y (by simp)
    have h3 : x = y := by
      have := congrArg UInt8.toNat h.1
      simp only [UInt8.toNat_ofNat'] at this
      omega
    rw [h3, textOf_inj (fun z hz => ha z (by simp [hz])) (fun z hz => hb z (by simp [hz])) h.2]
theorem text_beq {a b : List Int} (ha : ∀ y ∈ a, 0 ≤ y ∧ y ≤ 255) (hb : ∀ y ∈ b, 0 ≤ y ∧ y ≤ 255) : (textOf a == textOf b) = (a == b) := by
  by_cases h : a = b
  · subst h; simp
  · have : ¬ textOf a = textOf b := fun hh => h (textOf_inj ha hb hh)
    rw [beq_eq_false_iff_ne.2 this, beq_eq_false_iff_ne.2 h]
theorem ix64 {i : Nat} (h : i ≤ 1048576) : IntKind.wrap .i64 (((i : Nat) : Int) + 1) = ((i + 1 : Nat) : Int) := by rw [w64 (by omega) (by omega)]; omega
theorem equalB_eq {a b : List Int} (hn : a.length ≤ 1048576) : slices_Equal_byte_byte a b = some (a == b) := by
  unfold slices_Equal_byte_byte
  by_cases hl : a.length = b.length
  · rw [if_neg (by simp [hl])]
    rcases fst_loop slices_Equal_byte_byte_L1 (fun k => (a, b, ((a.length : Nat) : Int), ((k : Nat) : Int))) (fun k => a[k]? == b[k]?) (fun _ => false) () a.length (fun i hi => by
        unfold slices_Equal_byte_byte_L1
        dsimp only
        have hib : i < b.length := by omega
        rw [if_pos (by simp; omega), if_pos (by simp), Int.toNat_natCast, List.getElem?_eq_getElem hi, Option.bind_some, if_pos (by simp), List.getElem?_eq_getElem hib, Option.bind_some, ix64 (by omega)]
        by_cases he : a[i] = b[i]
        · rw [if_neg (by simp [he]), if_pos (by simp [he])]
        · rw [if_pos (by simp [he]), if_neg (by simp [he])]) (by
        unfold slices_Equal_byte_byte_L1
        dsimp only
        rw [if_neg (by simp)]) with ⟨h1, h2⟩ | ⟨k, hk, h1, _, h2⟩
    · rw [show (((0 : Nat) : Int)) = 0 from rfl] at h2
      rw [h2, Option.bind_some]
      have : a = b := by
        refine List.ext_getElem? fun i => ?_
        by_cases hi : i < a.length
        · simpa using h1 i hi
        · rw [List.getElem?_eq_none (by omega), List.getElem?_eq_none (by omega)]
      simp [this]
    · rw [show (((0 : Nat) : Int)) = 0 from rfl] at h2
      rw [h2, Option.bind_some]
      have : ¬ a = b := fun h => by subst h; simp at h1
      rw [beq_eq_false_iff_ne.2 this]
  · rw [if_pos (by simp; omega)]
    have : ¬ a = b := fun h => hl (by rw [h])
    rw [beq_eq_false_iff_ne.2 this]
theorem i_usedB_eq {ls : List Cl} (hn : ls.length ≤ 1048576) (x1 : Int) (x2 : List Int) (x3 : Bool) (x4 x5 : Int) :
    slices_ContainsFunc_loop_example_g00083_impl_CacheLine_loop_example_g00083_impl_CacheLine_i_GoodCache_1_f ls x1 x2 x3 x4 x5 = some (usedB ls x5, x1, x2, x3, x4, x5) := by
  unfold slices_ContainsFunc_loop_example_g00083_impl_CacheLine_loop_example_g00083_impl_CacheLine_i_GoodCache_1_f slices_IndexFunc_loop_example_g00083_impl_CacheLine_loop_example_g00083_impl_CacheLine_i_GoodCache_1_f
  rcases fst_loop slices_IndexFunc_loop_example_g00083_impl_CacheLine_loop_example_g00083_impl_CacheLine_i_GoodCache_1_f_L1 (fun k => (ls, ((ls.length : Nat) : Int), ((k : Nat) : Int), x1, x2, x3, x4, x5))
      (fun k => !((ls[k]?.getD (0, [], false, 0, 0)).2.2.2.2 == x5)) (fun k => (((k : Nat) : Int), x1, x2, x3, x4, x5)) (x1, x2, x3, x4, x5) ls.length (fun i hi => by
        unfold slices_IndexFunc_loop_example_g00083_impl_CacheLine_loop_example_g00083_impl_CacheLine_i_GoodCache_1_f_L1 i_GoodCache_1_f
        dsimp only
        rw [if_pos (by simp; omega), if_pos (by simp), Int.toNat_natCast, List.getElem?_eq_getElem hi, Option.bind_some, Option.bind_some, ix64 (by omega)]
        by_cases he : ls[i].2.2.2.2 = x5
        · rw [if_pos (by simp [he]), if_neg (by simp [he])]
        · rw [if_neg (by simp [he]), if_pos (by simp [he])]) (by
        unfold slices_IndexFunc_loop_example_g00083_impl_CacheLine_loop_example_g00083_impl_CacheLine_i_GoodCache_1_f_L1
        dsimp only
        rw [if_neg (by simp)]) with ⟨h1, h2⟩ | ⟨k, hk, h1, _, h2⟩
  · rw [show (((0 : Nat) : Int)) = 0 from rfl] at h2
    rw [h2]
    have : usedB ls x5 = false := by
      unfold usedB
      rw [List.any_eq_false]
      intro q hq
      obtain ⟨j, hj, rfl⟩ := List.getElem_of_mem hq
      have := h1 j hj
      rw [List.getElem?_eq_getElem hj] at this
      simpa using this
    rw [this]
    rfl
  · rw [show (((0 : Nat) : Int)) = 0 from rfl] at h2
    rw [h2]
    have : usedB ls x5 = true := by
      unfold usedB
      rw [List.any_eq_true]
      refine ⟨ls[k], List.getElem_mem hk, ?_⟩
      rw [List.getElem?_eq_getElem hk] at h1
      simpa using h1
    rw [this]
    simp
theorem bool_and_if (c : Prop) [Decidable c] (b : Bool) : (decide c && b) = if c then b else false := by by_cases h : c <;> simp [h]
theorem head_eq {ls : List Cl} {bl : Bls} (x0 x1 wr lf : Int) : gc x0 x1 ls bl wr lf = ((gd bl wr lf && (decide (1 ≤ x0 ∧ x0 ≤ 8) && (decide (0 ≤ x1 ∧ x1 ≤ 1000000) && decide (((ls.length : Nat) : Int) ≤ x0)))) && (List.range ls.length).all fun i => gl x1 ls bl i (ls[i]?.getD (0, [], false, 0, 0))) := by
  unfold gc; simp only [Bool.and_assoc]
theorem gl_eq (x1 : Int) (ls : List Cl) (bl : Bls) (i : Nat) (r : Cl) : gl x1 ls bl i r =
    if ¬ (0 ≤ r.1 ∧ r.1 < bl.length) then false else if 0 < i ∧ r.1 ≤ (ls[i - 1]?.getD r).1 then false else if ¬ r.2.1.length = 128 then false else if ¬ (0 ≤ r.2.2.2.1 ∧ r.2.2.2.1 ≤ 100) then false else
    if ¬ (1 ≤ r.2.2.2.2 ∧ r.2.2.2.2 ≤ x1) then false else if r.2.2.1 = false ∧ ¬ r.2.1 = bl[r.1.toNat]?.getD [] then false else !(usedB (ls.take i) r.2.2.2.2) := by
  unfold gl
  simp only [bool_and_if]
  by_cases h1 : 0 ≤ r.1 ∧ r.1 < bl.length
  · rw [if_pos h1, if_neg (not_not_intro h1)]
    by_cases h2 : 0 < i ∧ r.1 ≤ (ls[i - 1]?.getD r).1
    · rw [if_neg (show ¬ (0 < i → (ls[i - 1]?.getD r).1 < r.1) from fun h => by have := h h2.1; omega), if_pos h2]
    · rw [if_pos (show 0 < i → (ls[i - 1]?.getD r).1 < r.1 from fun h => by omega), if_neg h2]
      by_cases h3 : r.2.1.length = 128
      · rw [if_pos h3, if_neg (not_not_intro h3)]
        by_cases h4 : 0 ≤ r.2.2.2.1 ∧ r.2.2.2.1 ≤ 100
        · rw [if_pos h4, if_neg (not_not_intro h4)]
          by_cases h5 : 1 ≤ r.2.2.2.2 ∧ r.2.2.2.2 ≤ x1
          · rw [if_pos h5, if_neg (not_not_intro h5)]
            by_cases h6 : r.2.2.1 = false ∧ ¬ r.2.1 = bl[r.1.toNat]?.getD []
            · rw [if_pos h6, h6.1, beq_eq_false_iff_ne.2 h6.2]; rfl
            · rw [if_neg h6]
              have : (r.2.2.1 || r.2.1 == bl[r.1.toNat]?.getD []) = true := by
                cases hb : r.2.2.1 with
                | true => rfl
                | false =>
                  have : r.2.1 = bl[r.1.toNat]?.getD [] := by
                    refine Classical.byContradiction fun hh => h6 ⟨hb, hh⟩
                  simp [← this]
              rw [this, Bool.true_and]
          · rw [if_neg h5, if_pos h5]
        · rw [if_neg h4, if_pos h4]
      · rw [if_neg h3, if_pos h3]
  · rw [if_neg h1, if_pos h1]
theorem i_GoodCache_eq {ls : List Cl} {bl : Bls} (h : CD ls bl) (x0 x1 wr : Int) (on : Bool) (lf : Int) : i_GoodCache x0 x1 ls bl wr on lf = some (gc x0 x1 ls bl wr lf) := by
  have hn := h.n
  have hm := h.m
  rw [head_eq]
  unfold i_GoodCache
  refine Ok.eq (Ok.bind (Q := fun r => r = (!(gd bl wr lf && (decide (1 ≤ x0 ∧ x0 ≤ 8) && (decide (0 ≤ x1 ∧ x1 ≤ 1000000) && decide (((ls.length : Nat) : Int) ≤ x0)))), x0, x1, ls, bl, wr, on, lf)) ?_ ?_)
  · refine Ok.bind_eq (i_good_n hm wr on lf) (Ok.ite (fun hc => Ok.mk ?_) fun hc => ?_)
    · have : gd bl wr lf = false := by simpa using hc
      rw [this]; rfl
    have h1 : gd bl wr lf = true := by simpa using hc
    rw [h1, Bool.true_and]
    refine Ok.bind_eq (i_within_eq _ _ _) (Ok.ite (fun hc => Ok.mk ?_) fun hc => ?_)
    · have : decide (1 ≤ x0 ∧ x0 ≤ 8) = false := by simpa only [Bool.not_eq_true'] using hc
      rw [this]; rfl
    have h2 : decide (1 ≤ x0 ∧ x0 ≤ 8) = true := by simpa only [Bool.not_eq_true', Bool.not_eq_false] using hc
    rw [h2, Bool.true_and]
    refine Ok.bind_eq (i_within_eq _ _ _) (Ok.ite (fun hc => Ok.mk ?_) fun hc => Ok.mk ?_)
    · have : decide (0 ≤ x1 ∧ x1 ≤ 1000000) = false := by simpa only [Bool.not_eq_true'] using hc
      rw [this]; rfl
    have h3 : decide (0 ≤ x1 ∧ x1 ≤ 1000000) = true := by simpa only [Bool.not_eq_true', Bool.not_eq_false] using hc
    rw [h3, Bool.true_and]
    refine congrArg (fun b => (b, x0, x1, ls, bl, wr, on, lf)) ?_
    by_cases hq : ((ls.length : Nat) : Int) ≤ x0
    · rw [decide_eq_true hq, decide_eq_false (by omega)]; rfl
    · rw [decide_eq_false hq, decide_eq_true (by omega)]; rfl
  · rintro _ rfl
    dsimp only
    cases hb : (gd bl wr lf && (decide (1 ≤ x0 ∧ x0 ≤ 8) && (decide (0 ≤ x1 ∧ x1 ≤ 1000000) && decide (((ls.length : Nat) : Int) ≤ x0)))) with
    | false => exact Ok.yes rfl (Ok.mk rfl)
    | true =>
      refine Ok.no (by simp) ?_
      rw [Bool.true_and]
      rcases fst_loop i_GoodCache_L1 (fun k => (ls, ((ls.length : Nat) : Int), ((k : Nat) : Int), x0, x1, ls, bl, wr, on, lf)) (fun i => gl x1 ls bl i (ls[i]?.getD (0, [], false, 0, 0))) (fun _ => false) () ls.length (fun i hi => by
          unfold i_GoodCache_L1
          dsimp only
          rw [if_pos (by simp; omega), if_pos (by simp), Int.toNat_natCast, List.getElem?_eq_getElem hi, Option.bind_some, Option.getD_some]
          generalize hr : ls[i] = r
          have hrm : r ∈ ls := hr ▸ List.getElem_mem hi
          have hrb := h.b r hrm
          have hu : usedB ((List.drop (Int.toNat 0) ls).take (Int.toNat ((i : Nat) : Int) - Int.toNat 0)) r.2.2.2.2 = usedB (ls.take i) r.2.2.2.2 := by simp
          have hul : ((List.drop (Int.toNat 0) ls).take (Int.toNat ((i : Nat) : Int) - Int.toNat 0)).length ≤ 1048576 := by simp; omega
          refine Ok.eq (Ok.bind (Q := fun z => z = (ls, ((ls.length : Nat) : Int), ((i : Nat) : Int), !(gl x1 ls bl i r), x0, x1, ls, bl, wr, on, lf)) ?_ ?_)
          · rw [gl_eq]
            refine Ok.bind_eq (has_n hm wr on lf r.1) (Ok.ite (fun hc => ?_) fun hc => ?_)
            · have h1 : ¬ (0 ≤ r.1 ∧ r.1 < bl.length) := by simpa only [Bool.not_eq_true', decide_eq_false_iff_not] using hc
              rw [if_pos h1]; exact Ok.mk rfl
            have h1 : 0 ≤ r.1 ∧ r.1 < bl.length := by simpa using hc
            rw [if_neg (not_not_intro h1)]
            have ib : r.1.toNat < bl.length := by omega
            have eb : bl[r.1.toNat]? = some bl[r.1.toNat] := List.getElem?_eq_getElem ib
            by_cases hi0 : 0 < i
            · have hp : ls[i - 1]? = some ls[i - 1] := List.getElem?_eq_getElem (by omega)
              rw [hp, Option.getD_some]
              have e1 : IntKind.wrap .i64 (((i : Nat) : Int) - 1) = ((i - 1 : Nat) : Int) := by rw [w64 (by omega) (by omega)]; omega
              refine Ok.yes (by simp; omega) (Ok.yes (by rw [e1]; simp) ?_)
              rw [e1, Int.toNat_natCast]
              refine Ok.bind_eq hp (Ok.ite (fun hc => ?_) fun hc => ?_)
              · have h2 : r.1 ≤ ls[i - 1].1 := by simpa using hc
                rw [if_pos ⟨hi0, h2⟩]; exact Ok.mk rfl
              have h2 : ¬ r.1 ≤ ls[i - 1].1 := by simpa using hc
              rw [if_neg (show ¬ (0 < i ∧ r.1 ≤ ls[i - 1].1) from fun hh => h2 hh.2)]
              refine Ok.ite (fun hc => ?_) fun hc => ?_
              · have h3 : ¬ r.2.1.length = 128 := by simp at hc; omega
                rw [if_pos h3]; exact Ok.mk rfl
              have h3 : r.2.1.length = 128 := by simp at hc; omega
              rw [if_neg (not_not_intro h3)]
              refine Ok.bind_eq (i_within_eq _ _ _) (Ok.ite (fun hc => ?_) fun hc => ?_)
              · have h4 : ¬ (0 ≤ r.2.2.2.1 ∧ r.2.2.2.1 ≤ 100) := by simpa only [Bool.not_eq_true', decide_eq_false_iff_not] using hc
                rw [if_pos h4]; exact Ok.mk rfl
              have h4 : 0 ≤ r.2.2.2.1 ∧ r.2.2.2.1 ≤ 100 := by simpa using hc
              rw [if_neg (not_not_intro h4)]
              refine Ok.bind_eq (i_within_eq _ _ _) (Ok.ite (fun hc => ?_) fun hc => ?_)
              · have h5 : ¬ (1 ≤ r.2.2.2.2 ∧ r.2.2.2.2 ≤ x1) := by simpa only [Bool.not_eq_true', decide_eq_false_iff_not] using hc
                rw [if_pos h5]; exact Ok.mk rfl
              have h5 : 1 ≤ r.2.2.2.2 ∧ r.2.2.2.2 ≤ x1 := by simpa using hc
              rw [if_neg (not_not_intro h5)]
              refine Ok.ite (fun hc => ?_) fun hc => ?_
              · have h6 : r.2.2.1 = false := by simpa using hc
                refine Ok.yes (by simp; omega) (Ok.bind_eq eb (Ok.bind_eq (equalB_eq hrb.1) (Ok.ite (fun hc => ?_) fun hc => ?_)))
                · have h7 : ¬ r.2.1 = bl[r.1.toNat] := by simpa using hc
                  rw [eb, Option.getD_some, if_pos ⟨h6, h7⟩]; exact Ok.mk rfl
                · have h7 : r.2.1 = bl[r.1.toNat] := by simpa using hc
                  rw [eb, Option.getD_some, if_neg (show ¬ (r.2.2.1 = false ∧ ¬ r.2.1 = bl[r.1.toNat]) from fun hh => hh.2 h7)]
                  refine Ok.yes (by simp) (Ok.yes (by simp) (Ok.yes (by simp; omega) (Ok.yes (by simp) (Ok.bind_eq (i_usedB_eq hul _ _ _ _ _) ?_))))
                  rw [hu, Bool.not_not]
                  exact Ok.mk rfl
              · have h6 : r.2.2.1 = true := by simpa using hc
                rw [if_neg (show ¬ (r.2.2.1 = false ∧ ¬ r.2.1 = bl[r.1.toNat]?.getD []) from fun hh => by rw [h6] at hh; cases hh.1)]
                refine Ok.yes (by simp) (Ok.yes (by simp) (Ok.yes (by simp; omega) (Ok.yes (by simp) (Ok.bind_eq (i_usedB_eq hul _ _ _ _ _) ?_))))
                rw [hu, Bool.not_not]
                exact Ok.mk rfl
            · refine Ok.no (by simp; omega) ?_
              rw [if_neg (show ¬ (0 < i ∧ r.1 ≤ (ls[i - 1]?.getD r).1) from fun hh => hi0 hh.1)]
              refine Ok.ite (fun hc => ?_) fun hc => ?_
              · have h3 : ¬ r.2.1.length = 128 := by simp at hc; omega
                rw [if_pos h3]; exact Ok.mk rfl
              have h3 : r.2.1.length = 128 := by simp at hc; omega
              rw [if_neg (not_not_intro h3)]
              refine Ok.bind_eq (i_within_eq _ _ _) (Ok.ite (fun hc => ?_) fun hc => ?_)
              · have h4 : ¬ (0 ≤ r.2.2.2.1 ∧ r.2.2.2.1 ≤ 100) := by simpa only [Bool.not_eq_true', decide_eq_false_iff_not] using hc
                rw [if_pos h4]; exact Ok.mk rfl
              have h4 : 0 ≤ r.2.2.2.1 ∧ r.2.2.2.1 ≤ 100 := by simpa using hc
              rw [if_neg (not_not_intro h4)]
              refine Ok.bind_eq (i_within_eq _ _ _) (Ok.ite (fun hc => ?_) fun hc => ?_)
              · have h5 : ¬ (1 ≤ r.2.2.2.2 ∧ r.2.2.2.2 ≤ x1) := by simpa only [Bool.not_eq_true', decide_eq_false_iff_not] using hc
                rw [if_pos h5]; exact Ok.mk rfl
              have h5 : 1 ≤ r.2.2.2.2 ∧ r.2.2.2.2 ≤ x1 := by simpa using hc
              rw [if_neg (not_not_intro h5)]
              refine Ok.ite (fun hc => ?_) fun hc => ?_
              · have h6 : r.2.2.1 = false := by simpa using hc
                refine Ok.yes (by simp; omega) (Ok.bind_eq eb (Ok.bind_eq (equalB_eq hrb.1) (Ok.ite (fun hc => ?_) fun hc => ?_)))
                · have h7 : ¬ r.2.1 = bl[r.1.toNat] := by simpa using hc
                  rw [eb, Option.getD_some, if_pos ⟨h6, h7⟩]; exact Ok.mk rfl
                · have h7 : r.2.1 = bl[r.1.toNat] := by simpa using hc
                  rw [eb, Option.getD_some, if_neg (show ¬ (r.2.2.1 = false ∧ ¬ r.2.1 = bl[r.1.toNat]) from fun hh => hh.2 h7)]
                  refine Ok.yes (by simp) (Ok.yes (by simp) (Ok.yes (by simp; omega) (Ok.yes (by simp) (Ok.bind_eq (i_usedB_eq hul _ _ _ _ _) ?_))))
                  rw [hu, Bool.not_not]
                  exact Ok.mk rfl
              · have h6 : r.2.2.1 = true := by simpa using hc
                rw [if_neg (show ¬ (r.2.2.1 = false ∧ ¬ r.2.1 = bl[r.1.toNat]?.getD []) from fun hh => by rw [h6] at hh; cases hh.1)]
                refine Ok.yes (by simp) (Ok.yes (by simp) (Ok.yes (by simp; omega) (Ok.yes (by simp) (Ok.bind_eq (i_usedB_eq hul _ _ _ _ _) ?_))))
                rw [hu, Bool.not_not]
                exact Ok.mk rfl
          · rintro _ rfl
            dsimp only
            cases hg : gl x1 ls bl i r with
            | true => refine Ok.no (by simp) (Ok.mk ?_); rw [ix64 (by omega)]; rfl
            | false => exact Ok.yes rfl (Ok.mk rfl)) (by
          unfold i_GoodCache_L1
          dsimp only
          rw [if_neg (by simp)]) with ⟨h1, h2⟩ | ⟨k, hk, h1, _, h2⟩
      · rw [show (((0 : Nat) : Int)) = 0 from rfl] at h2
        refine Ok.bind_eq h2 (Ok.mk ?_)
        symm
        rw [List.all_eq_true]
        intro i hi
        exact h1 i (List.mem_range.1 hi)
      · rw [show (((0 : Nat) : Int)) = 0 from rfl] at h2
        refine Ok.bind_eq h2 (Ok.mk ?_)
        symm
        rw [List.all_eq_false]
        exact ⟨k, List.mem_range.2 hk, by rw [h1]; simp⟩
theorem s_usedB_eq {ls : List Cl} (hn : ls.length ≤ 1048576) (a1 : List Cl) (a2 a3 b1 b2 : Int) (b3 : List Cl) (b4 : Bls) (b5 : Int) (b6 : Bool) (b7 c1 : Int) (c2 : List Int) (c3 : Bool) (c4 c5 : Int) :
    loopG s_GoodCache_L1 (a1, a2, a3, ls, ((ls.length : Nat) : Int), 0, b1, b2, b3, b4, b5, b6, b7, c1, c2, c3, c4, c5) = some (if usedB ls c5 = true then .inr false else .inl (a1, a2, a3, b1, b2, b3, b4, b5, b6, b7)) := by
  rcases fst_loop s_GoodCache_L1 (fun k => (a1, a2, a3, ls, ((ls.length : Nat) : Int), ((k : Nat) : Int), b1, b2, b3, b4, b5, b6, b7, c1, c2, c3, c4, c5))
      (fun k => !((ls[k]?.getD (0, [], false, 0, 0)).2.2.2.2 == c5)) (fun k => false) (a1, a2, a3, b1, b2, b3, b4, b5, b6, b7) ls.length (fun i hi => by
        unfold s_GoodCache_L1
        dsimp only
        rw [if_pos (by simp; omega), if_pos (by simp), Int.toNat_natCast, List.getElem?_eq_getElem hi, Option.bind_some, ix64 (by omega)]
        by_cases he : ls[i].2.2.2.2 = c5
        · rw [if_pos (by simp [he]), if_neg (by simp [he])]
        · rw [if_neg (by simp [he]), if_pos (by simp [he])]) (by
        unfold s_GoodCache_L1
        dsimp only
        rw [if_neg (by simp)]) with ⟨h1, h2⟩ | ⟨k, hk, h1, _, h2⟩
  · rw [show (((0 : Nat) : Int)) = 0 from rfl] at h2
    rw [h2]
    have : usedB ls c5 = false := by
      unfold usedB
      rw [List.any_eq_false]
      intro q hq
      obtain ⟨j, hj, rfl⟩ := List.getElem_of_mem hq
      have := h1 j hj
      rw [List.getElem?_eq_getElem hj] at this
      simpa using this
    rw [this]
    rfl
  · rw [show (((0 : Nat) : Int)) = 0 from rfl] at h2
    rw [h2]
    have : usedB ls c5 = true := by
      unfold usedB
      rw [List.any_eq_true]
      refine ⟨ls[k], List.getElem_mem hk, ?_⟩
      rw [List.getElem?_eq_getElem hk] at h1
      simpa using h1
    rw [this]
    simp
def gl1 (x1 : Int) (ls : List Cl) (bl : Bls) (i : Nat) (r : Cl) : Bool :=
  if ¬ (0 ≤ r.1 ∧ r.1 < bl.length) then false else if 0 < i ∧ r.1 ≤ (ls[i - 1]?.getD r).1 then false else if ¬ r.2.1.length = 128 then false else if ¬ (0 ≤ r.2.2.2.1 ∧ r.2.2.2.1 ≤ 100) then false else
    decide (1 ≤ r.2.2.2.2 ∧ r.2.2.2.2 ≤ x1)
theorem gl_eq1 (x1 : Int) (ls : List Cl) (bl : Bls) (i : Nat) (r : Cl) : gl x1 ls bl i r =
    if gl1 x1 ls bl i r = false then false else if r.2.2.1 = false ∧ ¬ r.2.1 = bl[r.1.toNat]?.getD [] then false else !(usedB (ls.take i) r.2.2.2.2) := by
  rw [gl_eq]; unfold gl1
  by_cases h1 : ¬ (0 ≤ r.1 ∧ r.1 < bl.length)
  · simp only [if_pos h1, if_true]
  simp only [if_neg h1]
  by_cases h2 : 0 < i ∧ r.1 ≤ (ls[i - 1]?.getD r).1
  · simp only [if_pos h2, if_true]
  simp only [if_neg h2]
  by_cases h3 : ¬ r.2.1.length = 128
  · simp only [if_pos h3, if_true]
  simp only [if_neg h3]
  by_cases h4 : ¬ (0 ≤ r.2.2.2.1 ∧ r.2.2.2.1 ≤ 100)
  · simp only [if_pos h4, if_true]
  simp only [if_neg h4]
  by_cases h5 : 1 ≤ r.2.2.2.2 ∧ r.2.2.2.2 ≤ x1
  · rw [if_neg (not_not_intro h5), decide_eq_true h5]; exact (if_neg (by simp)).symm
  · rw [if_pos h5, decide_eq_false h5, if_pos rfl]
theorem gl1_in {x1 : Int} {ls : List Cl} {bl : Bls} {i : Nat} {r : Cl} (h : gl1 x1 ls bl i r = true) : 0 ≤ r.1 ∧ r.1 < bl.length := by
  unfold gl1 at h
  by_cases h1 : 0 ≤ r.1 ∧ r.1 < bl.length
  · exact h1
  · rw [if_pos h1] at h; cases h
theorem s_in_n {bl : Bls} (hn : bl.length ≤ 1048576) (a : Int) : s_l1In a 0 (IntKind.wrap .i64 (((List.length bl : Nat) : Int) - 1)) = some (decide (0 ≤ a ∧ a < bl.length)) := by
  rw [w64 (by omega) (by omega), s_In_eq]
  refine congrArg some ?_
  by_cases h0 : 0 ≤ a ∧ a < bl.length
  · have : 0 ≤ a ∧ a ≤ ((bl.length : Nat) : Int) - 1 := by omega
    simp only [this, h0, decide_true, and_self]
  · have : ¬ (0 ≤ a ∧ a ≤ ((bl.length : Nat) : Int) - 1) := by omega
    rw [decide_eq_false this, decide_eq_false h0]
theorem s_GoodCache_eq {ls : List Cl} {bl : Bls} (h : CD ls bl) (x0 x1 wr : Int) (on : Bool) (lf : Int) : s_GoodCache x0 x1 ls bl wr on lf = some (gc x0 x1 ls bl wr lf) := by
  have hn := h.n
  have hm := h.m
  rw [head_eq]
  unfold s_GoodCache
  refine Ok.eq (Ok.bind (Q := fun r => r = (!(gd bl wr lf && (decide (1 ≤ x0 ∧ x0 ≤ 8) && (decide (0 ≤ x1 ∧ x1 ≤ 1000000) && decide (((ls.length : Nat) : Int) ≤ x0)))), x0, x1, ls, bl, wr, on, lf)) ?_ ?_)
  · refine Ok.bind_eq (s_good_n hm wr on lf) (Ok.ite (fun hc => Ok.mk ?_) fun hc => ?_)
    · have : gd bl wr lf = false := by simpa using hc
      rw [this]; rfl
    have h1 : gd bl wr lf = true := by simpa using hc
    rw [h1, Bool.true_and]
    refine Ok.bind_eq (s_In_eq _ _ _) (Ok.ite (fun hc => Ok.mk ?_) fun hc => ?_)
    · have : decide (1 ≤ x0 ∧ x0 ≤ 8) = false := by simpa only [Bool.not_eq_true'] using hc
      rw [this]; rfl
    have h2 : decide (1 ≤ x0 ∧ x0 ≤ 8) = true := by simpa only [Bool.not_eq_true', Bool.not_eq_false] using hc
    rw [h2, Bool.true_and]
    refine Ok.bind_eq (s_In_eq _ _ _) (Ok.ite (fun hc => Ok.mk ?_) fun hc => Ok.mk ?_)
    · have : decide (0 ≤ x1 ∧ x1 ≤ 1000000) = false := by simpa only [Bool.not_eq_true'] using hc
      rw [this]; rfl
    have h3 : decide (0 ≤ x1 ∧ x1 ≤ 1000000) = true := by simpa only [Bool.not_eq_true', Bool.not_eq_false] using hc
    rw [h3, Bool.true_and]
    refine congrArg (fun b => (b, x0, x1, ls, bl, wr, on, lf)) ?_
    by_cases hq : ((ls.length : Nat) : Int) ≤ x0
    · rw [decide_eq_true hq, decide_eq_false (by omega)]; rfl
    · rw [decide_eq_false hq, decide_eq_true (by omega)]; rfl
  · rintro _ rfl
    dsimp only
    cases hb : (gd bl wr lf && (decide (1 ≤ x0 ∧ x0 ≤ 8) && (decide (0 ≤ x1 ∧ x1 ≤ 1000000) && decide (((ls.length : Nat) : Int) ≤ x0)))) with
    | false => exact Ok.yes rfl (Ok.mk rfl)
    | true =>
      refine Ok.no (by simp) ?_
      rw [Bool.true_and]
      rcases fst_loop s_GoodCache_L2 (fun k => (ls, ((ls.length : Nat) : Int), ((k : Nat) : Int), x0, x1, ls, bl, wr, on, lf)) (fun i => gl x1 ls bl i (ls[i]?.getD (0, [], false, 0, 0))) (fun _ => false) () ls.length (fun i hi => by
          unfold s_GoodCache_L2
          dsimp only
          rw [if_pos (by simp; omega), if_pos (by simp), Int.toNat_natCast, List.getElem?_eq_getElem hi, Option.bind_some, Option.getD_some]
          generalize hr : ls[i] = r
          have hrm : r ∈ ls := hr ▸ List.getElem_mem hi
          have hrb := h.b r hrm
          have hul : ((List.drop (Int.toNat 0) ls).take (Int.toNat ((i : Nat) : Int) - Int.toNat 0)).length ≤ 1048576 := by simp; omega
          have hu : usedB ((List.drop (Int.toNat 0) ls).take (Int.toNat ((i : Nat) : Int) - Int.toNat 0)) r.2.2.2.2 = usedB (ls.take i) r.2.2.2.2 := by simp
          refine Ok.eq (Ok.bind (Q := fun z => z = (((i : Nat) : Int), ls, ((ls.length : Nat) : Int), ((i : Nat) : Int), !(gl1 x1 ls bl i r), x0, x1, ls, bl, wr, on, lf, r.1, r.2.1, r.2.2.1, r.2.2.2.1, r.2.2.2.2)) ?_ ?_)
          · unfold gl1
            refine Ok.bind_eq (s_in_n hm r.1) (Ok.ite (fun hc => ?_) fun hc => ?_)
            · have h1 : ¬ (0 ≤ r.1 ∧ r.1 < bl.length) := by simpa only [Bool.not_eq_true', decide_eq_false_iff_not] using hc
              rw [if_pos h1]; exact Ok.mk rfl
            have h1 : 0 ≤ r.1 ∧ r.1 < bl.length := by simpa using hc
            rw [if_neg (not_not_intro h1)]
            by_cases hi0 : 0 < i
            · have hp : ls[i - 1]? = some ls[i - 1] := List.getElem?_eq_getElem (by omega)
              rw [hp, Option.getD_some]
              have e1 : IntKind.wrap .i64 (((i : Nat) : Int) - 1) = ((i - 1 : Nat) : Int) := by rw [w64 (by omega) (by omega)]; omega
              refine Ok.yes (by simp; omega) (Ok.yes (by rw [e1]; simp) ?_)
              rw [e1, Int.toNat_natCast]
              refine Ok.bind_eq hp (Ok.ite (fun hc => ?_) fun hc => ?_)
              · have h2 : r.1 ≤ ls[i - 1].1 := by simpa using hc
                rw [if_pos ⟨hi0, h2⟩]; exact Ok.mk rfl
              have h2 : ¬ r.1 ≤ ls[i - 1].1 := by simpa using hc
              rw [if_neg (show ¬ (0 < i ∧ r.1 ≤ ls[i - 1].1) from fun hh => h2 hh.2)]
              refine Ok.ite (fun hc => ?_) fun hc => ?_
              · have h3 : ¬ r.2.1.length = 128 := by simp at hc; omega
                rw [if_pos h3]; exact Ok.mk rfl
              have h3 : r.2.1.length = 128 := by simp at hc; omega
              rw [if_neg (not_not_intro h3)]
              refine Ok.bind_eq (s_In_eq _ _ _) (Ok.ite (fun hc => ?_) fun hc => ?_)
              · have h4 : ¬ (0 ≤ r.2.2.2.1 ∧ r.2.2.2.1 ≤ 100) := by simpa only [Bool.not_eq_true', decide_eq_false_iff_not] using hc
                rw [if_pos h4]; exact Ok.mk rfl
              have h4 : 0 ≤ r.2.2.2.1 ∧ r.2.2.2.1 ≤ 100 := by simpa using hc
              rw [if_neg (not_not_intro h4)]
              exact Ok.bind_eq (s_In_eq _ _ _) (Ok.mk rfl)
            · refine Ok.no (by simp; omega) ?_
              rw [if_neg (show ¬ (0 < i ∧ r.1 ≤ (ls[i - 1]?.getD r).1) from fun hh => hi0 hh.1)]
              refine Ok.ite (fun hc => ?_) fun hc => ?_
              · have h3 : ¬ r.2.1.length = 128 := by simp at hc; omega
                rw [if_pos h3]; exact Ok.mk rfl
              have h3 : r.2.1.length = 128 := by simp at hc; omega
              rw [if_neg (not_not_intro h3)]
              refine Ok.bind_eq (s_In_eq _ _ _) (Ok.ite (fun hc => ?_) fun hc => ?_)
              · have h4 : ¬ (0 ≤ r.2.2.2.1 ∧ r.2.2.2.1 ≤ 100) := by simpa only [Bool.not_eq_true', decide_eq_false_iff_not] using hc
                rw [if_pos h4]; exact Ok.mk rfl
              have h4 : 0 ≤ r.2.2.2.1 ∧ r.2.2.2.1 ≤ 100 := by simpa using hc
              rw [if_neg (not_not_intro h4)]
              exact Ok.bind_eq (s_In_eq _ _ _) (Ok.mk rfl)
          · rintro _ rfl
            dsimp only
            rw [gl_eq1]
            cases hg : gl1 x1 ls bl i r with
            | false => exact Ok.yes rfl (Ok.mk rfl)
            | true =>
              refine Ok.no (by simp) ?_
              rw [if_neg (show ¬ (true = false) by simp)]
              have h1 := gl1_in hg
              have ib : r.1.toNat < bl.length := by omega
              have eb : bl[r.1.toNat]? = some bl[r.1.toNat] := List.getElem?_eq_getElem ib
              have hkb := h.k _ (List.getElem_mem ib)
              refine Ok.bind (Q := fun z => z = (((i : Nat) : Int), ls, ((ls.length : Nat) : Int), ((i : Nat) : Int), decide (r.2.2.1 = false ∧ ¬ r.2.1 = bl[r.1.toNat]?.getD []), x0, x1, ls, bl, wr, on, lf, r.1, r.2.1, r.2.2.1, r.2.2.2.1, r.2.2.2.2)) ?_ ?_
              · refine Ok.ite (fun hc => ?_) fun hc => ?_
                · have h6 : r.2.2.1 = false := by simpa using hc
                  refine Ok.yes (by simp; omega) (Ok.bind_eq eb (Ok.mk ?_))
                  rw [text_beq hrb.2 hkb.2, eb, Option.getD_some]
                  refine congrArg (fun b => (((i : Nat) : Int), ls, ((ls.length : Nat) : Int), ((i : Nat) : Int), b, x0, x1, ls, bl, wr, on, lf, r.1, r.2.1, r.2.2.1, r.2.2.2.1, r.2.2.2.2)) ?_
                  by_cases h7 : r.2.1 = bl[r.1.toNat]
                  · simp [h7]
                  · rw [beq_eq_false_iff_ne.2 h7, decide_eq_true ⟨h6, h7⟩]; rfl
                · have h6 : r.2.2.1 = true := by simpa using hc
                  refine Ok.mk ?_
                  rw [h6]; rfl
              · rintro _ rfl
                dsimp only
                by_cases h6 : r.2.2.1 = false ∧ ¬ r.2.1 = bl[r.1.toNat]?.getD []
                · rw [if_pos h6]
                  exact Ok.yes (by simpa using h6) (Ok.mk rfl)
                · rw [if_neg h6]
                  refine Ok.no (by simpa using h6) ?_
                  refine Ok.yes (by simp) (Ok.yes (by simp) (Ok.yes (by simp; omega) (Ok.yes (by simp) (Ok.bind_eq (s_usedB_eq hul _ _ _ _ _ _ _ _ _ _ _ _ _ _ _) ?_))))
                  rw [hu]
                  cases usedB (ls.take i) r.2.2.2.2 with
                  | true => exact Ok.mk rfl
                  | false => exact Ok.mk (by dsimp only; rw [ix64 (by omega)]; rfl)) (by
          unfold s_GoodCache_L2
          dsimp only
          rw [if_neg (by simp)]) with ⟨h1, h2⟩ | ⟨k, hk, h1, _, h2⟩
      · rw [show (((0 : Nat) : Int)) = 0 from rfl] at h2
        refine Ok.bind_eq h2 (Ok.mk ?_)
        symm
        rw [List.all_eq_true]
        intro i hi
        exact h1 i (List.mem_range.1 hi)
      · rw [show (((0 : Nat) : Int)) = 0 from rfl] at h2
        refine Ok.bind_eq h2 (Ok.mk ?_)
        symm
        rw [List.all_eq_false]
        exact ⟨k, List.mem_range.2 hk, by rw [h1]; simp⟩
theorem copyLine_eq {ls : List Cl} {bl : Bls} (h : CD ls bl) (x0 x1 : Int) : i_Cache_copied x0 x1 ls = some (x0, x1, ls) := by
  have hn := h.n
  unfold i_Cache_copied
  have := loop_run i_Cache_copied_L1 (fun k => (ls, ((ls.length : Nat) : Int), ((k : Nat) : Int), 0, 0, x0, x1, ls.take k)) ls.length (0, 0, x0, x1, ls) (fun k hk => by
    unfold i_Cache_copied_L1
    dsimp only
    rw [if_pos (by simp; omega), if_pos (by simp), Int.toNat_natCast, List.getElem?_eq_getElem hk, Option.bind_some, clone_any (h.b _ (List.getElem_mem hk)).1, Option.bind_some,
      if_pos (by simp only [List.length_take, List.length_singleton, roomFor, decide_eq_true_eq]; omega), ix64 (by omega), List.take_succ_eq_append_getElem hk]) (by
    unfold i_Cache_copied_L1
    dsimp only
    rw [if_neg (by simp), List.take_length])
  rw [show loopG i_Cache_copied_L1 (ls, ((ls.length : Nat) : Int), 0, 0, 0, x0, x1, []) = _ from this]
  rfl
theorem ownLine_eq {ls : List Cl} {bl : Bls} (h : CD ls bl) (x0 x1 : Int) : s_l3Own x0 x1 ls = some (x0, x1, ls) := by
  have hn := h.n
  unfold s_l3Own
  have := loop_run s_l3Own_L1 (fun k => (ls.take k, ls, ((ls.length : Nat) : Int), ((k : Nat) : Int), x0, x1, ls, 0, 0)) ls.length (ls, x0, x1, ls, 0, 0) (fun k hk => by
    unfold s_l3Own_L1
    dsimp only
    have hb := (h.b _ (List.getElem_mem hk)).1
    rw [if_pos (by simp; omega), if_pos (by simp), Int.toNat_natCast, List.getElem?_eq_getElem hk, Option.bind_some,
      if_pos (by simp only [List.length_nil, roomFor, decide_eq_true_eq]; omega),
      if_pos (by simp only [List.length_take, List.length_singleton, roomFor, decide_eq_true_eq]; omega), ix64 (by omega), List.take_succ_eq_append_getElem hk, List.nil_append]) (by
    unfold s_l3Own_L1
    dsimp only
    rw [if_neg (by simp), List.take_length])
  rw [show loopG s_l3Own_L1 ([], ls, ((ls.length : Nat) : Int), 0, x0, x1, ls, 0, 0) = _ from this]
  rfl
theorem at_eq {ls : List Cl} (hn : ls.length ≤ 1048576) (x0 x1 x : Int) :
    ((∀ j (h : j < ls.length), ¬ ls[j].1 = x) ∧ s_l3At x0 x1 ls x = some (-1)) ∨ ∃ k, ∃ h : k < ls.length, ls[k].1 = x ∧ s_l3At x0 x1 ls x = some ((k : Nat) : Int) := by
  unfold s_l3At
  rcases fst_loop s_l3At_L1 (fun k => (x, ls, ((ls.length : Nat) : Int), ((k : Nat) : Int))) (fun k => !((ls[k]?.getD (0, [], false, 0, 0)).1 == x)) (fun k => ((k : Nat) : Int)) () ls.length (fun i hi => by
        unfold s_l3At_L1
        dsimp only
        rw [if_pos (by simp; omega), if_pos (by simp), Int.toNat_natCast, List.getElem?_eq_getElem hi, Option.bind_some, ix64 (by omega)]
        by_cases he : ls[i].1 = x
        · rw [if_pos (by simp [he]), if_neg (by simp [he])]
        · rw [if_neg (by simp [he]), if_pos (by simp [he])]) (by
        unfold s_l3At_L1
        dsimp only
        rw [if_neg (by simp)]) with ⟨h1, h2⟩ | ⟨k, hk, h1, _, h2⟩
  · rw [show (((0 : Nat) : Int)) = 0 from rfl] at h2
    refine .inl ⟨fun j hj => ?_, by rw [h2]; rfl⟩
    have := h1 j hj
    rw [List.getElem?_eq_getElem hj] at this
    simpa using this
  · rw [show (((0 : Nat) : Int)) = 0 from rfl] at h2
    refine .inr ⟨k, hk, ?_, by rw [h2]; rfl⟩
    rw [List.getElem?_eq_getElem hk] at h1
    simpa using h1
structure Up (ls : List Cl) (m : Nat) : Prop where
  up : ∀ i j (hi : i < ls.length) (hj : j < ls.length), i < j → ls[i].1 < ls[j].1
  b : ∀ i (hi : i < ls.length), 0 ≤ ls[i].1 ∧ ls[i].1 < m
theorem up_of {x0 x1 wr lf : Int} {ls : List Cl} {bl : Bls} (h : gc x0 x1 ls bl wr lf = true) : Up ls bl.length := by
  rw [head_eq, Bool.and_eq_true, List.all_eq_true] at h
  have hg : ∀ i (hi : i < ls.length), (0 ≤ ls[i].1 ∧ ls[i].1 < bl.length) ∧ (0 < i → (ls[i - 1]?.getD ls[i]).1 < ls[i].1) := fun i hi => by
    have := h.2 i (List.mem_range.2 hi)
    rw [List.getElem?_eq_getElem hi, Option.getD_some] at this
    unfold gl at this
    simp only [Bool.and_eq_true, decide_eq_true_eq] at this
    exact ⟨this.1, this.2.1⟩
  refine ⟨fun i j hi hj hij => ?_, fun i hi => (hg i hi).1⟩
  induction j with
  | zero => omega
  | succ j ih =>
    have h1 := (hg (j + 1) hj).2 (by omega)
    rw [show j + 1 - 1 = j from rfl, List.getElem?_eq_getElem (by omega), Option.getD_some] at h1
    by_cases hjj : i = j
    · subst hjj; exact h1
    · have := ih (by omega) (by omega)
      omega
theorem bs_eq {ls : List Cl} {m : Nat} (hn : ls.length ≤ 1048576) (hm : m ≤ 1048576) (hu : Up ls m) {x : Int} (hx0 : 0 ≤ x) (hx1 : x < m) :
    ∃ k, k ≤ ls.length ∧ (∀ j (h : j < ls.length), j < k → ls[j].1 < x) ∧ (∀ j (h : j < ls.length), k ≤ j → x ≤ ls[j].1) ∧
      slices_BinarySearchFunc_loop_example_g00083_impl_CacheLine_loop_example_g00083_impl_CacheLine_int_i_Cache_line_1 ls x = some (((k : Nat) : Int), decide (∃ h : k < ls.length, ls[k].1 = x)) := by
  unfold slices_BinarySearchFunc_loop_example_g00083_impl_CacheLine_loop_example_g00083_impl_CacheLine_int_i_Cache_line_1
  have hl : Ok (loopG slices_BinarySearchFunc_loop_example_g00083_impl_CacheLine_loop_example_g00083_impl_CacheLine_int_i_Cache_line_1_L1 (ls, x, ((ls.length : Nat) : Int), 0, ((ls.length : Nat) : Int)))
      (fun r => ∃ k, k ≤ ls.length ∧ (∀ j (h : j < ls.length), j < k → ls[j].1 < x) ∧ (∀ j (h : j < ls.length), k ≤ j → x ≤ ls[j].1) ∧ r = (ls, x, ((ls.length : Nat) : Int), ((k : Nat) : Int))) := by
    refine Ok.loop (fun y => ∃ a b : Nat, a ≤ b ∧ b ≤ ls.length ∧ (∀ j (h : j < ls.length), j < a → ls[j].1 < x) ∧ (∀ j (h : j < ls.length), b ≤ j → x ≤ ls[j].1) ∧ y = (ls, x, ((ls.length : Nat) : Int), ((a : Nat) : Int), ((b : Nat) : Int)))
      (fun y => (y.2.2.2.2 - y.2.2.2.1).toNat) ⟨0, ls.length, by omega, by omega, fun j h h2 => absurd h2 (by omega), fun j h h2 => absurd h2 (by omega), rfl⟩ ?_
    rintro _ ⟨a, b, hab, hb, h1, h2, rfl⟩
    unfold slices_BinarySearchFunc_loop_example_g00083_impl_CacheLine_loop_example_g00083_impl_CacheLine_int_i_Cache_line_1_L1
    dsimp only
    refine Ok.ite (fun hc => ?_) fun hc => ?_
    · have hlt : a < b := by simpa using hc
      have e1 : IntKind.wrap .i64 (Int.fdiv (IntKind.wrap .u64 (IntKind.wrap .i64 (((a : Nat) : Int) + ((b : Nat) : Int)))) (2 ^ (min (Int.toNat 1) (IntKind.bits .u64)))) = (((a + b) / 2 : Nat) : Int) := by
        rw [w64 (n := ((a : Nat) : Int) + ((b : Nat) : Int)) (by omega) (by omega), wu64 (by omega) (by omega), show (2 : Int) ^ (min (Int.toNat 1) (IntKind.bits .u64)) = 2 from rfl, Int.fdiv_eq_ediv_of_nonneg _ (by omega), w64 (by omega) (by omega)]
        omega
      rw [e1]
      have hk : (a + b) / 2 < ls.length := by omega
      have hbnd := hu.b _ hk
      refine Ok.yes (by simp) (Ok.yes (by simp; omega) ?_)
      rw [Int.toNat_natCast]
      refine Ok.bind_eq (List.getElem?_eq_getElem hk) (Ok.bind_eq rfl ?_)
      rw [w64 (n := ls[(a + b) / 2].1 - x) (by omega) (by omega)]
      by_cases hlt2 : ls[(a + b) / 2].1 < x
      · refine Ok.bind_eq (if_pos (by simp; omega)) (Ok.mk ⟨⟨(a + b) / 2 + 1, b, by omega, hb, fun j h hj => ?_, h2, ?_⟩, ?_⟩)
        · by_cases hjj : j = (a + b) / 2
          · subst hjj; exact hlt2
          · have := hu.up j _ h hk (by omega); omega
        · rw [ix64 (by omega)]
        · dsimp only; rw [ix64 (by omega)]; omega
      · refine Ok.bind_eq (if_neg (by simp; omega)) (Ok.mk ⟨⟨a, (a + b) / 2, by omega, by omega, h1, fun j h hj => ?_, rfl⟩, ?_⟩)
        · by_cases hjj : j = (a + b) / 2
          · subst hjj; omega
          · have := hu.up _ j hk h (by omega); omega
        · dsimp only; omega
    · have hlt : a = b := by simp at hc; omega
      subst hlt
      exact Ok.mk ⟨a, hb, h1, h2, rfl⟩
  obtain ⟨r, hr, k, hk, h1, h2, rfl⟩ := hl
  refine ⟨k, hk, h1, h2, ?_⟩
  rw [hr, Option.bind_some]
  dsimp only
  by_cases hlt : k < ls.length
  · have hbnd := hu.b _ hlt
    rw [if_pos (by simp; omega), if_pos (by simp), Int.toNat_natCast, List.getElem?_eq_getElem hlt, Option.bind_some]
    unfold i_Cache_line_1
    rw [Option.bind_some, w64 (by omega) (by omega), Option.bind_some]
    refine congrArg (fun b => some (((k : Nat) : Int), b)) ?_
    by_cases he : ls[k].1 = x
    · rw [decide_eq_true (show ls[k].1 - x = 0 by omega), decide_eq_true ⟨hlt, he⟩]
    · rw [decide_eq_false (show ¬ ls[k].1 - x = 0 by omega), decide_eq_false (fun ⟨_, hh⟩ => he hh)]
  · rw [if_neg (by simp; omega), Option.bind_some, decide_eq_false (fun ⟨hh, _⟩ => hlt hh)]
theorem wsum_set (w : Cl → Nat) : ∀ (ls : List Cl) (k : Nat) (x : Cl), (∀ h : k < ls.length, w x = w ls[k]) → wsum w (ls.set k x) = wsum w ls
  | [], _, _, _ => rfl
  | y :: ls, 0, x, h => by
    have := h (by simp)
    simp only [List.getElem_cons_zero] at this
    simp only [List.set_cons_zero, wsum, this]
  | y :: ls, k + 1, x, h => by
    simp only [List.set_cons_succ, wsum]
    rw [wsum_set w ls k x (fun hh => (h (Nat.succ_lt_succ hh)).trans (by rw [List.getElem_cons_succ]))]
def pinOf (x0 x1 : Int) (ls : List Cl) (bl : Bls) (wr lf x7 x8 : Int) : Int × (Int × (Int × List Cl)) :=
  if gc x0 x1 ls bl wr lf = false ∨ (¬ x8 = 1 ∧ ¬ x8 = -1) then (1, 0, 0, []) else if ¬ (0 ≤ x7 ∧ x7 < bl.length) then (2, x0, x1, ls) else
  match ls.findIdx? (fun r => r.1 == x7) with
  | none => (4, x0, x1, ls)
  | some k => if 0 ≤ IntKind.wrap .i64 ((ls[k]?.getD (0, [], false, 0, 0)).2.2.2.1 + x8) ∧ IntKind.wrap .i64 ((ls[k]?.getD (0, [], false, 0, 0)).2.2.2.1 + x8) ≤ 100
      then (0, x0, x1, ls.set k ((ls[k]?.getD (0, [], false, 0, 0)).1, (ls[k]?.getD (0, [], false, 0, 0)).2.1, (ls[k]?.getD (0, [], false, 0, 0)).2.2.1, IntKind.wrap .i64 ((ls[k]?.getD (0, [], false, 0, 0)).2.2.2.1 + x8), (ls[k]?.getD (0, [], false, 0, 0)).2.2.2.2))
      else (4, x0, x1, ls)
theorem pinOf_w (x0 x1 : Int) (ls : List Cl) (bl : Bls) (wr lf x7 x8 : Int) : w_CacheLineS (pinOf x0 x1 ls bl wr lf x7 x8).2.2.2 ≤ w_CacheLineS ls := by
  unfold pinOf
  split
  · simp [w_CacheLineS, wsum]
  split
  · exact Nat.le_refl _
  split
  · exact Nat.le_refl _
  · rename_i k hk
    split
    · dsimp only
      unfold w_CacheLineS
      rw [List.length_set, wsum_set]
      · exact Nat.le_refl _
      · intro hh
        simp [w_CacheLine, List.getElem?_eq_getElem hh]
    · exact Nat.le_refl _
theorem idx_none {ls : List Cl} {x : Int} (h : ∀ j (h : j < ls.length), ¬ ls[j].1 = x) : ls.findIdx? (fun r => r.1 == x) = none := by
  rw [List.findIdx?_eq_none_iff]
  intro r hr
  obtain ⟨j, hj, rfl⟩ := List.getElem_of_mem hr
  simpa using h j hj
theorem idx_some {ls : List Cl} {m : Nat} (hu : Up ls m) {x : Int} {k : Nat} (hk : k < ls.length) (h : ls[k].1 = x) : ls.findIdx? (fun r => r.1 == x) = some k := by
  rw [List.findIdx?_eq_some_iff_getElem]
  refine ⟨hk, by simpa using h, fun j hj => ?_⟩
  have := hu.up j k (by omega) hk hj
  simp; omega
theorem head8 {x8 : Int} (h : ¬ (¬ x8 = 1 ∧ ¬ x8 = -1)) (x7 x0 x1 : Int) (ls : List Cl) (bl : Bls) (wr : Int) (on : Bool) (lf : Int) : (if (decide (¬ (x8 : Int) = 1)) = true then
      some (x7, x8, decide (¬ (x8 : Int) = (-1)), x0, x1, ls, bl, wr, on, lf, 0, 0) else some (x7, x8, false, x0, x1, ls, bl, wr, on, lf, 0, 0)) = (some (x7, x8, false, x0, x1, ls, bl, wr, on, lf, 0, 0) : Option (Int × (Int × (Bool × (Int × (Int × (List Cl × (Bls × (Int × (Bool × (Int × (Int × Int)))))))))))) := by
  by_cases h1 : x8 = 1
  · simp [h1]
  · have : x8 = -1 := by omega
    simp [this]
theorem s_pin_eq {ls : List Cl} {bl : Bls} (h : CD ls bl) (x0 x1 wr : Int) (on : Bool) (lf x7 x8 : Int) : s_PinLine x0 x1 ls bl wr on lf x7 x8 = some (pinOf x0 x1 ls bl wr lf x7 x8) := by
  have hn := h.n
  have hm := h.m
  unfold s_PinLine pinOf
  rw [s_GoodCache_eq h, Option.bind_some]
  by_cases hg : gc x0 x1 ls bl wr lf = true
  · have hu := up_of hg
    rw [hg]
    by_cases h8 : ¬ x8 = 1 ∧ ¬ x8 = -1
    · simp [h8]
    · rw [if_neg (show ¬ (!true) = true by simp), head8 h8, Option.bind_some]
      dsimp only
      rw [if_neg (show ¬ false = true by simp), ownLine_eq h, Option.bind_some]
      dsimp only
      rw [s_in_n hm, Option.bind_some, if_neg (show ¬ (true = false ∨ ¬x8 = 1 ∧ ¬x8 = -1) from fun hh => hh.elim (fun h => by cases h) h8)]
      by_cases hx : 0 ≤ x7 ∧ x7 < bl.length
      · rw [decide_eq_true hx, if_neg (show ¬ (!true) = true by simp), if_neg (not_not_intro hx)]
        rcases at_eq hn x0 x1 x7 with ⟨ha, hb⟩ | ⟨i, hi, ha, hb⟩
        · rw [idx_none ha, hb, Option.bind_some, if_pos (by simp), Option.bind_some]
          exact if_pos rfl
        · rw [idx_some hu hi ha, hb, Option.bind_some, if_neg (by simp)]
          dsimp only
          have hgi : ls[0 + Int.toNat ((i : Nat) : Int)]? = some ls[i] := by rw [Nat.zero_add, Int.toNat_natCast]; exact List.getElem?_eq_getElem hi
          have hgj : ls[i]? = some ls[i] := List.getElem?_eq_getElem hi
          rw [if_pos (by simp), if_pos (by simp; omega), hgi, hgj, Option.bind_some, Option.getD_some, s_In_eq, Option.bind_some, Option.bind_some]
          dsimp only
          by_cases hp : 0 ≤ IntKind.wrap .i64 (ls[i].2.2.2.1 + x8) ∧ IntKind.wrap .i64 (ls[i].2.2.2.1 + x8) ≤ 100
          · rw [decide_eq_true hp, if_pos hp, if_neg (show ¬ (!true) = true by simp), if_pos (by simp), if_pos (by simp; omega), hgi, Option.bind_some, if_pos (by simp), if_pos (by simp; omega), Option.bind_some, Option.bind_some, Nat.zero_add, Int.toNat_natCast]
          · rw [decide_eq_false hp, if_neg hp]; exact if_pos rfl
      · rw [decide_eq_false hx, if_pos hx]
        exact if_pos rfl
  · have hg' : gc x0 x1 ls bl wr lf = false := by simpa using hg
    rw [hg', if_pos (show false = false ∨ ¬x8 = 1 ∧ ¬x8 = -1 from .inl rfl)]
    rfl
theorem i_pin_eq {ls : List Cl} {bl : Bls} (h : CD ls bl) (x0 x1 wr : Int) (on : Bool) (lf x7 x8 : Int) : i_PinLine x0 x1 ls bl wr on lf x7 x8 = some (pinOf x0 x1 ls bl wr lf x7 x8) := by
  have hn := h.n
  have hm := h.m
  unfold i_PinLine pinOf
  rw [i_GoodCache_eq h, Option.bind_some]
  by_cases hg : gc x0 x1 ls bl wr lf = true
  · have hu := up_of hg
    rw [hg]
    by_cases h8 : ¬ x8 = 1 ∧ ¬ x8 = -1
    · simp [h8]
    · rw [if_neg (show ¬ (!true) = true by simp), head8 h8, Option.bind_some]
      dsimp only
      rw [if_neg (show ¬ false = true by simp), has_n hm, Option.bind_some, if_neg (show ¬ (true = false ∨ ¬x8 = 1 ∧ ¬x8 = -1) from fun hh => hh.elim (fun h => by cases h) h8)]
      by_cases hx : 0 ≤ x7 ∧ x7 < bl.length
      · rw [decide_eq_true hx, if_neg (show ¬ (!true) = true by simp), if_neg (not_not_intro hx), copyLine_eq h, Option.bind_some]
        dsimp only
        obtain ⟨k, hk, hk1, hk2, hbs⟩ := bs_eq hn hm hu hx.1 hx.2
        unfold i_Cache_line_o
        rw [hbs, Option.bind_some, Option.bind_some]
        dsimp only
        rcases at_eq hn x0 x1 x7 with ⟨ha, hb⟩ | ⟨i, hi, ha, hb⟩
        · rw [idx_none ha, decide_eq_false (fun ⟨hh, he⟩ => ha k hh he), if_pos (by simp), Option.bind_some]
          exact if_pos rfl
        · have hik : i = k := by
            rcases Nat.lt_trichotomy i k with hl | hl | hl
            · have := hk1 i hi hl; omega
            · exact hl
            · have h2 := hk2 k (by omega) (by omega)
              have h3 := hu.up k i (by omega) hi hl
              omega
          subst hik
          rw [idx_some hu hi ha, decide_eq_true ⟨hi, ha⟩, if_neg (show ¬ (!true) = true by simp)]
          dsimp only
          have hgi : ls[0 + Int.toNat ((i : Nat) : Int)]? = some ls[i] := by rw [Nat.zero_add, Int.toNat_natCast]; exact List.getElem?_eq_getElem hi
          have hgj : ls[i]? = some ls[i] := List.getElem?_eq_getElem hi
          rw [if_pos (by simp), if_pos (by simp; omega), hgi, hgj, Option.bind_some, Option.getD_some, i_within_eq, Option.bind_some, Option.bind_some]
          dsimp only
          by_cases hp : 0 ≤ IntKind.wrap .i64 (ls[i].2.2.2.1 + x8) ∧ IntKind.wrap .i64 (ls[i].2.2.2.1 + x8) ≤ 100
          · rw [decide_eq_true hp, if_pos hp, if_neg (show ¬ (!true) = true by simp), if_pos (by simp), if_pos (by simp; omega), hgi, Option.bind_some, if_pos (by simp), if_pos (by simp; omega), Option.bind_some, Option.bind_some, Nat.zero_add, Int.toNat_natCast]
          · rw [decide_eq_false hp, if_neg hp]; exact if_pos rfl
      · rw [decide_eq_false hx, if_pos hx, if_pos (show (!false) = true from rfl), copyLine_eq h]
        rfl
  · have hg' : gc x0 x1 ls bl wr lf = false := by simpa using hg
    rw [hg', if_pos (show false = false ∨ ¬x8 = 1 ∧ ¬x8 = -1 from .inl rfl)]
    rfl
end Go.V.G

namespace Go.V
theorem add_blk (g off n : Nat) : (⟨g, off, none⟩ : Addr).add n = ⟨g, off + n, none⟩ := by
  unfold Addr.add; split
  · subst_vars; rfl
  · rfl
theorem add_add (a : Addr) (i j : Nat) : (a.add i).add j = a.add (i + j) := by
  unfold Addr.add
  by_cases hi : i = 0
  · subst hi; simp
  · by_cases hj : j = 0
    · subst hj; simp [hi]
    · have : ¬ (i + j = 0) := by omega
      simp only [hi, hj, this, if_false]
      congr 1; omega
theorem cell_blk {w : World} {g : Nat} {cs : Array Value} {e : TypeId} {fr : Nat × Nat} (h : w.heap[g]? = some (.cells cs e fr)) (i : Nat) : w.cell? ⟨g, i, none⟩ = cs[i]? := by
  unfold World.cell?; rw [h]; rfl
theorem frozen_blk {w : World} {g : Nat} {cs : Array Value} {e : TypeId} {fr : Nat × Nat} (h : w.heap[g]? = some (.cells cs e fr)) (hf : ∀ i, i < cs.size → ¬ (fr.1 ≤ i ∧ i < fr.2)) {i : Nat} (hi : i < cs.size) : w.frozen? ⟨g, i, none⟩ = false := by
  unfold World.frozen?; rw [h]
  have := hf i hi
  simp only [Bool.and_eq_false_iff, decide_eq_false_iff_not]
  omega
theorem setCell_blk {w : World} {g : Nat} {cs : Array Value} {e : TypeId} {fr : Nat × Nat} (h : w.heap[g]? = some (.cells cs e fr)) (i : Nat) (v : Value) :
    (w.setCell ⟨g, i, none⟩ v).heap[g]? = some (.cells (cs.setIfInBounds i v) e fr) := by
  simp only [World.setCell, Array.getElem?_modify, if_true, h, Option.map_some]
  rfl
theorem lt_size {w : World} {g : Nat} {o : Obj} (h : w.heap[g]? = some o) : g < w.heap.size := (Array.getElem?_eq_some_iff.1 h).1
def RpL {α : Type} (p : α → List Value → List Nat → Prop) : List α → List Value → List Nat → Prop
  | [], vs, F => vs = [] ∧ F = []
  | x :: xs, vs, F => ∃ v1 v2 F1 F2, vs = v1 ++ v2 ∧ F = F1 ++ F2 ∧ p x v1 F1 ∧ RpL p xs v2 F2
def NF (fr : Nat × Nat) (n : Nat) : Prop := ∀ i, i < n → ¬ (fr.1 ≤ i ∧ i < fr.2)
def Rp (w : World) (K : Nat → Prop) : (t : Ty) → t.D → List Value → List Nat → Prop
  | .int k, n, vs, F => vs = [.int k n] ∧ F = []
  | .bool, b, vs, F => vs = [.bool b] ∧ F = []
  | .str, s, vs, F => vs = [.string ⟨s.toArray⟩] ∧ F = []
  | .unit, _, vs, F => vs = [] ∧ F = []
  | .pair a b, x, vs, F => ∃ v1 v2 F1 F2, vs = v1 ++ v2 ∧ F = F1 ++ F2 ∧ Rp w K a x.1 v1 F1 ∧ Rp w K b x.2 v2 F2
  | .sl true e r, xs, vs, F => (xs = [] ∧ F = [] ∧ vs = [.slice none 0 0]) ∨
      ∃ g off c cs fr F', vs = [.slice (some ⟨g, off, none⟩) (List.length xs) c] ∧ F = g :: F' ∧ w.heap[g]? = some (.cells cs e fr) ∧ NF fr cs.size ∧
        off + c * r.size ≤ cs.size ∧ List.length xs ≤ c ∧ RpL (Rp w K r) xs ((cs.toList.drop off).take (List.length xs * r.size)) F'
  | .sl false _ r, xs, vs, F => F = [] ∧ ∃ A c ws, vs = [.slice A (List.length xs) c] ∧ List.length xs ≤ c ∧ RpL (Rp w K r) xs ws [] ∧
      (xs = [] ∨ ∃ ad, A = some ad ∧ K ad.block ∧ ad.block < w.heap.size ∧ ∀ j, j < ws.length → w.cell? (ad.add j) = ws[j]?)
section
variable {α : Type} {p q : α → List Value → List Nat → Prop}
theorem RpL.mono (h : ∀ x vs F, p x vs F → q x vs F) : ∀ {xs : List α} {vs F}, RpL p xs vs F → RpL q xs vs F
  | [], _, _, hx => hx
  | _ :: _, _, _, ⟨v1, v2, F1, F2, e1, e2, h1, h2⟩ => ⟨v1, v2, F1, F2, e1, e2, h _ _ _ h1, RpL.mono h h2⟩
theorem RpL.len {n : Nat} (h : ∀ x vs F, p x vs F → vs.length = n) : ∀ {xs : List α} {vs F}, RpL p xs vs F → vs.length = xs.length * n
  | [], _, _, ⟨e, _⟩ => by subst e; simp
  | x :: xs, _, _, ⟨v1, v2, F1, F2, e1, _, h1, h2⟩ => by
    have a := h _ _ _ h1; have b := RpL.len h h2
    subst e1
    simp only [List.length_append, List.length_cons, a, b, Nat.succ_mul]; omega
theorem RpL.append : ∀ {xs ys : List α} {vs ws F G}, RpL p xs vs F → RpL p ys ws G → RpL p (xs ++ ys) (vs ++ ws) (F ++ G)
  | [], _, _, _, _, _, ⟨e1, e2⟩, h => by subst e1 e2; exact h
  | _ :: _, _, _, _, _, _, ⟨v1, v2, F1, F2, e1, e2, h1, h2⟩, h => by
    subst e1 e2
    exact ⟨v1, _, F1, _, List.append_assoc .., List.append_assoc .., h1, RpL.append h2 h⟩
theorem RpL.split : ∀ {xs ys : List α} {vs F}, RpL p (xs ++ ys) vs F → ∃ v1 v2 F1 F2, vs = v1 ++ v2 ∧ F = F1 ++ F2 ∧ RpL p xs v1 F1 ∧ RpL p ys v2 F2
  | [], _, vs, F, h => ⟨[], vs, [], F, rfl, rfl, ⟨rfl, rfl⟩, h⟩
  | _ :: _, _, _, _, ⟨v1, v2, F1, F2, e1, e2, h1, h2⟩ => by
    obtain ⟨a, b, c, d, e3, e4, h3, h4⟩ := RpL.split h2
    subst e1 e2 e3 e4
    exact ⟨v1 ++ a, b, F1 ++ c, d, (List.append_assoc ..).symm, (List.append_assoc ..).symm, ⟨v1, a, F1, c, rfl, rfl, h1, h3⟩, h4⟩
theorem RpL.get {n : Nat} (hn : ∀ x vs F, p x vs F → vs.length = n) : ∀ {xs : List α} {vs F} {i : Nat} {x : α}, RpL p xs vs F → xs[i]? = some x →
    ∃ v1 v v2 F1 G F2, vs = v1 ++ (v ++ v2) ∧ v1.length = i * n ∧ F = F1 ++ (G ++ F2) ∧ p x v G ∧
      RpL p (xs.take i) v1 F1 ∧ RpL p (xs.drop (i + 1)) v2 F2
  | [], _, _, i, _, _, hi => by simp at hi
  | y :: ys, _, _, 0, x, ⟨v1, v2, F1, F2, e1, e2, h1, h2⟩, hi => by
    simp only [List.getElem?_cons_zero, Option.some.injEq] at hi
    subst hi e1 e2
    exact ⟨[], v1, v2, [], F1, F2, rfl, by simp, rfl, h1, ⟨rfl, rfl⟩, h2⟩
  | y :: ys, _, _, i + 1, x, ⟨v1, v2, F1, F2, e1, e2, h1, h2⟩, hi => by
    simp only [List.getElem?_cons_succ] at hi
    obtain ⟨a, v, b, G1, G, G2, e3, hl, e4, hp, ht, hd⟩ := RpL.get hn h2 hi
    subst e1 e2 e3 e4
    refine ⟨v1 ++ a, v, b, F1 ++ G1, G, G2, by simp, ?_, by simp, hp, ⟨v1, a, F1, G1, rfl, rfl, h1, ht⟩, by simpa using hd⟩
    rw [List.length_append, hn _ _ _ h1, hl, Nat.succ_mul]; omega
theorem RpL.set {xs : List α} {i : Nat} {x y : α} (hi : xs[i]? = some x) {v1 v2 v F1 F2 G} (ht : RpL p (xs.take i) v1 F1) (hd : RpL p (xs.drop (i + 1)) v2 F2) (hy : p y v G) :
    RpL p (xs.set i y) (v1 ++ (v ++ v2)) (F1 ++ (G ++ F2)) := by
  have hlt : i < xs.length := (List.getElem?_eq_some_iff.1 hi).1
  rw [List.set_eq_take_append_cons_drop, if_pos hlt]
  exact RpL.append ht ⟨v, v2, G, F2, rfl, rfl, hy, hd⟩
end
theorem Rp.len {w : World} {K : Nat → Prop} : ∀ (t : Ty) (x : t.D) {vs F}, Rp w K t x vs F → vs.length = t.size
  | .int _, _, _, _, h => by simp only [Rp] at h; simp [h.1, Ty.size]
  | .bool, _, _, _, h => by simp only [Rp] at h; simp [h.1, Ty.size]
  | .str, _, _, _, h => by simp only [Rp] at h; simp [h.1, Ty.size]
  | .unit, _, _, _, h => by simp only [Rp] at h; simp [h.1, Ty.size]
  | .pair a b, x, _, _, h => by
    simp only [Rp] at h
    obtain ⟨v1, v2, F1, F2, rfl, _, h1, h2⟩ := h
    simp [Ty.size, Rp.len a _ h1, Rp.len b _ h2]
  | .sl true _ r, _, _, _, h => by
    simp only [Rp] at h
    rcases h with ⟨_, _, rfl⟩ | ⟨g, off, c, cs, fr, F', rfl, _⟩ <;> simp [Ty.size]
  | .sl false _ r, _, _, _, h => by
    simp only [Rp] at h
    obtain ⟨_, A, c, ws, rfl, _⟩ := h
    simp [Ty.size]
def Same (w w' : World) (F : List Nat) : Prop := ∀ g ∈ F, w'.heap[g]? = w.heap[g]?
def KSame (w w' : World) (K K' : Nat → Prop) : Prop := w.heap.size ≤ w'.heap.size ∧ ∀ g, K g → g < w.heap.size → w'.heap[g]? = w.heap[g]? ∧ K' g
theorem KSame.refl (w : World) (K : Nat → Prop) : KSame w w K K := ⟨Nat.le_refl _, fun _ h _ => ⟨rfl, h⟩⟩
theorem cell_same {w w' : World} {a : Addr} (h : w'.heap[a.block]? = w.heap[a.block]?) : w'.cell? a = w.cell? a := by
  unfold World.cell?; rw [h]
theorem add_block (a : Addr) (n : Nat) : (a.add n).block = a.block := by unfold Addr.add; split <;> rfl
theorem Rp.frame {w w' : World} {K K' : Nat → Prop} (hK : KSame w w' K K') : ∀ (t : Ty) (x : t.D) {vs F}, Rp w K t x vs F → Same w w' F → Rp w' K' t x vs F
  | .int _, _, _, _, h, _ => by simp only [Rp] at h ⊢; exact h
  | .bool, _, _, _, h, _ => by simp only [Rp] at h ⊢; exact h
  | .str, _, _, _, h, _ => by simp only [Rp] at h ⊢; exact h
  | .unit, _, _, _, h, _ => by simp only [Rp] at h ⊢; exact h
  | .pair a b, x, _, _, h, hF => by
    simp only [Rp] at h ⊢
    obtain ⟨v1, v2, F1, F2, rfl, rfl, h1, h2⟩ := h
    exact ⟨v1, v2, F1, F2, rfl, rfl, Rp.frame hK a _ h1 fun g hg => hF g (by simp [hg]), Rp.frame hK b _ h2 fun g hg => hF g (by simp [hg])⟩
  | .sl true _ r, xs, _, _, h, hF => by
    simp only [Rp] at h ⊢
    rcases h with h | ⟨g, off, c, cs, fr, F', rfl, rfl, hh, hn, hc, hl, hr⟩
    · exact .inl h
    · refine .inr ⟨g, off, c, cs, fr, F', rfl, rfl, by rw [hF g (by simp)]; exact hh, hn, hc, hl, ?_⟩
      have key : ∀ (ys : List r.D) (us : List Value) (G : List Nat), Same w w' G → RpL (Rp w K r) ys us G → RpL (Rp w' K' r) ys us G := by
        intro ys
        induction ys with
        | nil => intro us G _ h; exact h
        | cons y ys ih =>
          rintro us G hG ⟨v1, v2, F1, F2, rfl, rfl, h1, h2⟩
          exact ⟨v1, v2, F1, F2, rfl, rfl, Rp.frame hK r y h1 fun g hg => hG g (by simp [hg]), ih _ _ (fun g hg => hG g (by simp [hg])) h2⟩
      exact key _ _ _ (fun g hg => hF g (by simp [hg])) hr
  | .sl false _ r, xs, _, _, h, _ => by
    simp only [Rp] at h ⊢
    obtain ⟨rfl, A, c, ws, rfl, hle, hr, hx⟩ := h
    refine ⟨rfl, A, c, ws, rfl, hle, ?_, ?_⟩
    · have key : ∀ (ys : List r.D) (us : List Value) (G : List Nat), Same w w' G → RpL (Rp w K r) ys us G → RpL (Rp w' K' r) ys us G := by
        intro ys
        induction ys with
        | nil => intro us G _ h; exact h
        | cons y ys ih =>
          rintro us G hG ⟨v1, v2, F1, F2, rfl, rfl, h1, h2⟩
          exact ⟨v1, v2, F1, F2, rfl, rfl, Rp.frame hK r y h1 fun g hg => hG g (by simp [hg]), ih _ _ (fun g hg => hG g (by simp [hg])) h2⟩
      exact key _ _ _ (fun g hg => by cases hg) hr
    · rcases hx with hx | ⟨ad, e, h1, h2, h3⟩
      · exact .inl hx
      · obtain ⟨h4, h5⟩ := hK.2 _ h1 h2
        exact .inr ⟨ad, e, h5, Nat.lt_of_lt_of_le h2 hK.1, fun j hj => (cell_same (w := w) (w' := w') (a := ad.add j) (by rw [add_block]; exact h4)).trans (h3 j hj)⟩
theorem RpL.frame {w w' : World} {K K' : Nat → Prop} (hK : KSame w w' K K') (r : Ty) : ∀ (ys : List r.D) (us : List Value) (G : List Nat), Same w w' G → RpL (Rp w K r) ys us G → RpL (Rp w' K' r) ys us G := by
  intro ys
  induction ys with
  | nil => intro us G _ h; exact h
  | cons y ys ih =>
    rintro us G hG ⟨v1, v2, F1, F2, rfl, rfl, h1, h2⟩
    exact ⟨v1, v2, F1, F2, rfl, rfl, Rp.frame hK r y h1 fun g hg => hG g (by simp [hg]), ih _ _ (fun g hg => hG g (by simp [hg])) h2⟩
theorem leaf_cell {w : World} {K : Nat → Prop} {t : Ty} {x : t.D} {vs F} (hs : t.size = 1) (h : Rp w K t x vs F) : ∃ v, vs = [v] := by
  have := Rp.len t x h
  rw [hs] at this
  match vs, this with
  | [v], _ => exact ⟨v, rfl⟩
theorem setCell_leaf {t : Ty} {x z : t.D} (hp : ∀ a b, t ≠ .pair a b) (hu : t ≠ .unit) {u : Ty} {zz : u.D} {y : t.D} (h : setCell t x 0 u zz = some y) : ∃ e : u = t, y = e ▸ zz := by
  cases t with
  | pair a b => exact absurd rfl (hp a b)
  | unit => exact absurd rfl hu
  | _ => simp only [setCell] at h; split at h <;> simp_all
theorem Rp.cell {w : World} {K : Nat → Prop} : ∀ (t : Ty) (x : t.D) (j : Nat) {c : (u : Ty) × u.D} {vs F}, Rp w K t x vs F → cellAt t x j = some c →
    ∃ pre v post Fa G Fb, vs = pre ++ ([v] ++ post) ∧ pre.length = j ∧ F = Fa ++ (G ++ Fb) ∧ Rp w K c.1 c.2 [v] G ∧
      ∀ (w' : World) (K' : Nat → Prop) (y : c.1.D) (v' : Value) (G' : List Nat) (x' : t.D), setCell t x j c.1 y = some x' → Rp w' K' c.1 y [v'] G' → KSame w w' K K' →
        Same w w' Fa → Same w w' Fb → Rp w' K' t x' (pre ++ ([v'] ++ post)) (Fa ++ (G' ++ Fb))
  | .pair a b, (x, y), j, c, vs, F, h, hc => by
    simp only [Rp] at h
    obtain ⟨v1, v2, F1, F2, rfl, rfl, h1, h2⟩ := h
    have l1 := Rp.len a _ h1
    simp only [cellAt] at hc
    split at hc
    · rename_i hj
      obtain ⟨pre, v, post, Fa, G, Fb, rfl, hl, rfl, hv, hset⟩ := Rp.cell a x j h1 hc
      refine ⟨pre, v, post ++ v2, Fa, G, Fb ++ F2, by simp, hl, by simp, hv, ?_⟩
      intro w' K' z v' G' x' hs hz hK sa sb
      simp only [setCell, if_pos hj, Option.map_eq_some_iff] at hs
      obtain ⟨xa, hxa, rfl⟩ := hs
      simp only [Rp]
      refine ⟨pre ++ ([v'] ++ post), v2, Fa ++ (G' ++ Fb), F2, by simp, by simp, hset w' K' z v' G' xa hxa hz hK sa (fun g hg => sb g (by simp [hg])), ?_⟩
      exact Rp.frame hK b _ h2 fun g hg => sb g (by simp [hg])
    · rename_i hj
      obtain ⟨pre, v, post, Fa, G, Fb, rfl, hl, rfl, hv, hset⟩ := Rp.cell b y _ h2 hc
      refine ⟨v1 ++ pre, v, post, F1 ++ Fa, G, Fb, by simp, by rw [List.length_append]; omega, by simp, hv, ?_⟩
      intro w' K' z v' G' x' hs hz hK sa sb
      simp only [setCell, if_neg hj, Option.map_eq_some_iff] at hs
      obtain ⟨xb, hxb, rfl⟩ := hs
      simp only [Rp]
      refine ⟨v1, pre ++ ([v'] ++ post), F1, Fa ++ (G' ++ Fb), by simp, by simp, ?_, hset w' K' z v' G' xb hxb hz hK (fun g hg => sa g (by simp [hg])) sb⟩
      exact Rp.frame hK a _ h1 fun g hg => sa g (by simp [hg])
  | .unit, _, _, _, _, _, _, hc => by simp [cellAt] at hc
  | .int k, x, j, c, vs, F, h, hc => leafCase (fun _ _ => by simp) (by simp) rfl h hc (by cases j <;> simp [cellAt] at hc ⊢)
  | .bool, x, j, c, vs, F, h, hc => leafCase (fun _ _ => by simp) (by simp) rfl h hc (by cases j <;> simp [cellAt] at hc ⊢)
  | .str, x, j, c, vs, F, h, hc => leafCase (fun _ _ => by simp) (by simp) rfl h hc (by cases j <;> simp [cellAt] at hc ⊢)
  | .sl o e r, x, j, c, vs, F, h, hc => leafCase (fun _ _ => by simp) (by simp) rfl h hc (by cases j <;> simp [cellAt] at hc ⊢)
where
  leafCase {w : World} {K : Nat → Prop} {t : Ty} {x : t.D} {j : Nat} {c : (u : Ty) × u.D} {vs F} (hp : ∀ a b, t ≠ .pair a b) (hu : t ≠ .unit) (hs : t.size = 1)
      (h : Rp w K t x vs F) (hc : cellAt t x j = some c) (hj : j = 0) :
      ∃ pre v post Fa G Fb, vs = pre ++ ([v] ++ post) ∧ pre.length = j ∧ F = Fa ++ (G ++ Fb) ∧ Rp w K c.1 c.2 [v] G ∧
        ∀ (w' : World) (K' : Nat → Prop) (y : c.1.D) (v' : Value) (G' : List Nat) (x' : t.D), setCell t x j c.1 y = some x' → Rp w' K' c.1 y [v'] G' → KSame w w' K K' →
          Same w w' Fa → Same w w' Fb → Rp w' K' t x' (pre ++ ([v'] ++ post)) (Fa ++ (G' ++ Fb)) := by
    subst hj
    have hct : c = ⟨t, x⟩ := by
      cases t with
      | pair a b => exact absurd rfl (hp a b)
      | unit => exact absurd rfl hu
      | _ => simp only [cellAt, Option.some.injEq] at hc; exact hc.symm
    subst hct
    obtain ⟨v, rfl⟩ := leaf_cell hs h
    refine ⟨[], v, [], [], F, [], by simp, rfl, by simp, h, ?_⟩
    intro w' K' y v' G' x' hset hy _ _ _
    obtain ⟨e, rfl⟩ := setCell_leaf (z := x) hp hu hset
    simpa using hy
def adr (w : World) (h : Value) : Ty → Steps → Option Addr
  | .sl _ _ r, (i, j) :: ps => match h with
    | .slice (some a) _ _ => match ps with
      | [] => some (a.add (i * r.size + j))
      | p :: ps => match w.cell? (a.add (i * r.size + j)), cty r j with
        | some h', some t' => adr w h' t' (p :: ps)
        | _, _ => none
    | _ => none
  | _, _ => none
where
  cty : Ty → Nat → Option Ty
    | .pair a b, j => if j < a.size then cty a j else cty b (j - a.size)
    | .unit, _ => none
    | t, 0 => some t
    | _, _ + 1 => none
def hdr (w : World) (h : Value) (t : Ty) : Steps → Option Value
  | [] => some h
  | st => match adr w h t st with
    | some a => w.cell? a
    | none => none
theorem cty_cell : ∀ (t : Ty) (x : t.D) (j : Nat) {c}, cellAt t x j = some c → adr.cty t j = some c.1
  | .pair a b, (x, y), j, c, h => by
    simp only [cellAt] at h; simp only [adr.cty]
    split at h
    · rename_i hj; rw [if_pos hj]; exact cty_cell a x j h
    · rename_i hj; rw [if_neg hj]; exact cty_cell b y _ h
  | .unit, _, _, _, h => by simp [cellAt] at h
  | .int _, _, 0, _, h => by simp only [cellAt, Option.some.injEq] at h; subst h; rfl
  | .bool, _, 0, _, h => by simp only [cellAt, Option.some.injEq] at h; subst h; rfl
  | .str, _, 0, _, h => by simp only [cellAt, Option.some.injEq] at h; subst h; rfl
  | .sl _ _ _, _, 0, _, h => by simp only [cellAt, Option.some.injEq] at h; subst h; rfl
  | .int _, _, _ + 1, _, h => by simp [cellAt] at h
  | .bool, _, _ + 1, _, h => by simp [cellAt] at h
  | .str, _, _ + 1, _, h => by simp [cellAt] at h
  | .sl _ _ _, _, _ + 1, _, h => by simp [cellAt] at h
theorem run_get {α β : Type} (o : Option β) (f : β → Tr α) : (Tr.get β o f).run = o.bind fun b => (f b).run := by cases o <;> rfl
theorem run_bind {α β : Type} (t : Tr α) (f : α → Tr β) : (t.bind f).run = t.run.bind fun x => (f x).run := by
  induction t with
  | ret a => rfl
  | fail => rfl
  | br c t e ih1 ih2 => simp only [Tr.bind, Tr.run]; split <;> assumption
  | get γ o g ih => cases o <;> simp [Tr.bind, Tr.run, ih]
  | alt γ δ s g h ih1 ih2 => cases s <;> simp [Tr.bind, Tr.run, ih1, ih2]
  | rdO k g ih => rfl
  | rdC k off g ih => rfl
  | rdM k g ih => rfl
theorem take_drop_mid {α : Type} (cs : List α) (off n : Nat) (a v b : List α) (h : (cs.drop off).take n = a ++ (v ++ b)) (j : Nat) (hj : j < v.length) : cs[off + a.length + j]? = v[j]? := by
  have h1 : ((cs.drop off).take n)[a.length + j]? = v[j]? := by
    rw [h, List.getElem?_append_right (by omega), List.getElem?_append_left (by omega)]
    congr 1; omega
  rw [← h1, List.getElem?_take, List.getElem?_drop]
  have : a.length + j < n := by
    have := congrArg List.length h
    simp only [List.length_take, List.length_append] at this
    have h3 : (cs.drop off).length = cs.length - off := List.length_drop ..
    rcases Nat.lt_or_ge (a.length + j) n with h4 | h4
    · exact h4
    · omega
  rw [if_pos this]; congr 1; omega
theorem Rp.elem {w : World} {K : Nat → Prop} {e : TypeId} {r : Ty} {xs : List r.D} {h : Value} {F : List Nat} (hp : Rp w K (.sl true e r) xs [h] F) {i j : Nat} {row : r.D} {c : (u : Ty) × u.D}
    (hi : xs[i]? = some row) (hc : cellAt r row j = some c) :
    ∃ (g off cap : Nat) (cs : Array Value) (fr : Nat × Nat) (v : Value) (F1 Fa G Fb F2 : List Nat), h = .slice (some ⟨g, off, none⟩) xs.length cap ∧ F = g :: (F1 ++ ((Fa ++ (G ++ Fb)) ++ F2)) ∧ w.heap[g]? = some (.cells cs e fr) ∧ NF fr cs.size ∧
      off + cap * r.size ≤ cs.size ∧ xs.length ≤ cap ∧
      cs[off + (i * r.size + j)]? = some v ∧ off + (i * r.size + j) < cs.size ∧ Rp w K c.1 c.2 [v] G ∧
      ∀ (w' : World) (K' : Nat → Prop) (y : c.1.D) (v' : Value) (G' : List Nat) (row' : r.D) (cs' : Array Value), setCell r row j c.1 y = some row' → Rp w' K' c.1 y [v'] G' → KSame w w' K K' →
        w'.heap[g]? = some (.cells cs' e fr) → cs' = cs.setIfInBounds (off + (i * r.size + j)) v' → Same w w' F1 → Same w w' Fa → Same w w' Fb → Same w w' F2 →
        Rp w' K' (.sl true e r) (xs.set i row') [h] (g :: (F1 ++ ((Fa ++ (G' ++ Fb)) ++ F2))) := by
  simp only [Rp] at hp
  rcases hp with ⟨rfl, _⟩ | ⟨g, off, cap, cs, fr, F', hh, rfl, hg, hn, hoff, hlen, hr⟩
  · simp at hi
  obtain ⟨v1, v, v2, F1, G0, F2, hw, hl, rfl, hrow, ht, hd⟩ := RpL.get (fun x vs F h => Rp.len r x h) hr hi
  obtain ⟨pre, u, post, Fa, G, Fb, rfl, hpl, rfl, hu, hset⟩ := Rp.cell r row j hrow hc
  have hcell : cs[off + (i * r.size + j)]? = some u := by
    have := take_drop_mid cs.toList off _ v1 (pre ++ ([u] ++ post)) v2 hw pre.length (by simp)
    rw [List.getElem?_append_right (by omega)] at this
    simp only [Nat.sub_self, List.cons_append, List.nil_append, List.getElem?_cons_zero] at this
    rw [hl, hpl] at this
    rw [← Array.getElem?_toList, ← this]; congr 1; omega
  have hlt : off + (i * r.size + j) < cs.size := (Array.getElem?_eq_some_iff.1 hcell).1
  have hil : i < xs.length := (List.getElem?_eq_some_iff.1 hi).1
  injection hh with hh _
  refine ⟨g, off, cap, cs, fr, u, F1, Fa, G, Fb, F2, hh, rfl, hg, hn, hoff, hlen, hcell, hlt, hu, ?_⟩
  intro w' K' y v' G' row' cs' hs hy hK hg' hcs s1 sa sb s2
  subst hcs
  simp only [Rp]
  refine .inr ⟨g, off, cap, _, fr, _, by rw [List.length_set, hh], rfl, hg', by simpa using hn, by simpa using hoff, by simpa using hlen, ?_⟩
  have hnew := RpL.set hi (RpL.frame hK r _ _ _ s1 ht) (RpL.frame hK r _ _ _ s2 hd) (hset w' K' y v' G' row' hs hy hK sa sb)
  rw [List.length_set]
  have : ((cs.setIfInBounds (off + (i * r.size + j)) v').toList.drop off).take (xs.length * r.size) = v1 ++ ((pre ++ ([v'] ++ post)) ++ v2) := by
    rw [Array.toList_setIfInBounds, List.drop_set, if_neg (by omega), List.take_set, hw]
    have h1 : v1 ++ ((pre ++ ([u] ++ post)) ++ v2) = (v1 ++ pre) ++ u :: (post ++ v2) := by simp
    have h2 : v1 ++ ((pre ++ ([v'] ++ post)) ++ v2) = (v1 ++ pre) ++ v' :: (post ++ v2) := by simp
    rw [h1, h2, List.set_append_right _ _ (by rw [List.length_append]; omega)]
    have h3 : off + (i * r.size + j) - off - (v1 ++ pre).length = 0 := by rw [List.length_append]; omega
    rw [h3]; rfl
  rw [this]
  exact hnew
theorem getT_run_cons {e : TypeId} {r : Ty} {xs : List r.D} {i j : Nat} {ps : Steps} {c : (u : Ty) × u.D} (h : (getT (.sl true e r) xs ((i, j) :: ps)).run = some c) :
    ∃ row d, xs[i]? = some row ∧ cellAt r row j = some d ∧ (getT d.1 d.2 ps).run = some c := by
  simp only [getT, run_get, Option.bind_eq_some_iff] at h
  obtain ⟨row, hrow, h⟩ := h
  split at h
  · rename_i d hd; exact ⟨row, d, hrow, hd, h⟩
  · simp [Tr.run] at h
theorem nodup_mid {g : Nat} {F1 Fa G Fb F2 : List Nat} (hnd : (g :: (F1 ++ ((Fa ++ (G ++ Fb)) ++ F2))).Nodup) : G.Nodup := by
  rw [List.nodup_cons] at hnd
  have h1 := hnd.2
  rw [List.nodup_append] at h1
  have h2 := h1.2.1
  rw [List.nodup_append] at h2
  have h3 := h2.1
  rw [List.nodup_append] at h3
  have h4 := h3.2.1
  rw [List.nodup_append] at h4
  exact h4.1
theorem Rp.reach {w : World} {K : Nat → Prop} : ∀ (st : Steps) (t : Ty) (x : t.D) {h : Value} {F : List Nat} {c : (u : Ty) × u.D}, Rp w K t x [h] F → (getT t x st).run = some c →
    ∃ h' F', hdr w h t st = some h' ∧ Rp w K c.1 c.2 [h'] F' ∧ (∀ g ∈ F', g ∈ F) ∧ (F.Nodup → F'.Nodup) ∧ (st ≠ [] → ∃ a, adr w h t st = some a ∧ w.cell? a = some h' ∧ a.block ∈ F ∧ a.spot = none ∧ w.frozen? a = false)
  | [], t, x, h, F, c, hp, hg => by
    simp only [getT, Tr.run, Option.some.injEq] at hg
    subst hg
    exact ⟨h, F, rfl, hp, fun _ hg => hg, fun h => h, fun hne => absurd rfl hne⟩
  | (i, j) :: ps, t, x, h, F, c, hp, hg => by
    match t, x, hp, hg with
    | .sl true e r, xs, hp, hg =>
      obtain ⟨row, d, hrow, hd, hrest⟩ := getT_run_cons hg
      obtain ⟨g, off, cap, cs, fr, v, F1, Fa, G, Fb, F2, rfl, rfl, hh, hn, _, _, hcell, hlt, hv, _⟩ := Rp.elem hp hrow hd
      have hc? : w.cell? ⟨g, off + (i * r.size + j), none⟩ = some v := by rw [cell_blk hh]; exact hcell
      obtain ⟨h', F', hhd, hp', hsub, hnod, hne⟩ := Rp.reach ps d.1 d.2 hv hrest
      refine ⟨h', F', ?_, hp', ?_, fun hx => hnod (nodup_mid hx), ?_⟩
      · cases ps with
        | nil =>
          simp only [hdr, Option.some.injEq] at hhd
          subst hhd
          simp only [hdr, adr, add_blk]; exact hc?
        | cons p ps =>
          simp only [hdr, adr, add_blk, hc?, cty_cell r row j hd]
          simpa only [hdr] using hhd
      · intro b hb
        have := hsub b hb
        simp [*]
      · intro _
        cases ps with
        | nil =>
          simp only [hdr, Option.some.injEq] at hhd
          subst hhd
          exact ⟨⟨g, off + (i * r.size + j), none⟩, by simp only [adr, add_blk], hc?, by simp, rfl, frozen_blk hh hn hlt⟩
        | cons p ps =>
          obtain ⟨a, ha, h1, h2, h3, h4⟩ := hne (by simp)
          refine ⟨a, by simp only [adr, add_blk, hc?, cty_cell r row j hd]; exact ha, h1, ?_, h3, h4⟩
          simp [*]
    | .sl false _ _, _, _, hg => simp [getT, Tr.run] at hg
    | .int _, _, _, hg => simp [getT, Tr.run] at hg
    | .bool, _, _, hg => simp [getT, Tr.run] at hg
    | .str, _, _, hg => simp [getT, Tr.run] at hg
    | .unit, _, _, hg => simp [getT, Tr.run] at hg
    | .pair _ _, _, _, hg => simp [getT, Tr.run] at hg
theorem adr_one {w w' : World} {h : Value} {t : Ty} {p : Nat × Nat} : adr w' h t [p] = adr w h t [p] := by
  cases t with
  | sl o e r =>
    cases h with
    | slice A _ _ => cases A <;> rfl
    | _ => rfl
  | _ => rfl
theorem Rp.put {w : World} {K : Nat → Prop} : ∀ (st : Steps) (t : Ty) (x : t.D) {h : Value} {F : List Nat} {c : (u : Ty) × u.D} {z : c.1.D} {y : t.D}, st ≠ [] → Rp w K t x [h] F → F.Nodup → (getT t x st).run = some c → (setT t x st c.1 z).run = some y →
    ∃ a h' Fa G Fb, adr w h t st = some a ∧ w.cell? a = some h' ∧ a.spot = none ∧ F = Fa ++ (G ++ Fb) ∧ a.block ∈ Fa ∧ Rp w K c.1 c.2 [h'] G ∧ w.frozen? a = false ∧
      ∀ (w' : World) (K' : Nat → Prop) (v' : Value) (G' : List Nat), Rp w' K' c.1 z [v'] G' → KSame w w' K K' → w'.heap[a.block]? = (w.setCell a v').heap[a.block]? →
        (∀ g ∈ Fa ++ Fb, g ≠ a.block → w'.heap[g]? = w.heap[g]?) → Rp w' K' t y [h] (Fa ++ (G' ++ Fb)) ∧ ∀ n, adr w' h t (bump st n) = adr w h t (bump st n)
  | [], _, _, _, _, _, _, _, hne, _, _, _, _ => absurd rfl hne
  | (i, j) :: ps, t, x, h, F, c, z, y, _, hp, hnd, hg, hs => by
    match t, x, y, hp, hg, hs with
    | .sl true e r, xs, y, hp, hg, hs =>
      obtain ⟨row, d, hrow, hd, hrest⟩ := getT_run_cons hg
      have hs' : ∃ yy row', (setT d.1 d.2 ps c.1 z).run = some yy ∧ setCell r row j d.1 yy = some row' ∧ y = (xs : List r.D).set i row' := by
        simp only [setT, run_get, Option.bind_eq_some_iff] at hs
        obtain ⟨row2, hrow2, hs⟩ := hs
        obtain rfl : row = row2 := by rw [hrow] at hrow2; injection hrow2
        rw [hd] at hs
        simp only [run_bind, Option.bind_eq_some_iff] at hs
        obtain ⟨yy, h1, hs⟩ := hs
        split at hs
        · rename_i row' hr; simp only [Tr.run, Option.some.injEq] at hs; exact ⟨yy, row', h1, hr, hs.symm⟩
        · simp [Tr.run] at hs
      obtain ⟨yy, row', hsy, hset, rfl⟩ := hs'
      obtain ⟨g, off, cap, cs, fr, v, F1, Fa, G, Fb, F2, rfl, rfl, hh, hn, hcap, hlen, hcell, hlt, hv, hput⟩ := Rp.elem hp hrow hd
      have hc? : w.cell? ⟨g, off + (i * r.size + j), none⟩ = some v := by rw [cell_blk hh]; exact hcell
      cases ps with
      | nil =>
        simp only [getT, Tr.run, Option.some.injEq] at hrest
        subst hrest
        simp only [setT] at hsy
        split at hsy
        · simp only [Tr.run, Option.some.injEq] at hsy
          subst hsy
          refine ⟨⟨g, off + (i * r.size + j), none⟩, v, g :: (F1 ++ Fa), G, Fb ++ F2, by simp only [adr, add_blk], hc?, rfl, by simp, by simp, hv, frozen_blk hh hn hlt, ?_⟩
          intro w' K' v' G' hz hK hblk hrest
          have hnd' : ∀ b, b ∈ F1 ∨ b ∈ Fa ∨ b ∈ Fb ∨ b ∈ F2 → b ≠ g := by
            rintro b hb rfl
            rw [List.nodup_cons] at hnd
            apply hnd.1
            simp only [List.mem_append]
            rcases hb with hb | hb | hb | hb <;> simp [hb]
          have hnew : w'.heap[g]? = some (.cells (cs.setIfInBounds (off + (i * r.size + j)) v') e fr) := by
            rw [hblk]; exact setCell_blk hh _ _
          have := hput w' K' z v' G' row' _ hset hz hK hnew rfl (fun b hb => hrest b (by simp [hb]) (hnd' b (by simp [hb]))) (fun b hb => hrest b (by simp [hb]) (hnd' b (by simp [hb])))
            (fun b hb => hrest b (by simp [hb]) (hnd' b (by simp [hb]))) (fun b hb => hrest b (by simp [hb]) (hnd' b (by simp [hb])))
          exact ⟨by simpa using this, fun n => adr_one⟩
        · simp [Tr.run] at hsy
      | cons p ps =>
        have hndG : G.Nodup := nodup_mid hnd
        obtain ⟨a, h', Ga, G0, Gb, ha, h1, h2, rfl, hain, hG0, h4, hset2⟩ := Rp.put (p :: ps) d.1 d.2 (by simp) hv hndG hrest hsy
        have hag : a.block ≠ g := by
          rintro rfl
          rw [List.nodup_cons] at hnd
          apply hnd.1
          simp [hain]
        have hout : ∀ b, b ∈ F1 ∨ b ∈ Fa ∨ b ∈ Fb ∨ b ∈ F2 → b ≠ a.block := by
          rintro b hb rfl
          rw [List.nodup_cons] at hnd
          have hn2 := hnd.2
          have hA : ∀ (X Y : List Nat), (X ++ Y).Nodup → ∀ q, q ∈ X → q ∈ Y → False := fun X Y hXY q hX hY => (List.nodup_append.1 hXY).2.2 q hX q hY rfl
          rcases hb with hb | hb | hb | hb
          · exact hA F1 _ hn2 a.block hb (by simp [hain])
          · have h5 := (List.nodup_append.1 hn2).2.1
            have h6 := (List.nodup_append.1 h5).1
            exact hA Fa _ h6 a.block hb (by simp [hain])
          · have h5 := (List.nodup_append.1 hn2).2.1
            have h6 := (List.nodup_append.1 h5).1
            have h7 := (List.nodup_append.1 h6).2.1
            exact hA _ Fb h7 a.block (by simp [hain]) hb
          · have h5 := (List.nodup_append.1 hn2).2.1
            exact hA _ F2 h5 a.block (by simp [hain]) hb
        refine ⟨a, h', g :: (F1 ++ (Fa ++ Ga)), G0, Gb ++ (Fb ++ F2), by simp only [adr, add_blk, hc?, cty_cell r row j hd]; exact ha, h1, h2, by simp, by simp [hain], hG0, h4, ?_⟩
        intro w' K' v' G' hz hK hblk hrest2
        obtain ⟨hinner, hadr⟩ := hset2 w' K' v' G' hz hK hblk (fun b hb hne => hrest2 b (by simp only [List.mem_append, List.mem_cons] at hb ⊢; rcases hb with hb | hb <;> simp [hb]) hne)
        have hgs : w'.heap[g]? = some (.cells cs e fr) := by rw [hrest2 g (by simp) (Ne.symm hag)]; exact hh
        have hsame : cs = cs.setIfInBounds (off + (i * r.size + j)) v := by
          apply Array.ext_getElem?
          intro m
          rw [Array.getElem?_setIfInBounds]
          split
          · subst_vars; first | exact hcell | (rw [if_pos hlt]; exact hcell)
          · rfl
        have := hput w' K' yy v (Ga ++ (G' ++ Gb)) row' cs hset hinner hK hgs hsame (fun b hb => hrest2 b (by simp [hb]) (hout b (by simp [hb]))) (fun b hb => hrest2 b (by simp [hb]) (hout b (by simp [hb])))
            (fun b hb => hrest2 b (by simp [hb]) (hout b (by simp [hb]))) (fun b hb => hrest2 b (by simp [hb]) (hout b (by simp [hb])))
        refine ⟨by simpa using this, fun n => ?_⟩
        have hc2 : w'.cell? ⟨g, off + (i * r.size + j), none⟩ = some v := by rw [cell_blk hgs]; exact hcell
        have hb : bump ((i, j) :: p :: ps) n = (i, j) :: bump (p :: ps) n := rfl
        obtain ⟨q', ps', hq⟩ : ∃ q' ps', bump (p :: ps) n = q' :: ps' := by
          cases ps with
          | nil => obtain ⟨x, y⟩ := p; exact ⟨_, _, rfl⟩
          | cons q2 ps => exact ⟨_, _, rfl⟩
        have := hadr n
        rw [hb]
        rw [hq] at this ⊢
        simp only [adr, add_blk, hc?, hc2, cty_cell r row j hd]
        exact this
    | .sl false _ _, _, _, _, hg, _ => simp [getT, Tr.run] at hg
    | .int _, _, _, _, hg, _ => simp [getT, Tr.run] at hg
    | .bool, _, _, _, hg, _ => simp [getT, Tr.run] at hg
    | .str, _, _, _, hg, _ => simp [getT, Tr.run] at hg
    | .unit, _, _, _, hg, _ => simp [getT, Tr.run] at hg
    | .pair _ _, _, _, _, hg, _ => simp [getT, Tr.run] at hg
end Go.V
