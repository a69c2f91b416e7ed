import GoSem.Dispatch
import Derived.Calls
import Derived.Lib.AtoiAll
import Derived.IntWalk
import Derived.Lib.ItoaNum
namespace Go.V
inductive Ty where
  | int (k : IntKind) | bool | str | unit
  | pair (a b : Ty)
  | sl (o : Bool) (e : TypeId) (r : Ty)
  | pt (t : Ty)
  | er
  deriving DecidableEq
@[reducible] def Ty.D : Ty → Type
  | .int _ => Int
  | .bool => Bool
  | .str => List UInt8
  | .unit => Unit
  | .pair a b => a.D × b.D
  | .sl _ _ r => List r.D
  | .pt t => Option t.D
  | .er => Bool
def Ty.size : Ty → Nat
  | .unit => 0
  | .pair a b => a.size + b.size
  | _ => 1
def Ty.zero : (t : Ty) → t.D
  | .int _ => (0 : Int)
  | .bool => false
  | .str => ([] : List UInt8)
  | .unit => ()
  | .pair a b => (a.zero, b.zero)
  | .sl _ _ _ => []
  | .pt _ => none
  | .er => false
def Ty.ro : Ty → Bool
  | .pair a b => a.ro && b.ro
  | .sl o _ _ => !o
  | _ => true
def Ty.deep : Ty → Bool
  | .pair a b => a.deep && b.deep
  | .sl o _ r => o && r.deep
  | _ => true
def Ty.frz : Ty → Ty
  | .pair a b => .pair a.frz b.frz
  | .sl _ e r => .sl false e r.frz
  | t => t
theorem Ty.frz_D : (t : Ty) → t.frz.D = t.D
  | .int _ | .bool | .str | .unit | .pt _ | .er => rfl
  | .pair a b => by
    have h1 := frz_D a; have h2 := frz_D b
    show (a.frz.D × b.frz.D) = (a.D × b.D)
    rw [h1, h2]
  | .sl _ _ r => by
    have h := frz_D r
    show List r.frz.D = List r.D
    rw [h]
def toFrz (t : Ty) (x : t.D) : t.frz.D := cast (Ty.frz_D t).symm x
def cellAt : (t : Ty) → t.D → Nat → Option ((u : Ty) × u.D)
  | .pair a b, (x, y), j => if j < a.size then cellAt a x j else cellAt b y (j - a.size)
  | .unit, _, _ => none
  | t, x, 0 => some ⟨t, x⟩
  | _, _, _ + 1 => none
def setCell : (t : Ty) → t.D → Nat → (u : Ty) → u.D → Option t.D
  | .pair a b, (x, y), j, u, z =>
    if j < a.size then (setCell a x j u z).map fun x' => (x', y) else (setCell b y (j - a.size) u z).map fun y' => (x, y')
  | .unit, _, _, _, _ => none
  | t, _, 0, u, z => if h : u = t then some (h ▸ z) else none
  | _, _, _ + 1, _, _ => none
abbrev Steps := List (Nat × Nat)
structure Own where
  e : TypeId
  r : Ty
  xs : List r.D
inductive Leaf where
  | v (t : Ty) (x : t.D)
  | vw (k : Nat) (st : Steps) (win : Option (Nat × Nat))
  | qn (e : Bool)
  | nil
  | no
inductive S1 where
  | one (l : Leaf)
  | ag (ls : List Leaf)
  | pl (k off : Nat)
  | el (k : Nat) (st : Steps)
  | rp (t : Ty) (x : t.D) (off : Nat)
  | fv (f : FuncId) (cs : List (Nat × Nat))
inductive SV where
  | s (x : S1)
  | tu (xs : List S1)
  | un
  | no
structure St where
  sl : Nat → SV
  ms : Nat → Option Nat
  mc : Nat → Nat → Leaf
  ow : Nat → Option Own
inductive Kl where
  | all (k : Nat) | deep (k : Nat) | m (k : Nat)
def Kl.okV : Kl → Nat → Steps → Bool
  | .all k, k', _ => !(k' == k)
  | .deep k, k', st => !(k' == k) || st.isEmpty
  | .m _, _, _ => true
def Kl.okE : Kl → Nat → Steps → Bool
  | .all k, k', _ => !(k' == k)
  | .deep k, k', st => !(k' == k) || decide (st.length ≤ 1)
  | .m _, _, _ => true
def Kl.okM : Kl → Nat → Bool
  | .m k, k' => !(k' == k)
  | _, _ => true
def Leaf.kp (c : List Kl) : Leaf → Leaf
  | .vw k st win => if c.all (fun x => x.okV k st) then .vw k st win else .no
  | l => l
def S1.kp (c : List Kl) : S1 → S1
  | .one l => .one (l.kp c)
  | .ag ls => .ag (ls.map (Leaf.kp c))
  | .pl k off => if c.all (fun x => x.okM k) then .pl k off else .one .no
  | .el k st => if c.all (fun x => x.okE k st) then .el k st else .one .no
  | .rp t x off => .rp t x off
  | .fv f cs => if c.all (fun x => cs.all fun p => x.okM p.1) then .fv f cs else .one .no
def SV.kp (c : List Kl) : SV → SV
  | .s x => .s (x.kp c)
  | .tu xs => .tu (xs.map (S1.kp c))
  | .un => .un
  | .no => .no
def St.kp (c : List Kl) (S : St) : St :=
  match c with
  | [] => S
  | c => ⟨fun i => (S.sl i).kp c, S.ms, fun k i => (S.mc k i).kp c, S.ow⟩
inductive U where
  | ow (k : Nat) (o : Option Own)
  | mc (k off : Nat) (l : Leaf)
  | ms (k : Nat) (row : List Leaf)
def St.up (S : St) : U → St
  | .ow k o => ⟨S.sl, S.ms, S.mc, fun i => if i = k then o else S.ow i⟩
  | .mc k off l => ⟨S.sl, S.ms, fun i j => if i = k then (if j = off then l else S.mc i j) else S.mc i j, S.ow⟩
  | .ms k row => ⟨S.sl, fun i => if i = k then some row.length else S.ms i, fun i j => if i = k then row.getD j .no else S.mc i j, S.ow⟩
def St.ups (S : St) : List U → St
  | [] => S
  | u :: us => (S.up u).ups us
def St.put (S : St) (d : Nat) (x : SV) : St := ⟨fun i => if i = d then x else S.sl i, S.ms, S.mc, S.ow⟩
def St.putO (S : St) (d : Option Nat) (x : SV) : St := match d with | some d => S.put d x | none => S
structure Out where
  x : SV
  ks : List Kl
  us : List U
def St.app (S : St) (d : Option Nat) (o : Out) : St := ((S.kp o.ks).ups o.us).putO d o.x
inductive Tr (α : Type) : Type 1 where
  | ret (a : α)
  | fail
  | br (c : Bool) (t e : Tr α)
  | get (β : Type) (o : Option β) (f : β → Tr α)
  | alt (β γ : Type) (s : β ⊕ γ) (f : β → Tr α) (g : γ → Tr α)
  | rdO (k : Nat) (f : Option Own → Tr α)
  | rdC (k off : Nat) (f : Leaf → Tr α)
  | rdM (k : Nat) (f : Option Nat → Tr α)
def Tr.bind {α β : Type} : Tr α → (α → Tr β) → Tr β
  | .ret a, f => f a
  | .fail, _ => .fail
  | .br c t e, f => .br c (t.bind f) (e.bind f)
  | .get γ o g, f => .get γ o fun b => (g b).bind f
  | .alt γ δ s g h, f => .alt γ δ s (fun b => (g b).bind f) (fun b => (h b).bind f)
  | .rdO k g, f => .rdO k fun b => (g b).bind f
  | .rdC k off g, f => .rdC k off fun b => (g b).bind f
  | .rdM k g, f => .rdM k fun b => (g b).bind f
inductive Lg where
  | o (k : Nat) | c (k off : Nat) (l : Leaf) | m (k : Nat)
def Tr.at {α : Type} (S : St) : Tr α → List Lg → Tr (α × List Lg)
  | .ret a, g => .ret (a, g)
  | .fail, _ => .fail
  | .br c t e, g => .br c (t.at S g) (e.at S g)
  | .get γ o f, g => .get γ o fun b => (f b).at S g
  | .alt γ δ s f h, g => .alt γ δ s (fun b => (f b).at S g) (fun b => (h b).at S g)
  | .rdO k f, g => (f (S.ow k)).at S (.o k :: g)
  | .rdC k off f, g => (f (S.mc k off)).at S (.c k off (S.mc k off) :: g)
  | .rdM k f, g => (f (S.ms k)).at S (.m k :: g)
def Tr.run {α : Type} : Tr α → Option α
  | .ret a => some a
  | .fail => none
  | .br c t e => if c = true then t.run else e.run
  | .get _ o f => match o with
    | some b => (f b).run
    | none => none
  | .alt _ _ s f g => match s with
    | .inl b => (f b).run
    | .inr b => (g b).run
  | .rdO .. | .rdC .. | .rdM .. => none
abbrev Tr.iff {α : Type} (c : Bool) (t : Tr α) : Tr α := .br c t .fail
abbrev Tr.opt {α : Type} (o : Option α) : Tr α := match o with | some a => .ret a | none => .fail
inductive TI where
  | cell (t : Ty)
  | slice (e : TypeId) (ts : List Ty) (bytes : Nat)
  | struct (fs : List (Nat × Nat × Bool)) (row : List Ty) (eq : Bool)
  | ptr (e : TypeId)
  | err
  | other
def rowTy : List Ty → Ty
  | [] => .unit
  | [t] => t
  | t :: u :: ts => .pair t (rowTy (u :: ts))
def TI.cells : TI → Option (List Ty)
  | .cell t => some [t]
  | .slice e ts _ => some [.sl true e (rowTy ts)]
  | .struct _ row _ => some row
  | _ => none
def TI.isAgg : TI → Bool
  | .struct .. => true
  | _ => false
def getT : (t : Ty) → t.D → Steps → Tr ((u : Ty) × u.D)
  | t, x, [] => .ret ⟨t, x⟩
  | .sl true _ r, xs, (i, j) :: ps => .get r.D ((xs : List r.D)[i]?) fun row => match cellAt r row j with
      | some c => getT c.1 c.2 ps
      | none => .fail
  | _, _, _ :: _ => .fail
def setT : (t : Ty) → t.D → Steps → (u : Ty) → u.D → Tr t.D
  | t, _, [], u, z => if h : u = t then .ret (h ▸ z) else .fail
  | .sl true _ r, xs, (i, j) :: ps, u, z => .get r.D ((xs : List r.D)[i]?) fun row => match cellAt r row j with
      | some c => (setT c.1 c.2 ps u z).bind fun y => match setCell r row j c.1 y with
        | some row' => .ret ((xs : List r.D).set i row')
        | none => .fail
      | none => .fail
  | _, _, _ :: _, _, _ => .fail
def viewT (k : Nat) (st : Steps) (win : Option (Nat × Nat)) : Tr Own :=
  .rdO k fun o => match o with
    | some o => (getT (.sl true o.e o.r) o.xs st).bind fun c => match c with
      | ⟨.sl true e r, ys⟩ => match win with
        | none => .ret ⟨e, r, ys⟩
        | some (lo, n) => .ret ⟨e, r, ((ys : List r.D).drop lo).take n⟩
      | _ => .fail
    | none => .fail
def leafOf (k : Nat) (st : Steps) : (t : Ty) → t.D → Leaf
  | .sl true _ _, _ => .vw k st none
  | t, x => .v t x
def bump : Steps → Nat → Steps
  | [], _ => []
  | [(i, j)], n => [(i, j + n)]
  | p :: q :: ps, n => p :: bump (q :: ps) n
def ldCell : S1 → Nat → Tr Leaf
  | .pl k off, n => .rdM k fun m => match m with
    | some m => if off + n < m then .rdC k (off + n) fun l => match l with
      | .no => .fail
      | l => .ret l else .fail
    | none => .fail
  | .el k st, n => .rdO k fun o => match o with
    | some o => (getT (.sl true o.e o.r) o.xs (bump st n)).bind fun c => .ret (leafOf k (bump st n) c.1 c.2)
    | none => .fail
  | .rp t x off, n => match cellAt t x (off + n) with
    | some c => .ret (.v c.1 c.2)
    | none => .fail
  | _, _ => .fail
def ldCells (a : S1) : Nat → Nat → Tr (List Leaf)
  | 0, _ => .ret []
  | n + 1, i => (ldCell a i).bind fun l => (ldCells a n (i + 1)).bind fun ls => .ret (l :: ls)
def absorb (t : Ty) : Leaf → Tr (t.D × List Nat)
  | .v u x => if h : u = t then .ret (h ▸ x, []) else .fail
  | .nil => match t with
    | .sl _ _ _ => .ret ([], [])
    | _ => .fail
  | .vw k [] win => (viewT k [] win).bind fun o => if h : Ty.sl true o.e o.r = t then .ret (h ▸ o.xs, [k]) else .fail
  | _ => .fail
def absorbRow : (ts : List Ty) → List Leaf → Tr ((rowTy ts).D × List Nat)
  | [], [] => .ret ((), [])
  | [t], [l] => absorb t l
  | t :: u :: ts, l :: ls => (absorb t l).bind fun x => (absorbRow (u :: ts) ls).bind fun y => .ret ((x.1, y.1), x.2 ++ y.2)
  | _, _ => .fail
def gone (ks : List Nat) : List Kl := ks.map .all
def goneU (ks : List Nat) : List U := ks.map fun k => .ow k none
def unlike : List Nat → Bool
  | [] => true
  | k :: ks => !(ks.contains k) && unlike ks
def stEls (o : Own) (st : Steps) : List Leaf → Nat → Tr (Own × List Nat)
  | [], _ => .ret (o, [])
  | l :: ls, n => (getT (.sl true o.e o.r) o.xs (bump st n)).bind fun c => (absorb c.1 l).bind fun z =>
      (setT (.sl true o.e o.r) o.xs (bump st n) c.1 z.1).bind fun ys => (stEls ⟨o.e, o.r, ys⟩ st ls (n + 1)).bind fun r => .ret (r.1, z.2 ++ r.2)
def stPls (k : Nat) : List Leaf → Nat → List U
  | [], _ => []
  | l :: ls, n => .mc k n l :: stPls k ls (n + 1)
def stSelf (k : Nat) (st : Steps) (lo n : Nat) : Tr (List Kl × List U) := .rdO k fun o => match o with
  | some o => (getT (.sl true o.e o.r) o.xs st).bind fun c => match c with
    | ⟨.sl true e r, ys⟩ => (setT (.sl true o.e o.r) o.xs st (.sl true e r) ((List.drop lo ys).take n)).bind fun zs => .ret ([.deep k], [.ow k (some ⟨o.e, o.r, zs⟩)])
    | _ => .fail
  | none => .fail
def selfOf (k : Nat) (st : Steps) : List Leaf → Option (Nat × Nat)
  | [.vw k' st' (some w)] => if k' = k ∧ st' = st then some w else none
  | _ => none
def stCells : S1 → List Leaf → Tr (List Kl × List U)
  | .pl k off, ls => .rdM k fun m => match m with
      | some m => if off + ls.length ≤ m then .ret ([], stPls k ls off) else .fail
      | none => .fail
  | .el k st, ls => match selfOf k st ls with
    | some w => stSelf k st w.1 w.2
    | none => .rdO k fun o => match o with
      | some o => (stEls o st ls 0).bind fun r => if r.2.contains k || !unlike r.2 then .fail else
          .ret (.deep k :: gone r.2, .ow k (some r.1) :: goneU r.2)
      | none => .fail
  | _, _ => .fail
end Go.V

namespace Go.V
abbrev ALeaf := (t : Ty) × t.D
inductive A1 where
  | one (l : ALeaf)
  | ag (ls : List ALeaf)
  | pl (m off : Nat)
  | rp (t : Ty) (x : t.D) (off : Nat)
  | fv (f : FuncId) (cs : List (Nat × Nat))
structure Res where
  val : List A1
  rows : List (List ALeaf)
  lent : List ((Nat × Nat) × ALeaf)
structure Env where
  ti : TypeId → TI
  mv : FuncId → List Nat
  fr : FuncId → List (List Ty)
  fx : List Nat
  ca : FuncId → List A1 → List (List ALeaf) → Tr Res
  hn : List (Nat × List Ty)
def constSV : Value → SV
  | .int k n => .s (.one (.v (.int k) n))
  | .bool b => .s (.one (.v .bool b))
  | .string s => .s (.one (.v .str s.data.toList))
  | .slice none 0 0 => .s (.one .nil)
  | .nilIface => .s (.one (.v .er false))
  | _ => .no
def opnd (S : St) : Operand → SV
  | .tmp t => S.sl t
  | .const v => constSV v
  | .func f => .s (.fv f [])
  | _ => .no
def b2 (b : Bool) : Leaf := .v .bool b
def vbin (op : BinOp) : Leaf → Leaf → Tr Leaf
  | .v (.int k) a, .v (.int k') b =>
    match op with
    | .shl => .iff (decide ((0 : Int) ≤ b)) (.ret (.v (.int k) (k.wrap ((a : Int) * 2 ^ (min (Int.toNat b) k.bits)))))
    | .shr => .iff (decide ((0 : Int) ≤ b)) (.ret (.v (.int k) (Int.fdiv a (2 ^ (min (Int.toNat b) k.bits)))))
    | op => if k = k' then match op with
      | .add => .ret (.v (.int k) (k.wrap ((a : Int) + b)))
      | .sub => .ret (.v (.int k) (k.wrap ((a : Int) - b)))
      | .mul => .ret (.v (.int k) (k.wrap ((a : Int) * b)))
      | .quo => .iff (decide (¬ (b : Int) = 0)) (.ret (.v (.int k) (k.wrap (Int.tdiv a b))))
      | .rem => .iff (decide (¬ (b : Int) = 0)) (.ret (.v (.int k) (Int.tmod a b)))
      | .and => .ret (.v (.int k) (k.wrap ((BitVec.ofInt k.bits a &&& BitVec.ofInt k.bits b).toNat : Int)))
      | .or => .ret (.v (.int k) (k.wrap ((BitVec.ofInt k.bits a ||| BitVec.ofInt k.bits b).toNat : Int)))
      | .xor => .ret (.v (.int k) (k.wrap ((BitVec.ofInt k.bits a ^^^ BitVec.ofInt k.bits b).toNat : Int)))
      | .andNot => .ret (.v (.int k) (k.wrap ((BitVec.ofInt k.bits a &&& ~~~ BitVec.ofInt k.bits b).toNat : Int)))
      | .eql => .ret (b2 (decide ((a : Int) = b)))
      | .neq => .ret (b2 (decide (¬ (a : Int) = b)))
      | .lss => .ret (b2 (decide ((a : Int) < b)))
      | .leq => .ret (b2 (decide ((a : Int) ≤ b)))
      | .gtr => .ret (b2 (decide ((b : Int) < a)))
      | .geq => .ret (b2 (decide ((b : Int) ≤ a)))
      | _ => .fail
      else .fail
  | .v .bool a, .v .bool b =>
    match op with
    | .eql => .ret (b2 ((a : Bool) == b))
    | .neq => .ret (b2 ((a : Bool) != b))
    | _ => .fail
  | .v .str a, .v .str b =>
    match op with
    | .add => .iff (decide (((a : List UInt8).length + (b : List UInt8).length : Nat) ≤ 9223372036854775807)) (.ret (.v .str ((a : List UInt8) ++ b)))
    | .eql => .ret (b2 ((a : List UInt8) == b))
    | .neq => .ret (b2 (!((a : List UInt8) == b)))
    | .lss => .ret (b2 (Op.bytesLess a b))
    | .leq => .ret (b2 (Op.bytesLess a b || ((a : List UInt8) == b)))
    | .gtr => .ret (b2 (!(Op.bytesLess a b || ((a : List UInt8) == b))))
    | .geq => .ret (b2 (!(Op.bytesLess a b)))
    | _ => .fail
  | _, _ => .fail
def nilT : Leaf → Tr Leaf
  | .nil => .ret (b2 true)
  | .v (.sl _ _ _) xs => .ret (.qn (List.isEmpty xs))
  | .vw k st win => (viewT k st win).bind fun o => .ret (.qn (List.isEmpty o.xs))
  | _ => .fail
def aggEq : List Ty → List Leaf → List Leaf → Option Bool
  | [], [], [] => some true
  | .int _ :: ts, .v (.int k) a :: x, .v (.int k') b :: y => if k = k' then (aggEq ts x y).map (fun r => decide ((a : Int) = b) && r) else none
  | .bool :: ts, .v .bool a :: x, .v .bool b :: y => (aggEq ts x y).map (fun r => ((a : Bool) == b) && r)
  | .str :: ts, .v .str a :: x, .v .str b :: y => (aggEq ts x y).map (fun r => ((a : List UInt8) == b) && r)
  | _, _, _ => none
def vun (op : UnOp) : Leaf → Tr Leaf
  | .v (.int k) a => match op with
    | .neg => .ret (.v (.int k) (k.wrap (0 - (a : Int))))
    | .xor => .ret (.v (.int k) (k.wrap ((BitVec.ofInt k.bits (if k.signed then -1 else k.max) ^^^ BitVec.ofInt k.bits a).toNat : Int)))
    | _ => .fail
  | .v .bool b => match op with
    | .not => .ret (.v .bool (!(b : Bool)))
    | _ => .fail
  | _ => .fail
def bytesOf (s : List UInt8) : List Int := s.map fun b => (b.toNat : Int)
def textOf (xs : List Int) : List UInt8 := xs.map fun n => UInt8.ofNat n.toNat
def dataT : Leaf → Tr Own
  | .v (.sl _ e r) xs => .ret ⟨e, r, xs⟩
  | .vw k st win => viewT k st win
  | _ => .fail
def TI.isStr : TI → Bool
  | .cell .str => true
  | _ => false
def TI.isSl : TI → Bool
  | .slice .. => true
  | _ => false
def TI.isSlOf (n : Nat) : TI → Bool
  | .slice _ ts _ => ts.length == n
  | _ => false
def lenT (t : TI) : Leaf → Tr Nat
  | .v .str s => if t.isStr then .ret (List.length s) else .fail
  | .v (.sl _ _ _) xs => if t.isSl then .ret (List.length xs) else .fail
  | .vw k st win => if t.isSl then (viewT k st win).bind fun o => .ret o.xs.length else .fail
  | .nil => if t.isSl then .ret 0 else .fail
  | _ => .fail
def vInt (n : Nat) : SV := .s (.one (.v (.int .i64) (n : Int)))
abbrev okOut (x : SV) : Tr Out := .ret ⟨x, [], []⟩
abbrev kd (d c : Nat) : Nat := d * 1024 + c
def cutWin (win : Option (Nat × Nat)) (lo n : Nat) : Option (Nat × Nat) :=
  match win with
  | none => some (lo, n)
  | some (l, _) => some (l + lo, n)
def winLo (win : Option (Nat × Nat)) : Nat := match win with | none => 0 | some (lo, _) => lo
def bound : Option SV → Nat → Tr Int
  | none, d => .ret d
  | some (.s (.one (.v (.int _) n))), _ => .ret n
  | _, _ => .fail
def boundsT (len : Nat) (lo hi mx : Option SV) (f : Nat → Nat → Tr SV) : Tr SV :=
  (bound lo 0).bind fun l => (bound hi len).bind fun h => (bound mx len).bind fun m =>
    .iff (mx.isNone || hi.isSome) <| .iff (decide (0 ≤ l)) <| .iff (decide (l ≤ h)) <| .iff (decide (h ≤ m)) <| .iff (decide (m ≤ (len : Int))) <| f l.toNat (h.toNat - l.toNat)
def sliceT (t : TI) (x : Leaf) (lo hi mx : Option SV) : Tr SV :=
  match x with
  | .v .str s => if t.isStr && mx.isNone then boundsT (List.length s) lo hi mx fun l n => .ret (.s (.one (.v .str (((s : List UInt8).drop l).take n)))) else .fail
  | .v (.sl false e r) xs => if t.isSlOf r.size then boundsT (List.length xs) lo hi mx fun l n => .ret (.s (.one (.v (.sl false e r) (((xs : List r.D).drop l).take n)))) else .fail
  | .vw k st win => (viewT k st win).bind fun o => if t.isSlOf o.r.size then boundsT o.xs.length lo hi mx fun l n => .ret (.s (.one (.vw k st (cutWin win l n)))) else .fail
  | .nil => if t.isSl then boundsT 0 lo hi mx fun _ _ => .ret (.s (.one .nil)) else .fail
  | _ => .fail
def roomFor (n bytes : Nat) : Bool := decide (n * bytes ≤ 140737488355328)
def moreT (ti2 : TI) (e : TypeId) (r : Ty) : Leaf → Tr (List r.D × List Nat)
  | .v .str s => if ti2.isStr then (match r with
    | .int .u8 => .ret (bytesOf s, [])
    | _ => .fail) else .fail
  | l => if ti2.isSl then (if r.ro then (match l with
    | .nil => .ret ([], [])
    | l => (dataT l).bind fun o => if h : Ty.sl true o.e o.r = .sl true e r then .ret ((h ▸ o.xs : (Ty.sl true e r).D), []) else .fail)
    else absorb (.sl true e r) l) else .fail
def moreA (ti2 : TI) (e : TypeId) (r0 r : Ty) (y : Leaf) : Tr (List r.D × List Nat) :=
  match ti2 with
  | .cell (.int .i64) => match y with
    | .v (.int .i64) n => if r = r0 then .iff (decide ((0 : Int) ≤ n)) (.ret (List.replicate (Int.toNat n) r.zero, [])) else .fail
    | _ => .fail
  | ti2 => moreT ti2 e r y
def ownOut (key : Nat) (o : Own) (given : List Nat) : Out :=
  ⟨.s (.one (.vw key [] none)), .all key :: gone given, goneU given ++ [.ow key (some o)]⟩
def rowFor (r0 : Ty) : Leaf → Leaf → Tr Ty
  | .vw k _ _, _ => .rdO k fun o => match o with
    | some o => .ret o.r
    | none => .fail
  | _, .v (.sl _ _ r) _ => .ret r
  | _, .vw k [] _ => .rdO k fun o => match o with
    | some o => .ret o.r
    | none => .fail
  | _, _ => .ret r0
def appendT (ti ti2 : TI) (d : Nat) (x y : Leaf) : Tr Out :=
  match ti with
  | .slice e ts bytes => (rowFor (rowTy ts) x y).bind fun r => if r.size = ts.length then (absorb (.sl true e r) x).bind fun b => (moreA ti2 e (rowTy ts) r y).bind fun m =>
      .iff (roomFor (List.length b.1 + List.length m.1) bytes) <|
      if unlike (b.2 ++ m.2) then .ret (ownOut (kd d 0) ⟨e, r, (show List r.D from b.1) ++ m.1⟩ (b.2 ++ m.2)) else .fail
      else .fail
  | _ => .fail
def copyT (ti ti2 : TI) (x y : Leaf) : Tr Out :=
  match x with
  | .vw k [] none => .rdO k fun o => match o with
    | some o => if ti.isSlOf o.r.size && ti2.isSl && o.r.ro then (match y with
        | .nil => .ret ⟨.s (.one (.v (.int .i64) ((0 : Nat) : Int))), [], []⟩
        | y => (dataT y).bind fun p => if h : Ty.sl true p.e p.r = Ty.sl true o.e o.r then
            .ret ⟨.s (.one (.v (.int .i64) ((Nat.min (List.length p.xs) (List.length o.xs) : Nat) : Int))), [.deep k],
              [.ow k (some ⟨o.e, o.r, (show List o.r.D from (h ▸ p.xs : (Ty.sl true o.e o.r).D)).take (List.length o.xs) ++ List.drop (List.length p.xs) o.xs⟩)]⟩ else .fail) else .fail
    | none => .fail
  | _ => .fail
def Leaf.is : Leaf → Bool
  | .no => false
  | _ => true
def leaves : SV → Option (List Leaf)
  | .s (.one l) => if l.is then some [l] else none
  | .s (.ag ls) => if ls.all Leaf.is then some ls else none
  | _ => none
def rowsT (ts : List Ty) : List (Nat × SV) → Nat → Tr (List (rowTy ts).D × List Nat)
  | [], _ => .ret ([], [])
  | (i, x) :: ps, n => if i = n then match leaves x with
      | some ls => (absorbRow ts ls).bind fun r => (rowsT ts ps (n + 1)).bind fun rs => .ret (r.1 :: rs.1, r.2 ++ rs.2)
      | none => .fail
      else .fail
def rowTys : List Ty → List Leaf → List Ty
  | _ :: ts, .v u _ :: ls => u :: rowTys ts ls
  | t :: ts, _ :: ls => t :: rowTys ts ls
  | ts, _ => ts
def hintOf (hn : List (Nat × List Ty)) (d : Nat) (ts : List Ty) : List Ty := match hn.find? (fun p => p.1 == d) with
  | some p => p.2
  | none => ts
def litTys (ts hs : List Ty) : List (Nat × SV) → List Ty
  | (_, x) :: _ => match leaves x with
    | some ls => rowTys ts ls
    | none => ts
  | [] => hs
def buildRowsT (e : TypeId) (ts : List Ty) (d len : Nat) (ps : List (Nat × SV)) : Tr Out :=
  (rowsT ts ps 0).bind fun r => if unlike r.2 && decide (ps.length = len) && decide (len * (rowTy ts).size ≤ 16777216) then
      .ret (ownOut (kd d 0) ⟨e, rowTy ts, r.1⟩ r.2) else .fail
def buildSliceT (ti : TI) (hn : List (Nat × List Ty)) (d len : Nat) (ps : List (Nat × SV)) : Tr Out :=
  match ti with
  | .slice e ts _ => if (litTys ts (hintOf hn d ts) ps).all (fun t => t.size == 1) && (litTys ts (hintOf hn d ts) ps).length == ts.length then buildRowsT e (litTys ts (hintOf hn d ts) ps) d len ps else .fail
  | _ => .fail
def makeSliceT (ti : TI) (d : Nat) (l c : SV) : Tr Out :=
  match ti, l, c with
  | .slice e ts bytes, .s (.one (.v (.int .i64) l)), .s (.one (.v (.int .i64) c)) =>
    .iff (decide ((0 : Int) ≤ l)) <| .iff (decide ((l : Int) ≤ c)) <| .iff (roomFor (Int.toNat c) bytes) <|
      .ret (ownOut (kd d 0) ⟨e, rowTy ts, List.replicate (Int.toNat l) (rowTy ts).zero⟩ [])
  | _, _, _ => .fail
def zeroLeaf : Ty → Leaf
  | .sl _ _ _ => .nil
  | t => .v t t.zero
def setMany (row : List Leaf) (off : Nat) : List Leaf → List Leaf
  | [] => row
  | l :: ls => setMany (row.set off l) (off + 1) ls
def buildT (fs : List (Nat × Nat × Bool)) : List (Nat × SV) → List Leaf → Option (List Leaf)
  | [], row => some row
  | (f, x) :: ps, row => match fs[f]?, leaves x with
    | some (off, n, _), some ls => if ls.length = n then (if off + n ≤ row.length then buildT fs ps (setMany row off ls) else none) else none
    | _, _ => none
def indexT (t : TI) (x : Leaf) (i : Int) : Tr SV :=
  .iff (decide (0 ≤ i)) <|
  match x with
  | .v (.sl false _ r) xs => if t.isSlOf r.size then .get r.D ((xs : List r.D)[i.toNat]?) fun row => .ret (.s (.rp r row 0)) else .fail
  | .vw k st win => (viewT k st win).bind fun o => if t.isSlOf o.r.size then .iff (decide (i < (o.xs.length : Int))) <|
      .ret (.s (.el k (st ++ [(winLo win + i.toNat, 0)]))) else .fail
  | _ => .fail
def convT (ti : TypeId → TI) (src dst : TI) (d : Nat) (x : Leaf) : Tr Out :=
  match src, dst, x with
  | .cell (.int _), .cell (.int k), .v (.int _) n => okOut (.s (.one (.v (.int k) (k.wrap n))))
  | .cell .str, .cell .str, .v .str s => okOut (.s (.one (.v .str s)))
  | .cell .str, .slice e _ _, .v .str s => match ti e with
    | .cell (.int .u8) => .ret (ownOut (kd d 0) ⟨e, .int .u8, bytesOf s⟩ [])
    | _ => .fail
  | .slice e _ _, .cell .str, .nil => match ti e with
    | .cell (.int .u8) => okOut (.s (.one (.v .str [])))
    | _ => .fail
  | .slice e _ _, .cell .str, x => match ti e with
    | .cell (.int .u8) => (dataT x).bind fun o => match o with
        | ⟨_, .int .u8, xs⟩ => okOut (.s (.one (.v .str (textOf xs))))
        | _ => .fail
    | _ => .fail
  | _, _, _ => .fail
structure AS where
  a : A1
  bw : List Nat     -- owners that are shown
  gv : List Nat     -- owners that are given up
def argLeaf (mv : Bool) (t : Ty) : Leaf → Tr (ALeaf × List Nat × List Nat)
  | .v u x => .ret (⟨u, x⟩, [], [])
  | .nil => match t with
    | .sl _ e r => if mv then .ret (⟨.sl true e r, []⟩, [], []) else .ret (⟨.sl false e r.frz, []⟩, [], [])
    | _ => .fail
  | .vw k st win => if mv then match st with
      | [] => (viewT k [] win).bind fun o => .ret (⟨.sl true o.e o.r, o.xs⟩, [], [k])
      | _ => .fail
    else (viewT k st win).bind fun o => .ret (⟨(Ty.sl true o.e o.r).frz, toFrz (.sl true o.e o.r) o.xs⟩, [k], [])
  | _ => .fail
def lentLeaf (t : Ty) : Leaf → Tr (ALeaf × List Nat × List Nat)
  | .vw k st none => (viewT k st none).bind fun o => .ret (⟨.sl true o.e o.r, o.xs⟩, [], [k])
  | .vw _ _ (some _) => .fail
  | l => argLeaf true t l
def modeLeaf (m : Nat) (t : Ty) (l : Leaf) : Tr (ALeaf × List Nat × List Nat) := if m = 2 then lentLeaf t l else argLeaf (m == 1) t l
def lentOf (p : Nat × Nat) : Leaf → List ((Nat × Nat) × Option (Nat × Steps))
  | .vw k st _ => [(p, some (k, st))]
  | .nil => [(p, none)]
  | _ => []
def lentsOf (i j : Nat) : List Leaf → List ((Nat × Nat) × Option (Nat × Steps))
  | [] => []
  | l :: ls => lentOf (i, j) l ++ lentsOf i (j + 1) ls
def argLeaves (m : Nat) : List Ty → List Leaf → Tr (List ALeaf × List Nat × List Nat)
  | _, [] => .ret ([], [], [])
  | ts, l :: ls => (modeLeaf m (ts.headD .unit) l).bind fun x => (argLeaves m ts.tail ls).bind fun y => .ret (x.1 :: y.1, x.2.1 ++ y.2.1, x.2.2 ++ y.2.2)
def rowLeaves (k : Nat) : List Ty → Nat → Tr (List ALeaf × List Nat)
  | [], _ => .ret ([], [])
  | t :: ts, c => .rdC k c fun l => (argLeaf true t l).bind fun x => (rowLeaves k ts (c + 1)).bind fun y => .ret (x.1 :: y.1, x.2.2 ++ y.2)
def shownRow (k : Nat) : List Ty → Nat → Tr (List ALeaf × List Nat)
  | [], _ => .ret ([], [])
  | t :: ts, c => .rdC k c fun l => (argLeaf false t l).bind fun x => (shownRow k ts (c + 1)).bind fun y => .ret (x.1 :: y.1, x.2.1 ++ y.2)
def packed : List ALeaf → ALeaf
  | [] => ⟨.unit, ()⟩
  | [l] => l
  | l :: m :: ls => ⟨.pair l.1 (packed (m :: ls)).1, (l.2, (packed (m :: ls)).2)⟩
def place (ms : List Nat) (k : Nat) : Nat := ms.findIdx (· == k)
structure AC where
  as : List A1 := []
  bw : List Nat := []
  gv : List Nat := []
  ms : List (Nat × List Ty) := []
  ln : List ((Nat × Nat) × Option (Nat × Steps)) := []
def cellsAt (ti : TypeId → TI) (t : TypeId) : Option (List Ty) := match ti t with
  | .ptr e => (ti e).cells
  | x => x.cells
def placeT (k off : Nat) (ts : Option (List Ty)) (c : AC) : Tr ((Nat × Nat) × AC) :=
  match ts with
  | some ts => if (c.ms.map (·.1)).contains k then .ret ((place (c.ms.map (·.1)) k, off), c)
    else if off = 0 then .rdM k fun n => if n = some ts.length then .ret ((c.ms.length, off), { c with ms := c.ms ++ [(k, ts)] }) else .fail
    else .fail
  | none => .fail
def capsT : List (Nat × Nat) → List (List Ty) → AC → Tr (List (Nat × Nat) × AC)
  | [], _, c => .ret ([], c)
  | p :: cs, ts, c => (placeT p.1 p.2 ts.head? c).bind fun y => (capsT cs ts.tail y.2).bind fun z => .ret (y.1 :: z.1, z.2)
def argsT (E : Env) : List Nat → List (SV × TypeId) → AC → Tr AC
  | _, [], c => .ret c
  | mv, (x, t) :: xs, c =>
    let m := mv.headD 0
    match x with
    | .s (.one l) => (modeLeaf m ((((E.ti t).cells).getD []).headD .unit) l).bind fun y => argsT E mv.tail xs { c with as := c.as ++ [.one y.1], bw := c.bw ++ y.2.1, gv := c.gv ++ y.2.2, ln := c.ln ++ (if m = 2 then lentOf (c.as.length, 0) l else []) }
    | .s (.ag ls) => (argLeaves m (((E.ti t).cells).getD []) ls).bind fun y => argsT E mv.tail xs { c with as := c.as ++ [.ag y.1], bw := c.bw ++ y.2.1, gv := c.gv ++ y.2.2, ln := c.ln ++ (if m = 2 then lentsOf c.as.length 0 ls else []) }
    | .s (.rp u x off) => argsT E mv.tail xs { c with as := c.as ++ [.rp u x off] }
    | .s (.pl k off) => if m = 3 then (match cellsAt E.ti t with
        | some ts => .rdM k fun n => if n = some ts.length then (shownRow k ts 0).bind fun y => argsT E mv.tail xs { c with as := c.as ++ [.rp (packed y.1).1 (packed y.1).2 off], bw := c.bw ++ k :: y.2 } else .fail
        | none => .fail)
      else (placeT k off (cellsAt E.ti t) c).bind fun y => argsT E mv.tail xs { y.2 with as := y.2.as ++ [.pl y.1.1 y.1.2] }
    | .s (.fv f cs) => (capsT cs (E.fr f) c).bind fun y => argsT E mv.tail xs { y.2 with as := y.2.as ++ [.fv f y.1] }
    | _ => .fail
def rowsOf : List (Nat × List Ty) → Tr (List (List ALeaf) × List Nat)
  | [] => .ret ([], [])
  | (k, ts) :: ms => (rowLeaves k ts 0).bind fun y => (rowsOf ms).bind fun ys => .ret (y.1 :: ys.1, y.2 ++ ys.2)
def Ty.hasRo : Ty → Bool
  | .pair a b => a.hasRo || b.hasRo
  | .sl o _ r => !o || r.hasRo
  | .pt _ => true
  | _ => false
def backLeaf (key : Nat) : ALeaf → Leaf × List (Nat × Own)
  | ⟨.sl true e r, xs⟩ => (.vw key [] none, [(key, ⟨e, r, xs⟩)])
  | ⟨t, x⟩ => (.v t x, [])
def backLeaves (key : Nat) : List ALeaf → List Leaf × List (Nat × Own)
  | [] => ([], [])
  | l :: ls => ((backLeaf key l).1 :: (backLeaves (key + 1) ls).1, (backLeaf key l).2 ++ (backLeaves (key + 1) ls).2)
def backPls (ms : List Nat) : List (Nat × Nat) → Option (List (Nat × Nat))
  | [] => some []
  | p :: ps => match ms[p.1]?, backPls ms ps with
    | some k, some l => some ((k, p.2) :: l)
    | _, _ => none
def back1 (ms : List Nat) (key : Nat) : A1 → Option (S1 × List (Nat × Own))
  | .one l => some (.one (backLeaf key l).1, (backLeaf key l).2)
  | .ag ls => some (.ag (backLeaves key ls).1, (backLeaves key ls).2)
  | .pl m off => match ms[m]? with
    | some k => some (.pl k off, [])
    | none => none
  | .rp t x off => some (.rp t x off, [])
  | .fv f cs => match backPls ms cs with
    | some l => some (.fv f l, [])
    | none => none
def backVals (ms : List Nat) (key : Nat) : List A1 → Option (List S1 × List (Nat × Own))
  | [] => some ([], [])
  | a :: as => match back1 ms key a, backVals ms (key + 64) as with
    | some x, some y => some (x.1 :: y.1, x.2 ++ y.2)
    | _, _ => none
def backRows (key : Nat) : List Nat → List (List ALeaf) → Option (List (Nat × List Leaf) × List (Nat × Own))
  | [], [] => some ([], [])
  | k :: ms, r :: rs => match backRows (key + 64) ms rs with
    | some y => some ((k, (backLeaves key r).1) :: y.1, (backLeaves key r).2 ++ y.2)
    | none => none
  | _, _ => none
def ownsU (l : List (Nat × Own)) : List U := l.map fun p => .ow p.1 (some p.2)
def rowsU : List (Nat × List Leaf) → List U
  | [] => []
  | p :: l => stPls p.1 p.2 0 ++ rowsU l
def A1.hasRo : A1 → Bool
  | .one l => l.1.hasRo
  | .ag ls => ls.any fun l => l.1.hasRo
  | .pl _ _ => false
  | .rp _ _ _ => true
  | .fv _ _ => false
def tupled : List S1 → SV
  | [v] => .s v
  | vs => .tu vs
def putBack : List ((Nat × Nat) × Option (Nat × Steps)) → List ((Nat × Nat) × ALeaf) → Tr (List (Nat × Own))
  | [], [] => .ret []
  | (p, none) :: l, (p', _) :: r => if p = p' then putBack l r else .fail
  | (p, some (k, st)) :: l, (p', a) :: r => if p = p' then .rdO k fun o => match o with
    | some o => (getT (.sl true o.e o.r) o.xs st).bind fun c => if h : a.1 = c.1 then (setT (.sl true o.e o.r) o.xs st c.1 (h ▸ a.2)).bind fun zs => (putBack l r).bind fun y => .ret ((k, ⟨o.e, o.r, zs⟩) :: y) else .fail
    | none => .fail
    else .fail
  | _, _ => .fail
def lkeys : List ((Nat × Nat) × Option (Nat × Steps)) → List Nat
  | [] => []
  | (_, none) :: l => lkeys l
  | (_, some (k, _)) :: l => k :: lkeys l
def moved (lk gv : List Nat) : List Nat := gv.filter fun k => !lk.contains k
def callT2 (E : Env) (d : Nat) (f : FuncId) (ps : List (Nat × Nat)) (c : AC) : Tr Out :=
  (rowsOf c.ms).bind fun rows =>
    if unlike (c.gv ++ rows.2) && c.bw.all (fun k => !(c.gv ++ rows.2).contains k && !(c.ms.map (·.1)).contains k) then
      (E.ca f (c.as ++ ps.map fun p => .pl p.1 p.2) rows.1).bind fun r => (putBack c.ln r.lent).bind fun lts =>
        if c.bw.isEmpty || !(r.val.any A1.hasRo || r.rows.any (fun l => l.any fun x => x.1.hasRo) || r.lent.any (fun x => x.2.1.hasRo)) then
          match backVals (c.ms.map (·.1)) (kd d 0) r.val, backRows (kd d 512) (c.ms.map (·.1)) r.rows with
          | some vs, some rs =>
            if unlike ((vs.2 ++ (rs.2 ++ lts)).map (·.1)) && decide (r.rows.map List.length = c.ms.map fun m => m.2.length) then
            .ret ⟨tupled vs.1, gone (moved (lkeys c.ln) c.gv ++ rows.2) ++ ((lkeys c.ln).map Kl.deep ++ gone ((vs.2 ++ rs.2).map (·.1))), goneU (c.gv ++ rows.2) ++ (ownsU (vs.2 ++ (rs.2 ++ lts)) ++ rowsU rs.1)⟩
            else .fail
          | _, _ => .fail
        else .fail
    else .fail
def callT (E : Env) (d : Nat) (f : FuncId) (caps : List (Nat × Nat)) (args : List (SV × TypeId)) : Tr Out :=
  (argsT E (E.mv f) args {}).bind fun c => (capsT caps (E.fr f) c).bind fun y => callT2 E d f y.1 y.2
def minmax (b : Builtin) : List SV → Tr SV
  | [.s (.one (.v (.int k) x)), .s (.one (.v (.int k') y))] => if k = k' then match b with
      | .min => .ret (.s (.one (.v (.int k) (if (y : Int) < x then y else x))))
      | .max => .ret (.s (.one (.v (.int k) (if (x : Int) < y then y else x))))
      | _ => .fail
      else .fail
  | _ => .fail
def boolOk (l : Leaf) (t : TI) : Bool :=
  match l, t with
  | .v .bool _, .cell .bool => true
  | .v .bool _, _ => false
  | _, _ => true
def plsOf : List SV → Option (List (Nat × Nat))
  | [] => some []
  | .s (.pl k off) :: xs => match plsOf xs with
    | some l => some ((k, off) :: l)
    | none => none
  | _ => none
def core (E : Env) (ρ : Operand → SV) (d : Nat) : Op → Tr Out
  | .move x | .assign x => match ρ x with
    | .no => .fail
    | .un => .fail
    | x => okOut x
  | .pick c a b => match ρ c with
    | .s (.one (.v .bool c)) => .br c (match ρ a with | .no => .fail | .un => .fail | x => okOut x) (match ρ b with | .no => .fail | .un => .fail | x => okOut x)
    | _ => .fail
  | .alloc t => match (E.ti t).cells with
    | some ts => .ret ⟨.s (.pl d 0), [.m d], [.ms d (ts.map zeroLeaf)]⟩
    | none => .fail
  | .box t x => match (E.ti t).cells, leaves (ρ x) with
    | some ts, some ls => if ls.length = ts.length then .ret ⟨.s (.pl d 0), [.m d], [.ms d ls]⟩ else .fail
    | _, _ => match E.ti t, ρ x with
      | .ptr _, .s (.rp u y 0) => .ret ⟨.s (.pl d 0), [.m d], [.ms d [.v (.pt u) (some y)]]⟩
      | _, _ => .fail
  | .build t ps => match E.ti t with
    | .struct fs row _ => match buildT fs (ps.toList.map fun p => (p.1, ρ p.2)) (row.map zeroLeaf) with
      | some ls => okOut (.s (.ag ls))
      | none => .fail
    | _ => .fail
  | .buildSlice t len ps => buildSliceT (E.ti t) E.hn d len (ps.toList.map fun p => (p.1, ρ p.2))
  | .load t a => match ρ a, (E.ti t).cells with
    | .s a, some ts => if ts.isEmpty then .fail else (if (E.ti t).isAgg then (ldCells a ts.length 0).bind fun ls => Tr.ret (SV.s (.ag ls)) else (ldCell a 0).bind fun l => Tr.ret (SV.s (.one l))).bind fun x => okOut x
    | .s a, none => match E.ti t with
      | .ptr _ => (ldCell a 0).bind fun l => match l with
        | .v (.pt u) o => .get u.D o fun y => okOut (.s (.rp u y 0))
        | _ => .fail
      | _ => .fail
    | _, _ => .fail
  | .store t a x => match ρ a, (E.ti t).cells, leaves (ρ x) with
    | .s a, some ts, some ls => if ls.length = ts.length then (stCells a ls).bind fun r => .ret ⟨.no, r.1, r.2⟩ else .fail
    | _, _, _ => .fail
  | .nilCheck x => match ρ x with
    | .s (.pl k off) => okOut (.s (.pl k off))
    | .s (.el k st) => okOut (.s (.el k st))
    | .s (.rp t x off) => okOut (.s (.rp t x off))
    | _ => .fail
  | .binOp op t x y _ => match ρ x, ρ y with
    | .s (.one x), .s (.one .nil) => match op with
      | .eql => if (E.ti t).isSl then (nilT x).bind fun l => okOut (.s (.one l)) else .fail
      | _ => .fail
    | .s (.one (.v .er e)), .s (.one (.v .er _)) => match E.ti t, y, op with
      | .err, .const .nilIface, .neq => okOut (.s (.one (b2 (e : Bool))))
      | _, _, _ => .fail
    | .s (.one x), .s (.one y) => if boolOk x (E.ti t) then (vbin op x y).bind fun l => okOut (.s (.one l)) else .fail
    | .s (.ag xs), .s (.ag ys) => match E.ti t with
      | .struct _ row true => match op, aggEq row xs ys with
        | .eql, some r => okOut (.s (.one (b2 r)))
        | .neq, some r => okOut (.s (.one (b2 (!r))))
        | _, _ => .fail
      | _ => .fail
    | _, _ => .fail
  | .unOp op _ x => match ρ x with
    | .s (.one x) => (vun op x).bind fun l => okOut (.s (.one l))
    | _ => .fail
  | .convert s t x => match ρ x with
    | .s (.one x) => convT E.ti (E.ti s) (E.ti t) d x
    | _ => .fail
  | .makeSlice t l c => makeSliceT (E.ti t) d (ρ l) (ρ c)
  | .slice t x lo hi mx => match ρ x with
    | .s (.one x) => (sliceT (E.ti t) x (lo.map ρ) (hi.map ρ) (mx.map ρ)).bind fun x => okOut x
    | _ => .fail
  | .fieldAddr t x f => match E.ti t with
    | .struct fs _ _ => match fs[f]?, ρ x with
      | some (o, _, _), .s (.pl k off) => okOut (.s (.pl k (off + o)))
      | some (o, _, _), .s (.el k st) => okOut (.s (.el k (bump st o)))
      | some (o, _, _), .s (.rp u x off) => okOut (.s (.rp u x (off + o)))
      | _, _ => .fail
    | _ => .fail
  | .field t x f => match E.ti t, ρ x with
    | .struct fs _ _, .s (.ag ls) => match fs[f]? with
      | some (o, n, true) => okOut (.s (.ag ((ls.drop o).take n)))
      | some (o, _, false) => match ls[o]? with
        | some l => okOut (.s (.one l))
        | none => .fail
      | none => .fail
    | _, _ => .fail
  | .indexAddr t x i => match ρ x, ρ i with
    | .s (.one x), .s (.one (.v (.int _) i)) => (indexT (E.ti t) x i).bind fun x => okOut x
    | _, _ => .fail
  | .index t x i => match ρ x, ρ i with
    | .s (.one (.v .str s)), .s (.one (.v (.int _) i)) => .iff (E.ti t).isStr <| .iff (decide ((0 : Int) ≤ i)) <|
      .get UInt8 ((s : List UInt8)[Int.toNat i]?) fun b => okOut (.s (.one (.v (.int .u8) ((UInt8.toNat b : Nat) : Int))))
    | _, _ => .fail
  | .extract x i => match ρ x with
    | .tu xs => match xs[i]? with
      | some x => okOut (.s x)
      | none => .fail
    | _ => .fail
  | .call ⟨.builtin .len, as, ts⟩ => match as.toList.map ρ, ts.toList with
    | [.s (.one x)], [t] => (lenT (E.ti t) x).bind fun n => okOut (vInt n)
    | _, _ => .fail
  | .call ⟨.builtin .append, as, ts⟩ => match as.toList.map ρ, ts.toList with
    | [.s (.one x), .s (.one y)], [t, t2] => appendT (E.ti t) (E.ti t2) d x y
    | _, _ => .fail
  | .call ⟨.builtin .copy, as, ts⟩ => match as.toList.map ρ, ts.toList with
    | [.s (.one x), .s (.one y)], [t, t2] => copyT (E.ti t) (E.ti t2) x y
    | _, _ => .fail
  | .call ⟨.builtin .min, as, _⟩ => (minmax .min (as.toList.map ρ)).bind fun x => okOut x
  | .call ⟨.builtin .max, as, _⟩ => (minmax .max (as.toList.map ρ)).bind fun x => okOut x
  | .call ⟨.value v, as, ts⟩ => match ρ v with
    | .s (.fv f cs) => if as.size = ts.size then callT E d f cs ((as.toList.map ρ).zip ts.toList) else .fail
    | _ => .fail
  | .makeFunc (.func f) first cs => if first.isEmpty then match plsOf (cs.toList.map ρ) with
    | some l => okOut (.s (.fv f l))
    | none => .fail
    else .fail
  | _ => .fail
end Go.V

namespace Go.V
section loops
variable {σ τ : Type}
def loopN (f : σ → Option (σ ⊕ τ)) : Nat → σ → Option τ
  | 0, _ => none
  | n + 1, x => match f x with
    | some (.inl y) => loopN f n y
    | some (.inr z) => some z
    | none => none
open Classical in
noncomputable def loopG (f : σ → Option (σ ⊕ τ)) (x : σ) : Option τ := if h : ∃ n z, loopN f n x = some z then some h.choose_spec.choose else none
theorem loopN_mono (f : σ → Option (σ ⊕ τ)) : ∀ n m x z, loopN f n x = some z → n ≤ m → loopN f m x = some z := by
  intro n
  induction n with
  | zero => intro m x z h; simp [loopN] at h
  | succ n ih =>
    intro m x z h hm
    obtain ⟨m, rfl⟩ : ∃ k, m = k + 1 := ⟨m - 1, by omega⟩
    simp only [loopN] at h ⊢
    split at h
    · exact ih m _ z h (by omega)
    · exact h
    · cases h
theorem loopG_some (f : σ → Option (σ ⊕ τ)) (x : σ) (z : τ) : loopG f x = some z ↔ ∃ n, loopN f n x = some z := by
  unfold loopG
  constructor
  · intro h
    split at h
    · rename_i hx
      injection h with h
      exact ⟨hx.choose, h ▸ hx.choose_spec.choose_spec⟩
    · cases h
  · rintro ⟨n, hn⟩
    have hx : ∃ n z, loopN f n x = some z := ⟨n, z, hn⟩
    rw [dif_pos hx]
    have h1 := loopN_mono f _ (max n hx.choose) x _ hx.choose_spec.choose_spec (by omega)
    have h2 := loopN_mono f _ (max n hx.choose) x _ hn (by omega)
    rw [h1] at h2
    exact h2
theorem loopG_eq (f : σ → Option (σ ⊕ τ)) (x : σ) : loopG f x = match f x with
    | some (.inl y) => loopG f y
    | some (.inr z) => some z
    | none => none := by
  apply Option.ext
  intro z
  rw [loopG_some]
  constructor
  · rintro ⟨n, hn⟩
    cases n with
    | zero => simp [loopN] at hn
    | succ n =>
      simp only [loopN] at hn
      split at hn
      · rename_i y _
        exact (loopG_some f y z).2 ⟨n, hn⟩
      · exact hn
      · cases hn
  · intro h
    split at h
    · rename_i y hy
      obtain ⟨n, hn⟩ := (loopG_some f y z).1 h
      exact ⟨n + 1, by simp only [loopN, hy]; exact hn⟩
    · rename_i z' hz; exact ⟨1, by simp only [loopN, hz]; exact h⟩
    · cases h
end loops
inductive TL where
  | h (i : Nat) | vw (k : Nat) | nil | no | vs (k i f : Nat) | ww (k i j : Nat)
inductive TS where
  | one (l : TL) | ag (ls : List TL) | pl (k off : Nat) | fv (f : FuncId) (cs : List (Nat × Nat)) | rp (i off : Nat)
inductive Pl where
  | sl (i : Nat) | ag (i j : Nat) | mc (k c : Nat)
def leafAt (S : St) : Pl → Leaf
  | .sl i => match S.sl i with
    | .s (.one l) => l
    | _ => .no
  | .ag i j => match S.sl i with
    | .s (.ag ls) => ls.getD j .no
    | _ => .no
  | .mc k c => match S.ms k with
    | some n => if c < n then S.mc k c else .no
    | none => .no
def St.setAt (S : St) (l : Leaf) : Pl → St
  | .sl i => S.put i (.s (.one l))
  | .ag i j => match S.sl i with
    | .s (.ag ls) => S.put i (.s (.ag (ls.set j l)))
    | _ => S
  | .mc k c => S.up (.mc k c l)
def narrow1 (S : St) (p : Pl) : St :=
  match leafAt S p with
  | .vw k [] (some (lo, n)) => match S.ow k with
    | some o => ((S.kp [.all k]).up (.ow k (some ⟨o.e, o.r, (o.xs.drop lo).take n⟩))).setAt (.vw k [] none) p
    | none => S
  | _ => S
def narrow (S : St) : List Pl → St
  | [] => S
  | p :: ps => narrow (narrow1 S p) ps
def freeze1 (S : St) (p : Pl) : St :=
  match leafAt S p with
  | .vw k [] none => match S.ow k with
    | some o => ((S.kp [.all k]).up (.ow k none)).setAt (.v (Ty.sl true o.e o.r).frz (toFrz (.sl true o.e o.r) o.xs)) p
    | none => S
  | _ => S
def freeze (S : St) : List Pl → St
  | [] => S
  | p :: ps => freeze (freeze1 S p) ps
structure Tpl where
  holes : List Ty
  slots : List (Nat × TS)
  mems : List (Nat × List TL)
  owns : List (Nat × Nat)
  nw : List Pl
  fz : List Pl
@[reducible] def Tpl.D (t : Tpl) : Type := (rowTy t.holes).D
def split : (ts : List Ty) → (rowTy ts).D → List ALeaf
  | [], _ => []
  | [t], x => [⟨t, x⟩]
  | t :: u :: ts, x => ⟨t, x.1⟩ :: split (u :: ts) x.2
def find {β : Type} : List (Nat × β) → Nat → Option β
  | [], _ => none
  | (k, b) :: l, i => if i = k then some b else find l i
def ixOf : ALeaf → Option Nat
  | ⟨.int .i64, n⟩ => some (Int.toNat n)
  | _ => none
def TL.inj (hs : List ALeaf) : TL → Leaf
  | .vs k i f => match hs[i]? with
    | some c => match ixOf c with
      | some n => .vw k [(n, f)] none
      | none => .no
    | none => .no
  | .ww k i j => match hs[i]? with
    | some c => match hs[j]? with
      | some d => match ixOf c with
        | some a => match ixOf d with
          | some b => .vw k [] (some (a, b))
          | none => .no
        | none => .no
      | none => .no
    | none => .no
  | .h i => match hs[i]? with
    | some c => .v c.1 c.2
    | none => .no
  | .vw k => .vw k [] none
  | .nil => .nil
  | .no => .no
def TS.inj (hs : List ALeaf) : TS → S1
  | .one l => .one (l.inj hs)
  | .ag ls => .ag (ls.map (TL.inj hs))
  | .pl k off => .pl k off
  | .fv f cs => .fv f cs
  | .rp i off => match hs[i]? with
    | some c => .rp c.1 c.2 off
    | none => .one .no
def ownOf : ALeaf → Option Own
  | ⟨.sl true e r, xs⟩ => some ⟨e, r, xs⟩
  | _ => none
def Tpl.injH (t : Tpl) (hs : List ALeaf) : St where
  sl i := match find t.slots i with
    | some s => .s (s.inj hs)
    | none => .no
  ms k := (find t.mems k).map List.length
  mc k off := match find t.mems k with
    | some row => match row[off]? with
      | some l => l.inj hs
      | none => .no
    | none => .no
  ow k := match find t.owns k with
    | some h => match hs[h]? with
      | some c => ownOf c
      | none => none
    | none => none
def Tpl.inj (t : Tpl) (x : t.D) : St := t.injH (split t.holes x)
structure Mt where
  ro : List (Nat × Nat) := []
  rm : List (Nat × Nat) := []
  nl : List Nat := []
  vs : List (Nat × ALeaf) := []
def addKey (l : List (Nat × Nat)) (a b : Nat) : Option (List (Nat × Nat)) :=
  match find l a with
  | some c => if c = b then some l else none
  | none => some ((a, b) :: l)
def TL.mt (holes : List Ty) (m : Mt) : TL → Leaf → Option Mt
  | .h i, .v t x => some { m with vs := (i, ⟨t, x⟩) :: m.vs }
  | .h i, .nil => match holes[i]? with
    | some (.sl false e r) => some { m with vs := (i, ⟨.sl false e r, []⟩) :: m.vs }
    | _ => none
  | .vw k, .vw k' [] none => match addKey m.ro k k' with
    | some l => some { m with ro := l }
    | none => none
  | .vw k, .nil => some { m with nl := k :: m.nl }
  | .vs k i f, .vw k' [(n, g)] none => if f = g then match addKey m.ro k k' with
    | some l => some { m with ro := l, vs := (i, ⟨.int .i64, ((n : Nat) : Int)⟩) :: m.vs }
    | none => none
    else none
  | .ww k i j, .vw k' [] (some (a, b)) => match addKey m.ro k k' with
    | some l => some { m with ro := l, vs := (i, ⟨.int .i64, ((a : Nat) : Int)⟩) :: (j, ⟨.int .i64, ((b : Nat) : Int)⟩) :: m.vs }
    | none => none
  | .nil, .nil => some m
  | .no, _ => some m
  | _, _ => none
def TL.mts (holes : List Ty) : Mt → List TL → List Leaf → Option Mt
  | m, [], [] => some m
  | m, t :: ts, l :: ls => match t.mt holes m l with
    | some m' => TL.mts holes m' ts ls
    | none => none
  | _, _, _ => none
def TS.mt (holes : List Ty) (m : Mt) : TS → SV → Option Mt
  | .one t, .s (.one l) => t.mt holes m l
  | .ag ts, .s (.ag ls) => TL.mts holes m ts ls
  | .pl k off, .s (.pl k' off') => if off = off' then (match addKey m.rm k k' with
    | some l => some { m with rm := l }
    | none => none) else none
  | .fv f cs, .s (.fv f' cs') => if f = f' ∧ cs = cs' ∧ cs.all (fun p => find m.rm p.1 == some p.1) then some m else none
  | .rp i off, .s (.rp t x off') => if off = off' then some { m with vs := (i, ⟨t, x⟩) :: m.vs } else none
  | _, _ => none
def mtSlots (holes : List Ty) (S : St) : List (Nat × TS) → Mt → Option Mt
  | [], m => some m
  | (i, t) :: l, m => match t.mt holes m (S.sl i) with
    | some m' => mtSlots holes S l m'
    | none => none
def mtRow (holes : List Ty) (S : St) (k : Nat) : List TL → Nat → Mt → Option Mt
  | [], _, m => some m
  | t :: ts, c, m => match t.mt holes m (S.mc k c) with
    | some m' => mtRow holes S k ts (c + 1) m'
    | none => none
def mtMems (holes : List Ty) (S : St) : List (Nat × List TL) → Mt → Option Mt
  | [], m => some m
  | (κ, row) :: l, m => match find m.rm κ with
    | some k => if S.ms k = some row.length then match mtRow holes S k row 0 m with
      | some m' => mtMems holes S l m'
      | none => none
      else none
    | none => none
def mtOwns (holes : List Ty) (S : St) : List (Nat × Nat) → Mt → Option Mt
  | [], m => some m
  | (κ, h) :: l, m => match find m.ro κ with
    | some k => match S.ow k with
      | some o => mtOwns holes S l { m with vs := (h, ⟨.sl true o.e o.r, o.xs⟩) :: m.vs }
      | none => none
    | none => if m.nl.contains κ then match holes[h]? with
      | some (.sl true e r) => mtOwns holes S l { m with vs := (h, ⟨.sl true e r, []⟩) :: m.vs }
      | _ => none
      else none
def tuple (vs : List (Nat × ALeaf)) : (ts : List Ty) → Nat → Option (rowTy ts).D
  | [], _ => some ()
  | [t], i => match find vs i with
    | some ⟨u, x⟩ => if h : u = t then some (h ▸ x) else none
    | none => none
  | t :: u :: ts, i => match find vs i with
    | some ⟨u', x⟩ => if h : u' = t then match tuple vs (u :: ts) (i + 1) with
      | some y => some (h ▸ x, y)
      | none => none
      else none
    | none => none
def Tpl.mt (t : Tpl) (S : St) : Option Mt :=
  match mtSlots t.holes S t.slots { rm := t.mems.map fun p => (p.1, p.1) } with
  | some m => match mtMems t.holes S t.mems m with
    | some m => mtOwns t.holes S t.owns m
    | none => none
  | none => none
def Mt.fine (t : Tpl) (m : Mt) : Bool :=
  unlike (m.vs.map (·.1)) && m.vs.all (fun p => decide (p.1 < t.holes.length)) && unlike (m.ro.map (·.1)) && unlike (m.ro.map (·.2)) && unlike (m.rm.map (·.1)) && unlike (m.rm.map (·.2)) &&
  m.nl.all (fun k => !(m.ro.map (·.1)).contains k && (find t.owns k).isSome) && m.ro.all (fun p => (find t.owns p.1).isSome) && m.rm.all (fun p => (find t.mems p.1).isSome) && m.rm.all (fun p => p.1 == p.2)
def Tpl.prj0 (t : Tpl) (S : St) : Option t.D :=
  match t.mt S with
  | some m => if m.fine t then tuple m.vs t.holes 0 else none
  | none => none
def Tpl.prj (t : Tpl) (S : St) : Option t.D := t.prj0 (freeze (narrow S t.nw) t.fz)
inductive Ex where
  | n | x (id : Nat) | r
  deriving DecidableEq
abbrev Joins := List (Ex × Tpl)
@[reducible] def Joins.D : Joins → Type
  | [] => Empty
  | [a] => a.2.D
  | a :: b :: l => a.2.D ⊕ Joins.D (b :: l)
def Joins.prj : (J : Joins) → Ex → St → Option J.D
  | [], _, _ => none
  | [a], e, S => if e = a.1 then a.2.prj S else none
  | a :: b :: l, e, S => if e = a.1 then (match a.2.prj S with | some x => some (.inl x) | none => none)
    else match Joins.prj (b :: l) e S with | some x => some (.inr x) | none => none
def Joins.inj : (J : Joins) → J.D → Tr (Ex × St)
  | [], x => nomatch x
  | [a], x => .ret (a.1, a.2.inj x)
  | a :: b :: l, s => .alt a.2.D (Joins.D (b :: l)) s (fun x => .ret (a.1, a.2.inj x)) (fun y => Joins.inj (b :: l) y)
def joined (J : Joins) (t : Tr (Ex × St)) : Tr (Ex × St) :=
  match J with
  | [] => t
  | a :: l => .get (Joins.D (a :: l)) (t.bind fun r => Tr.opt (Joins.prj (a :: l) r.1 r.2)).run (Joins.inj (a :: l))
inductive Ann where
  | nil
  | seq (a b : Ann)
  | cond (J : Joins) (a b : Ann)
  | block (J : Joins) (a : Ann)
  | loop (t : Tpl) (J : Joins) (a : Ann)
  | reg (J : Joins)
  | both (J : Joins) (r a b y z : Ann)
def gslot (ops : Array Oper) (j : Nat) : Option Nat := (ops[j]?).bind (·.dst)
structure Rec where
  o : Oper
  ins : List SV
  out : Out
  lg : List Lg
def dstOk (E : Env) (N : Nat) (o : Oper) : Bool := match o.dst with
  | some d => decide (d < N) && !E.fx.contains d
  | none => true
def runOp (E : Env) (N : Nat) (o : Oper) (S : St) : Tr (Out × List Lg) := (core E (opnd S) (o.dst.getD N) o.op).at S []
def noOut : Out := ⟨.un, [], []⟩
def recOf (o : Oper) (S : St) (r : Out × List Lg) : Rec := ⟨o, o.op.operands.toList.map (opnd S), r.1, r.2⟩
def skipRec (o : Oper) : Rec := ⟨o, [], noOut, []⟩
def yesT (E : Env) (N : Nat) (o : Oper) (S : St) : Tr (St × Rec) := (runOp E N o S).bind fun r => .ret (S.app o.dst r.1, recOf o S r)
def nayT (o : Oper) (S : St) : Tr (St × Rec) := .ret (S.app o.dst noOut, skipRec o)
def stepT (E : Env) (N : Nat) (ops : Array Oper) (o : Oper) (S : St) : Tr (St × Rec) :=
  if dstOk E N o then match o.guard with
    | none => yesT E N o S
    | some (j, want) => match gslot ops j with
      | some g => match S.sl g with
        | .s (.one (.v .bool b)) =>
          .br b (if want then yesT E N o (S.put g (.s (.one (.v .bool true)))) else nayT o (S.put g (.s (.one (.v .bool true)))))
            (if want then nayT o (S.put g (.s (.one (.v .bool false)))) else yesT E N o (S.put g (.s (.one (.v .bool false)))))
        | .un => nayT o S
        | _ => .fail
      | none => .fail
    else .fail
def regT (E : Env) (N : Nat) (ops : Array Oper) : List Oper → St → Tr St
  | [], S => .ret S
  | o :: os, S => (stepT E N ops o S).bind fun r => regT E N ops os r.1
def regR (E : Env) (N : Nat) (ops : Array Oper) : List Oper → St → List Rec → Tr (St × List Rec)
  | [], S, l => .ret (S, l.reverse)
  | o :: os, S, l => (stepT E N ops o S).bind fun r => regR E N ops os r.1 (r.2 :: l)
def Leaf.safe (c : List Kl) : Leaf → Bool
  | .vw k st _ => c.all (fun x => x.okV k st)
  | _ => true
def S1.safe (c : List Kl) : S1 → Bool
  | .one l => l.safe c
  | .ag ls => ls.all (Leaf.safe c)
  | .pl k _ => c.all (fun x => x.okM k)
  | .el k st => c.all (fun x => x.okE k st)
  | .rp .. => true
  | .fv _ cs => c.all (fun x => cs.all fun p => x.okM p.1)
def SV.safe (c : List Kl) : SV → Bool
  | .s x => x.safe c
  | .tu xs => xs.all (S1.safe c)
  | .un => true
  | .no => true
def U.safe (c : List Kl) : U → Bool
  | .mc _ _ l => l.safe c
  | .ms _ row => row.all (Leaf.safe c)
  | .ow .. => true
def Lg.safe (c : List Kl) : Lg → Bool
  | .c _ _ l => l.safe c
  | _ => true
def U.hits : U → Lg → Bool
  | .ow k _, .o k' => k == k'
  | .mc k off _, .c k' off' _ => k == k' && off == off'
  | .ms k _, .c k' _ _ => k == k'
  | .ms k _, .m k' => k == k'
  | _, _ => false
def U.meets : U → U → Bool
  | .ow k _, .ow k' _ => k == k'
  | .mc k off _, .mc k' off' _ => k == k' && off == off'
  | .ms k _, .mc k' _ _ => k == k'
  | .mc k _ _, .ms k' _ => k == k'
  | .ms k _, .ms k' _ => k == k'
  | _, _ => false
def Leaf.whole : Leaf → Bool
  | .no => false
  | _ => true
def S1.whole : S1 → Bool
  | .one l => l.whole
  | .ag ls => ls.all Leaf.whole
  | _ => true
def SV.whole : SV → Bool
  | .s x => x.whole
  | .tu xs => xs.all S1.whole
  | .un => true
  | .no => false
def Lg.whole : Lg → Bool
  | .c _ _ l => l.whole
  | _ => true
def Rec.past (a b : Rec) : Bool :=
  (b.out.ks.isEmpty || (a.ins.all SV.whole && a.lg.all Lg.whole)) &&
  a.ins.all (SV.safe b.out.ks) && a.out.x.safe b.out.ks && a.lg.all (Lg.safe b.out.ks) && a.out.us.all (U.safe b.out.ks) &&
  a.lg.all (fun l => b.out.us.all fun u => !u.hits l)
def Rec.apart (a b : Rec) : Bool :=
  a.past b && b.past a && a.out.us.all (fun u => b.out.us.all fun u' => !u.meets u')
def aheadOf (acc : List Nat) (o : Oper) : Nat := o.after.toList.foldl (fun m e => if Region.binds .any e then m ||| ((1 <<< e.on) ||| acc.getD e.on 0) else m) 0
def ahead : List Oper → List Nat → List Nat
  | [], acc => acc
  | o :: os, acc => ahead os (acc ++ [aheadOf acc o])
def backward : List Oper → Nat → Bool
  | [], _ => true
  | o :: os, n => o.after.toList.all (fun e => !Region.binds .any e || decide (e.on < n)) && backward os (n + 1)
def slotsOf (ops : Array Oper) (o : Oper) : List Nat :=
  o.op.operands.toList.filterMap (fun | .tmp t => some t | _ => none) ++ (match o.guard with | some (j, _) => (gslot ops j).toList | none => [])
def slotApart (ops : Array Oper) (a b : Oper) : Bool :=
  (match a.dst with | some d => !(slotsOf ops b).contains d && !(b.dst == some d) | none => true) &&
  (match b.dst with | some d => !(slotsOf ops a).contains d | none => true)
def pairsOk (ops : Array Oper) (b : List Nat) : List (Nat × Rec) → Bool
  | [] => true
  | (i, a) :: l => l.all (fun p => (b.getD p.1 0).testBit i || (slotApart ops a.o p.2.o && a.apart p.2)) && pairsOk ops b l
def numbered {β : Type} : List β → Nat → List (Nat × β)
  | [], _ => []
  | x :: l, n => (n, x) :: numbered l (n + 1)
def regionT (E : Env) (N : Nat) (ops : Array Oper) (draw : Bool) (S : St) : Tr St :=
  if draw then (regR E N ops ops.toList S []).bind fun r => if pairsOk ops (ahead ops.toList []) (numbered r.2 0) && backward ops.toList 0 then .ret r.1 else .fail
  else regT E N ops ops.toList S
open Classical in
noncomputable def bothQ {α : Type} (e : Bool) (a b : Option α) : Option α := if e = true then (if a = b then b else none) else b
noncomputable def vcode (E : Env) (N : Nat) : Ann → Code → St → Tr (Ex × St)
  | _, .skip, S => .ret (.n, S)
  | .reg J, .region _ ops draw, S => joined J ((regionT E N ops draw S).bind fun S => .ret (.n, S))
  | _, .region _ ops draw, S => (regionT E N ops draw S).bind fun S => .ret (.n, S)
  | .seq x y, .seq a b, S => (vcode E N x a S).bind fun r => match r.1 with
    | .n => vcode E N y b r.2
    | e => .ret (e, r.2)
  | .nil, .seq a b, S => (vcode E N .nil a S).bind fun r => match r.1 with
    | .n => vcode E N .nil b r.2
    | e => .ret (e, r.2)
  | .cond J x y, .cond c a b, S => match opnd S c with
    | .s (.one (.v .bool c)) => joined J (.br c (vcode E N x a S) (vcode E N y b S))
    | .s (.one (.qn e)) => .get (Joins.D J) (bothQ e ((vcode E N x a S).bind fun r => Tr.opt (Joins.prj J r.1 r.2)).run ((vcode E N y b S).bind fun r => Tr.opt (Joins.prj J r.1 r.2)).run) (Joins.inj J)
    | _ => .fail
  | .nil, .cond c a b, S => match opnd S c with
    | .s (.one (.v .bool c)) => .br c (vcode E N .nil a S) (vcode E N .nil b S)
    | _ => .fail
  | .both J xr xa xb y z, .seq (.seq r (.cond c a b)) d, S => (vcode E N xr r S).bind fun q => match q.1 with
    | .n => match opnd q.2 c with
      | .s (.one (.qn e)) => .get (Joins.D J) (bothQ e
          (((vcode E N xa a q.2).bind fun p => match p.1 with | .n => vcode E N y d p.2 | e => .ret (e, p.2)).bind fun t => Tr.opt (Joins.prj J t.1 t.2)).run
          (((vcode E N xb b q.2).bind fun p => match p.1 with | .n => vcode E N z d p.2 | e => .ret (e, p.2)).bind fun t => Tr.opt (Joins.prj J t.1 t.2)).run) (Joins.inj J)
      | _ => .fail
    | e => .ret (e, q.2)
  | .block J x, .block id a, S => joined J ((vcode E N x a S).bind fun r => .ret (if r.1 = .x id then .n else r.1, r.2))
  | .nil, .block id a, S => (vcode E N .nil a S).bind fun r => .ret (if r.1 = .x id then .n else r.1, r.2)
  | .loop t J x, .loop a, S => match t.prj S with
    | some x0 => .get (Joins.D J) (loopG (fun y : t.D => ((vcode E N x a (t.inj y)).bind fun r => match r.1 with
        | .n => Tr.opt (match t.prj r.2 with | some z => some (Sum.inl (β := Joins.D J) z) | none => none)
        | e => Tr.opt (match J.prj e r.2 with | some z => some (Sum.inr (α := t.D) z) | none => none)).run) x0) J.inj
    | none => .fail
  | _, .exit id, S => .ret (.x id, S)
  | _, .ret, S => .ret (.r, S)
  | _, _, _ => .fail
def blank : St := ⟨fun _ => .no, fun _ => none, fun _ _ => .no, fun _ => none⟩
def putSlots : List S1 → Nat → St → St
  | [], _, S => S
  | x :: xs, i, S => putSlots xs (i + 1) (S.put i (.s x))
def start (N : Nat) (as : List A1) (rows : List (List ALeaf)) : Option St :=
  match backVals ((List.range rows.length).map (N + 1 + ·)) (kd (N + 2) 0) as, backRows (kd (N + 2) 512) ((List.range rows.length).map (N + 1 + ·)) rows with
  | some vs, some rs => if unlike ((vs.2 ++ rs.2).map (·.1)) then some (putSlots vs.1 0 ((blank.ups (ownsU (vs.2 ++ rs.2))).ups (rs.1.map fun p => .ms p.1 p.2))) else none
  | _, _ => none
def outLeaf (t : Ty) : Leaf → Tr (ALeaf × List Nat)
  | .v u x => .ret (⟨u, x⟩, [])
  | .nil => match t with
    | .sl _ e r => .ret (⟨.sl true e r, []⟩, [])
    | _ => .fail
  | .vw k [] win => (viewT k [] win).bind fun o => .ret (⟨.sl true o.e o.r, o.xs⟩, [k])
  | _ => .fail
def outLeaves : List Ty → List Leaf → Tr (List ALeaf × List Nat)
  | [], [] => .ret ([], [])
  | t :: ts, l :: ls => (outLeaf t l).bind fun x => (outLeaves ts ls).bind fun y => .ret (x.1 :: y.1, x.2 ++ y.2)
  | _, _ => .fail
def outVal (E : Env) (N M : Nat) (t : TypeId) : SV → Tr (A1 × List Nat)
  | .s (.one l) => (outLeaf ((((E.ti t).cells).getD []).headD .unit) l).bind fun x => .ret (.one x.1, x.2)
  | .s (.ag ls) => (outLeaves (((E.ti t).cells).getD []) ls).bind fun x => .ret (.ag x.1, x.2)
  | .s (.pl k off) => if N + 1 ≤ k ∧ k < N + 1 + M then .ret (.pl (k - (N + 1)) off, []) else .fail
  | _ => .fail
def outVals (E : Env) (N M : Nat) (S : St) : List ResultVar → List TypeId → Tr (List A1 × List Nat)
  | [], [] => .ret ([], [])
  | .tmp s :: rs, t :: ts => (outVal E N M t (S.sl s)).bind fun x => (outVals E N M S rs ts).bind fun y => .ret (x.1 :: y.1, x.2 ++ y.2)
  | .cell s t' :: rs, t :: ts => match S.sl s, (E.ti t').cells with
    | .s a, some cs => if cs.isEmpty then .fail else (if (E.ti t').isAgg then (ldCells a cs.length 0).bind fun ls => Tr.ret (SV.s (.ag ls)) else (ldCell a 0).bind fun l => Tr.ret (SV.s (.one l))).bind fun v =>
        (outVal E N M t v).bind fun x => (outVals E N M S rs ts).bind fun y => .ret (x.1 :: y.1, x.2 ++ y.2)
    | _, _ => .fail
  | _, _ => .fail
def outRow (k : Nat) : List ALeaf → Nat → Tr (List ALeaf × List Nat)
  | [], _ => .ret ([], [])
  | r :: rs, c => .rdC k c fun l => (outLeaf r.1 l).bind fun x => (outRow k rs (c + 1)).bind fun y => .ret (x.1 :: y.1, x.2 ++ y.2)
def outRows (N : Nat) : List (List ALeaf) → Nat → Tr (List (List ALeaf) × List Nat)
  | [], _ => .ret ([], [])
  | r :: rs, m => .rdM (N + 1 + m) fun n => if n = some r.length then (outRow (N + 1 + m) r 0).bind fun x => (outRows N rs (m + 1)).bind fun y => .ret (x.1 :: y.1, x.2 ++ y.2)
    else .fail
def lentAt (S : St) (p : Nat × Nat) : Leaf := match S.sl p.1 with
  | .s (.one l) => if p.2 = 0 then l else .no
  | .s (.ag ls) => ls.getD p.2 .no
  | _ => .no
def outLents (S : St) : List (Nat × Nat) → Tr (List ((Nat × Nat) × ALeaf) × List Nat)
  | [] => .ret ([], [])
  | p :: ps => match lentAt S p with
    | .vw k [] none => (viewT k [] none).bind fun o => (outLents S ps).bind fun y => .ret ((p, ⟨.sl true o.e o.r, o.xs⟩) :: y.1, k :: y.2)
    | _ => .fail
def finish (E : Env) (N : Nat) (fn : Func) (rows : List (List ALeaf)) (ln : List (Nat × Nat)) (S : St) : Tr Res :=
  (((outVals E N rows.length S fn.results.toList fn.resultTypes.toList).bind fun v => (outRows N rows 0).bind fun r => (outLents S ln).bind fun t => Tr.ret (v, r, t)).at S []).bind fun p =>
    if unlike (p.1.1.2 ++ (p.1.2.1.2 ++ p.1.2.2.2)) then .ret ⟨p.1.1.1, p.1.2.1.1, p.1.2.2.1⟩ else .fail
noncomputable def vfun (E : Env) (fn : Func) (J : Joins) (ann : Ann) (ln : List (Nat × Nat)) (args : List A1) (rows : List (List ALeaf)) : Tr Res :=
  match fn.body with
  | some c => if (args.length = fn.params.size + fn.nfree ∧ args.length ≤ fn.ntmps) ∧ ln.all (fun p => E.fx.contains p.1 && decide (p.1 < args.length)) = true then
      match start fn.ntmps args rows with
      | some S => (joined J (vcode E fn.ntmps ann c S)).bind fun r => match r.1 with
        | .x _ => .fail
        | _ => finish E fn.ntmps fn rows ln r.2
      | none => .fail
      else .fail
  | none => .fail
end Go.V

set_option linter.unusedVariables false
set_option maxRecDepth 100000
namespace Go.V.G
noncomputable section
def s_l1Cur_next_f (x0 : List Int) (x1 : Int) (x2 : Int) : Option ((Int × (List Int × (Int × Int)))) :=
  Option.bind (α := (Int × (List Int × (Int × Int)))) (
      if (decide ((x1 : Int) < ((List.length x0 : Nat) : Int))) = true then
        if (decide ((0 : Int) ≤ x1)) = true then
        Option.bind (x0[Int.toNat x1]?) fun r1 =>
        some (IntKind.wrap .i64 r1, x0, x1, x2)
        else none
      else
        some (0, x0, x1, x2)) fun v2 =>
  if (decide ((IntKind.wrap .i64 (v2.2.2.1 + 1) : Int) ≤ ((List.length v2.2.1 : Nat) : Int))) = true then
    some (v2.1, v2.2.1, IntKind.wrap .i64 (v2.2.2.1 + 1), IntKind.wrap .u64 ((IntKind.wrap .u64 ((IntKind.wrap .u64 (v2.2.2.2 * 6364136223846793005)) + (IntKind.wrap .u64 v2.1))) + 1442695040888963407))
  else
  if (decide ((0 : Int) ≤ 40)) = true then
  some (IntKind.wrap .i64 (IntKind.wrap .u64 (((BitVec.ofInt (IntKind.bits .u64) (Int.fdiv (IntKind.wrap .u64 ((IntKind.wrap .u64 ((IntKind.wrap .u64 (v2.2.2.2 * 6364136223846793005)) + (IntKind.wrap .u64 v2.1))) + 1442695040888963407)) (2 ^ (min (Int.toNat 40) (IntKind.bits .u64)))) &&& BitVec.ofInt (IntKind.bits .u64) 255).toNat : Int))), v2.2.1, IntKind.wrap .i64 (v2.2.2.1 + 1), IntKind.wrap .u64 ((IntKind.wrap .u64 ((IntKind.wrap .u64 (v2.2.2.2 * 6364136223846793005)) + (IntKind.wrap .u64 v2.1))) + 1442695040888963407))
  else none
def s_l1Cur_pick_f (x0 : Int) (x1 : List Int) (x2 : Int) (x3 : Int) : Option ((Int × (List Int × (Int × Int)))) :=
  if (decide ((x0 : Int) ≤ 1)) = true then
    some (0, x1, x2, x3)
  else
    Option.bind (s_l1Cur_next_f x1 x2 x3) fun c1 =>
    Option.bind (α := (Int × (Int × (List Int × (Int × Int))))) (
        if (decide ((200 : Int) < x0)) = true then
          Option.bind (s_l1Cur_next_f c1.2.1 c1.2.2.1 c1.2.2.2) fun c2 =>
          some (x0, IntKind.wrap .i64 ((IntKind.wrap .i64 (c1.1 * 256)) + c2.1), c2.2.1, c2.2.2.1, c2.2.2.2)
        else
          some (x0, c1.1, c1.2.1, c1.2.2.1, c1.2.2.2)) fun v3 =>
    if (decide (¬ (v3.1 : Int) = 0)) = true then
    some (Int.tmod v3.2.1 v3.1, v3.2.2.1, v3.2.2.2.1, v3.2.2.2.2)
    else none
def s_l1Cur_one_f (x0 : Int) (x1 : List Int) (x2 : Int) (x3 : Int) : Option ((Bool × (List Int × (Int × Int)))) :=
  Option.bind (s_l1Cur_pick_f x0 x1 x2 x3) fun c1 =>
  some (decide ((c1.1 : Int) = 0), c1.2.1, c1.2.2.1, c1.2.2.2)
def s_l1Cur_wide_f_L1 (y : (Int × (Int × (List Int × (Int × Int))))) : Option ((Int × (Int × (List Int × (Int × Int)))) ⊕ (Int × (List Int × (Int × Int)))) :=
  if (decide ((y.2.1 : Int) < 8)) = true then
    if (decide ((0 : Int) ≤ 8)) = true then
    Option.bind (s_l1Cur_next_f y.2.2.1 y.2.2.2.1 y.2.2.2.2) fun c1 =>
    some (.inl (IntKind.wrap .i64 (((BitVec.ofInt (IntKind.bits .i64) (IntKind.wrap .i64 (y.1 * 2 ^ (min (Int.toNat 8) (IntKind.bits .i64)))) ||| BitVec.ofInt (IntKind.bits .i64) c1.1).toNat : Int)), IntKind.wrap .i64 (y.2.1 + 1), c1.2.1, c1.2.2.1, c1.2.2.2))
    else none
  else
    some (.inr (y.1, y.2.2.1, y.2.2.2.1, y.2.2.2.2))
def s_l1Cur_wide_f (x0 : List Int) (x1 : Int) (x2 : Int) : Option ((Int × (List Int × (Int × Int)))) :=
  Option.bind (loopG s_l1Cur_wide_f_L1 (0, 0, x0, x1, x2)) fun v2 =>
  some (v2.1, v2.2.1, v2.2.2.1, v2.2.2.2)
def s_l1Cur_sized_f (x0 : List Int) (x1 : Int) (x2 : Int) : Option ((Int × (List Int × (Int × Int)))) :=
  Option.bind (s_l1Cur_pick_f 5 x0 x1 x2) fun c1 =>
  Option.bind (s_l1Cur_pick_f 8 c1.2.1 c1.2.2.1 c1.2.2.2) fun c2 =>
  Option.bind (α := (Int × (List Int × (Int × Int)))) (
      if (decide ((c2.1 : Int) = 0)) = true then
        Option.bind (s_l1Cur_pick_f 300 c2.2.1 c2.2.2.1 c2.2.2.2) fun c3 =>
        some (c3.1, c3.2.1, c3.2.2.1, c3.2.2.2)
      else
        Option.bind (α := (Int × (List Int × (Int × Int)))) (
            if (decide ((c2.1 : Int) = 1)) = true then
              Option.bind (s_l1Cur_wide_f c2.2.1 c2.2.2.1 c2.2.2.2) fun c4 =>
              Option.bind (s_l1Cur_pick_f 64 c4.2.1 c4.2.2.1 c4.2.2.2) fun c5 =>
              if (decide ((0 : Int) ≤ IntKind.wrap .u64 c5.1)) = true then
              some (Int.fdiv c4.1 (2 ^ (min (Int.toNat (IntKind.wrap .u64 c5.1)) (IntKind.bits .i64))), c5.2.1, c5.2.2.1, c5.2.2.2)
              else none
            else
              Option.bind (α := (Int × (List Int × (Int × Int)))) (
                  if (decide ((c2.1 : Int) = 2)) = true then
                    Option.bind (s_l1Cur_pick_f 64 c2.2.1 c2.2.2.1 c2.2.2.2) fun c6 =>
                    if (decide ((0 : Int) ≤ IntKind.wrap .u64 c6.1)) = true then
                    some (IntKind.wrap .i64 (1 * 2 ^ (min (Int.toNat (IntKind.wrap .u64 c6.1)) (IntKind.bits .i64))), c6.2.1, c6.2.2.1, c6.2.2.2)
                    else none
                  else
                    Option.bind (α := (Int × (List Int × (Int × Int)))) (
                        if (decide ((c2.1 : Int) = 3)) = true then
                          Option.bind (s_l1Cur_pick_f 64 c2.2.1 c2.2.2.1 c2.2.2.2) fun c7 =>
                          if (decide ((0 : Int) ≤ IntKind.wrap .u64 c7.1)) = true then
                          some (IntKind.wrap .i64 ((IntKind.wrap .i64 (1 * 2 ^ (min (Int.toNat (IntKind.wrap .u64 c7.1)) (IntKind.bits .i64)))) - 1), c7.2.1, c7.2.2.1, c7.2.2.2)
                          else none
                        else
                          some (c1.1, c2.2.1, c2.2.2.1, c2.2.2.2)) fun v8 =>
                    some (v8.1, v8.2.1, v8.2.2.1, v8.2.2.2)) fun v9 =>
              some (v9.1, v9.2.1, v9.2.2.1, v9.2.2.2)) fun v10 =>
        some (v10.1, v10.2.1, v10.2.2.1, v10.2.2.2)) fun v11 =>
  Option.bind (s_l1Cur_one_f 3 v11.2.1 v11.2.2.1 v11.2.2.2) fun c12 =>
  Option.bind (α := (Int × (List Int × (Int × Int)))) (
      if c12.1 = true then
        some (IntKind.wrap .i64 (0 - v11.1), c12.2.1, c12.2.2.1, c12.2.2.2)
      else
        some (v11.1, c12.2.1, c12.2.2.1, c12.2.2.2)) fun v13 =>
  some (v13.1, v13.2.1, v13.2.2.1, v13.2.2.2)
def s_l1Cur_part_f (x0 : List Int) (x1 : Int) (x2 : Int) : Option ((Int × (Int × (List UInt8 × (List Int × (Int × Int)))))) :=
  Option.bind (s_l1Cur_pick_f 5 x0 x1 x2) fun c1 =>
  if (decide ((c1.1 : Int) = 0)) = true then
    some (0, 0, [], c1.2.1, c1.2.2.1, c1.2.2.2)
  else
  if (decide ((c1.1 : Int) = 1)) = true then
    Option.bind (s_l1Cur_sized_f c1.2.1 c1.2.2.1 c1.2.2.2) fun c2 =>
    some (c2.1, 0, [], c2.2.1, c2.2.2.1, c2.2.2.2)
  else
  if (decide ((c1.1 : Int) = 2)) = true then
    Option.bind (s_l1Cur_sized_f c1.2.1 c1.2.2.1 c1.2.2.2) fun c3 =>
    some (0, c3.1, [], c3.2.1, c3.2.2.1, c3.2.2.2)
  else
  if (decide ((c1.1 : Int) = 3)) = true then
    some (1, 0, ([97] : List UInt8), c1.2.1, c1.2.2.1, c1.2.2.2)
  else
    Option.bind (s_l1Cur_pick_f 2 c1.2.1 c1.2.2.1 c1.2.2.2) fun c4 =>
    if (decide ((0 : Int) ≤ IntKind.wrap .i64 (120 + c4.1))) = true then
    if (decide ((IntKind.wrap .i64 (120 + c4.1) : Int) ≤ IntKind.wrap .i64 (120 + c4.1))) = true then
    if (roomFor (Int.toNat (IntKind.wrap .i64 (120 + c4.1))) 1) = true then
    some (0, 0, textOf (List.replicate (Int.toNat (IntKind.wrap .i64 (120 + c4.1))) (0 : Int)), c4.2.1, c4.2.2.1, c4.2.2.2)
    else none
    else none
    else none
def s_l1Cur_size_f (x0 : List Int) (x1 : Int) (x2 : Int) : Option ((Int × (List Int × (Int × Int)))) :=
  Option.bind (s_l1Cur_one_f 10 x0 x1 x2) fun c1 =>
  if c1.1 = true then
    Option.bind (s_l1Cur_pick_f 3 c1.2.1 c1.2.2.1 c1.2.2.2) fun c2 =>
    some (IntKind.wrap .i64 (120 - c2.1), c2.2.1, c2.2.2.1, c2.2.2.2)
  else
    Option.bind (s_l1Cur_pick_f 14 c1.2.1 c1.2.2.1 c1.2.2.2) fun c3 =>
    some (c3.1, c3.2.1, c3.2.2.1, c3.2.2.2)
def s_l1Cur_of_f (x0 : List (List UInt8)) (x1 : List Int) (x2 : Int) (x3 : Int) : Option ((List UInt8 × (List Int × (Int × Int)))) :=
  Option.bind (s_l1Cur_pick_f ((List.length x0 : Nat) : Int) x1 x2 x3) fun c1 =>
  if (decide ((0 : Int) ≤ c1.1)) = true then
  if (decide ((c1.1 : Int) < ((List.length x0 : Nat) : Int))) = true then
  Option.bind (x0[0 + Int.toNat c1.1]?) fun r2 =>
  some (r2, c1.2.1, c1.2.2.1, c1.2.2.2)
  else none
  else none
def s_l1Cur_put_f (x0 : List Int) (x1 : Int) (x2 : Int) : Option ((List UInt8 × (List Int × (Int × Int)))) :=
  Option.bind (s_l1Cur_of_f [([97] : List UInt8), ([120, 121] : List UInt8), ([90, 122, 57] : List UInt8), ([0] : List UInt8), ([255, 254] : List UInt8), ([119, 111, 114, 100, 32] : List UInt8)] x0 x1 x2) fun c1 =>
  some (c1.1, c1.2.1, c1.2.2.1, c1.2.2.2)
def s_l1Kind (x0 : Int) (x1 : Int) (x2 : List UInt8) : Option (Int) :=
  Option.bind (α := (Bool × (Int × (Int × List UInt8)))) (
      if (decide ((0 : Int) < x0)) = true then
        if (decide ((x1 : Int) = 0)) = true then
          some (((x2 : List UInt8) == ([] : List UInt8)), x0, x1, x2)
        else
        some (false, x0, x1, x2)
      else
      some (false, x0, x1, x2)) fun v1 =>
  if v1.1 = true then
    some 1
  else
    Option.bind (α := (Bool × (Int × (Int × List UInt8)))) (
        if (decide ((v1.2.1 : Int) = 0)) = true then
          if (decide ((0 : Int) < v1.2.2.1)) = true then
            some (((v1.2.2.2 : List UInt8) == ([] : List UInt8)), v1.2.1, v1.2.2.1, v1.2.2.2)
          else
          some (false, v1.2.1, v1.2.2.1, v1.2.2.2)
        else
        some (false, v1.2.1, v1.2.2.1, v1.2.2.2)) fun v2 =>
    if v2.1 = true then
      some 2
    else
      Option.bind (α := Bool) (
          if (decide ((v2.2.1 : Int) = 0)) = true then
            if (decide ((v2.2.2.1 : Int) = 0)) = true then
              some (!((v2.2.2.2 : List UInt8) == ([] : List UInt8)))
            else
            some false
          else
          some false) fun v3 =>
      if v3 = true then
        some 3
      else
        some 0
def s_l1Add (x0 : List (Int × (Int × List UInt8))) (x1 : Int) (x2 : Int) (x3 : List UInt8) : Option (List (Int × (Int × List UInt8))) :=
  if (decide ((x1 : Int) = 0) && (decide ((x2 : Int) = 0) && (((x3 : List UInt8) == []) && true))) = true then
    some x0
  else
    Option.bind (α := (List (Int × (Int × List UInt8)) × (Int × (Bool × (Int × (Int × List UInt8)))))) (
        if (decide ((0 : Int) < ((List.length x0 : Nat) : Int))) = true then
          if (decide ((0 : Int) ≤ IntKind.wrap .i64 (((List.length x0 : Nat) : Int) - 1))) = true then
          if (decide ((IntKind.wrap .i64 (((List.length x0 : Nat) : Int) - 1) : Int) < ((List.length x0 : Nat) : Int))) = true then
          Option.bind (x0[0 + Int.toNat (IntKind.wrap .i64 (((List.length x0 : Nat) : Int) - 1))]?) fun r1 =>
          Option.bind (x0[0 + Int.toNat (IntKind.wrap .i64 (((List.length x0 : Nat) : Int) - 1))]?) fun r2 =>
          Option.bind (x0[0 + Int.toNat (IntKind.wrap .i64 (((List.length x0 : Nat) : Int) - 1))]?) fun r3 =>
          Option.bind (s_l1Kind r1.1 r2.2.1 r3.2.2) fun c4 =>
          Option.bind (s_l1Kind x1 x2 x3) fun c5 =>
          some (x0, ((List.length x0 : Nat) : Int), decide ((c4 : Int) = c5), x1, x2, x3)
          else none
          else none
        else
        some (x0, ((List.length x0 : Nat) : Int), false, x1, x2, x3)) fun v6 =>
    if v6.2.2.1 = true then
      if (decide ((0 : Int) ≤ IntKind.wrap .i64 (v6.2.1 - 1))) = true then
      if (decide ((IntKind.wrap .i64 (v6.2.1 - 1) : Int) < ((List.length v6.1 : Nat) : Int))) = true then
      Option.bind (v6.1[0 + Int.toNat (IntKind.wrap .i64 (v6.2.1 - 1))]?) fun r7 =>
      if (decide ((0 : Int) ≤ IntKind.wrap .i64 (v6.2.1 - 1))) = true then
      if (decide ((IntKind.wrap .i64 (v6.2.1 - 1) : Int) < ((List.length v6.1 : Nat) : Int))) = true then
      Option.bind (v6.1[0 + Int.toNat (IntKind.wrap .i64 (v6.2.1 - 1))]?) fun r8 =>
      if (decide ((0 : Int) ≤ IntKind.wrap .i64 (v6.2.1 - 1))) = true then
      if (decide ((IntKind.wrap .i64 (v6.2.1 - 1) : Int) < ((List.length v6.1 : Nat) : Int))) = true then
      Option.bind (v6.1[0 + Int.toNat (IntKind.wrap .i64 (v6.2.1 - 1))]?) fun r9 =>
      if (decide ((List.length r9.2.2 + List.length v6.2.2.2.2.2 : Nat) ≤ 9223372036854775807)) = true then
      if (decide ((0 : Int) ≤ IntKind.wrap .i64 (v6.2.1 - 1))) = true then
      if (decide ((IntKind.wrap .i64 (v6.2.1 - 1) : Int) < ((List.length v6.1 : Nat) : Int))) = true then
      Option.bind (v6.1[0 + Int.toNat (IntKind.wrap .i64 (v6.2.1 - 1))]?) fun r10 =>
      Option.bind (v6.1[0 + Int.toNat (IntKind.wrap .i64 (v6.2.1 - 1))]?) fun r11 =>
      Option.bind ((v6.1.set (0 + Int.toNat (IntKind.wrap .i64 (v6.2.1 - 1))) (IntKind.wrap .i64 (r7.1 + v6.2.2.2.1), r11.2))[0 + Int.toNat (IntKind.wrap .i64 (v6.2.1 - 1))]?) fun r12 =>
      Option.bind ((v6.1.set (0 + Int.toNat (IntKind.wrap .i64 (v6.2.1 - 1))) (IntKind.wrap .i64 (r7.1 + v6.2.2.2.1), r11.2))[0 + Int.toNat (IntKind.wrap .i64 (v6.2.1 - 1))]?) fun r13 =>
      Option.bind (((v6.1.set (0 + Int.toNat (IntKind.wrap .i64 (v6.2.1 - 1))) (IntKind.wrap .i64 (r7.1 + v6.2.2.2.1), r11.2)).set (0 + Int.toNat (IntKind.wrap .i64 (v6.2.1 - 1))) (r13.1, (IntKind.wrap .i64 (r8.2.1 + v6.2.2.2.2.1), r13.2.2)))[0 + Int.toNat (IntKind.wrap .i64 (v6.2.1 - 1))]?) fun r14 =>
      Option.bind (((v6.1.set (0 + Int.toNat (IntKind.wrap .i64 (v6.2.1 - 1))) (IntKind.wrap .i64 (r7.1 + v6.2.2.2.1), r11.2)).set (0 + Int.toNat (IntKind.wrap .i64 (v6.2.1 - 1))) (r13.1, (IntKind.wrap .i64 (r8.2.1 + v6.2.2.2.2.1), r13.2.2)))[0 + Int.toNat (IntKind.wrap .i64 (v6.2.1 - 1))]?) fun r15 =>
      some (((v6.1.set (0 + Int.toNat (IntKind.wrap .i64 (v6.2.1 - 1))) (IntKind.wrap .i64 (r7.1 + v6.2.2.2.1), r11.2)).set (0 + Int.toNat (IntKind.wrap .i64 (v6.2.1 - 1))) (r13.1, (IntKind.wrap .i64 (r8.2.1 + v6.2.2.2.2.1), r13.2.2))).set (0 + Int.toNat (IntKind.wrap .i64 (v6.2.1 - 1))) (r15.1, (r15.2.1, (r9.2.2 : List UInt8) ++ v6.2.2.2.2.2)))
      else none
      else none
      else none
      else none
      else none
      else none
      else none
      else none
      else none
    else
    if (roomFor (List.length v6.1 + List.length ([(v6.2.2.2.1, (v6.2.2.2.2.1, v6.2.2.2.2.2))] : List (Int × (Int × List UInt8)))) 32) = true then
    some (v6.1 ++ ([(v6.2.2.2.1, (v6.2.2.2.2.1, v6.2.2.2.2.2))] : List (Int × (Int × List UInt8))))
    else none
def s_l1Cur_changeOf_f_L1 (y : (Int × (List (Int × (Int × List UInt8)) × (Int × (List Int × (Int × Int)))))) : Option ((Int × (List (Int × (Int × List UInt8)) × (Int × (List Int × (Int × Int))))) ⊕ (List (Int × (Int × List UInt8)) × (Int × (List Int × (Int × Int))))) :=
  if (decide ((0 : Int) < y.1)) = true then
    Option.bind (s_l1Cur_put_f y.2.2.2.1 y.2.2.2.2.1 y.2.2.2.2.2) fun c14 =>
    Option.bind (α := (Int × (List (Int × (Int × List UInt8)) × (Int × (List UInt8 × (Bool × (List Int × (Int × Int)))))))) (
        Option.bind (s_l1Cur_one_f 3 c14.2.1 c14.2.2.1 c14.2.2.2) fun c15 =>
        if c15.1 = true then
          some (y.1, y.2.1, y.2.2.1, c14.1, decide ((((List.length c14.1 : Nat) : Int) : Int) ≤ y.2.2.1), c15.2.1, c15.2.2.1, c15.2.2.2)
        else
        some (y.1, y.2.1, y.2.2.1, c14.1, false, c15.2.1, c15.2.2.1, c15.2.2.2)) fun v16 =>
    Option.bind (α := (Int × (List (Int × (Int × List UInt8)) × (Int × (List Int × (Int × Int)))))) (
        if v16.2.2.2.2.1 = true then
          Option.bind (s_l1Add v16.2.1 0 0 v16.2.2.2.1) fun c17 =>
          some (v16.1, c17, IntKind.wrap .i64 (v16.2.2.1 - ((List.length v16.2.2.2.1 : Nat) : Int)), v16.2.2.2.2.2.1, v16.2.2.2.2.2.2.1, v16.2.2.2.2.2.2.2)
        else
          some (v16.1, v16.2.1, v16.2.2.1, v16.2.2.2.2.2.1, v16.2.2.2.2.2.2.1, v16.2.2.2.2.2.2.2)) fun v18 =>
    Option.bind (s_l1Cur_pick_f 6 v18.2.2.2.1 v18.2.2.2.2.1 v18.2.2.2.2.2) fun c19 =>
    Option.bind (s_l1Cur_one_f 6 c19.2.1 c19.2.2.1 c19.2.2.2) fun c20 =>
    Option.bind (α := (Int × (List (Int × (Int × List UInt8)) × (Int × (Int × (List Int × (Int × Int))))))) (
        if c20.1 = true then
          some (v18.1, v18.2.1, v18.2.2.1, v18.1, c20.2.1, c20.2.2.1, c20.2.2.2)
        else
          some (v18.1, v18.2.1, v18.2.2.1, IntKind.wrap .i64 (1 + c19.1), c20.2.1, c20.2.2.1, c20.2.2.2)) fun v21 =>
    Option.bind (α := (Int × (List (Int × (Int × List UInt8)) × (Int × (Int × (List Int × (Int × Int))))))) (
        if (decide ((v21.1 : Int) < v21.2.2.2.1)) = true then
          some (v21.1, v21.2.1, v21.2.2.1, v21.1, v21.2.2.2.2.1, v21.2.2.2.2.2.1, v21.2.2.2.2.2.2)
        else
          some (v21.1, v21.2.1, v21.2.2.1, v21.2.2.2.1, v21.2.2.2.2.1, v21.2.2.2.2.2.1, v21.2.2.2.2.2.2)) fun v22 =>
    Option.bind (s_l1Cur_one_f 3 v22.2.2.2.2.1 v22.2.2.2.2.2.1 v22.2.2.2.2.2.2) fun c23 =>
    Option.bind (α := (Int × (List (Int × (Int × List UInt8)) × (Int × (Int × (List Int × (Int × Int))))))) (
        if c23.1 = true then
          Option.bind (s_l1Add v22.2.1 0 v22.2.2.2.1 []) fun c24 =>
          some (v22.1, c24, IntKind.wrap .i64 (v22.2.2.1 + v22.2.2.2.1), v22.2.2.2.1, c23.2.1, c23.2.2.1, c23.2.2.2)
        else
          Option.bind (s_l1Add v22.2.1 v22.2.2.2.1 0 []) fun c25 =>
          some (v22.1, c25, v22.2.2.1, v22.2.2.2.1, c23.2.1, c23.2.2.1, c23.2.2.2)) fun v26 =>
    some (.inl (IntKind.wrap .i64 (v26.1 - v26.2.2.2.1), v26.2.1, v26.2.2.1, v26.2.2.2.2.1, v26.2.2.2.2.2.1, v26.2.2.2.2.2.2))
  else
    some (.inr (y.2.1, y.2.2.1, y.2.2.2.1, y.2.2.2.2.1, y.2.2.2.2.2))
def s_l1Cur_changeOf_f (x0 : Int) (x1 : List Int) (x2 : Int) (x3 : Int) : Option ((List (Int × (Int × List UInt8)) × (List Int × (Int × Int)))) :=
  Option.bind (loopG s_l1Cur_changeOf_f_L1 (x0, [], IntKind.wrap .i64 (120 - x0), x1, x2, x3)) fun v27 =>
  Option.bind (s_l1Cur_put_f v27.2.2.1 v27.2.2.2.1 v27.2.2.2.2) fun c28 =>
  Option.bind (α := (List (Int × (Int × List UInt8)) × (List UInt8 × (Bool × (List Int × (Int × Int)))))) (
      Option.bind (s_l1Cur_one_f 2 c28.2.1 c28.2.2.1 c28.2.2.2) fun c29 =>
      if c29.1 = true then
        some (v27.1, c28.1, decide ((((List.length c28.1 : Nat) : Int) : Int) ≤ v27.2.1), c29.2.1, c29.2.2.1, c29.2.2.2)
      else
      some (v27.1, c28.1, false, c29.2.1, c29.2.2.1, c29.2.2.2)) fun v30 =>
  Option.bind (α := (List (Int × (Int × List UInt8)) × (List Int × (Int × Int)))) (
      if v30.2.2.1 = true then
        Option.bind (s_l1Add v30.1 0 0 v30.2.1) fun c31 =>
        some (c31, v30.2.2.2.1, v30.2.2.2.2.1, v30.2.2.2.2.2)
      else
        some (v30.1, v30.2.2.2.1, v30.2.2.2.2.1, v30.2.2.2.2.2)) fun v32 =>
  Option.bind (s_l1Cur_one_f 60 v32.2.1 v32.2.2.1 v32.2.2.2) fun c33 =>
  Option.bind (α := (List (Int × (Int × List UInt8)) × (List Int × (Int × Int)))) (
      if c33.1 = true then
        Option.bind (s_l1Cur_part_f c33.2.1 c33.2.2.1 c33.2.2.2) fun c34 =>
        if (roomFor (List.length v32.1 + List.length ([(c34.1, (c34.2.1, c34.2.2.1))] : List (Int × (Int × List UInt8)))) 32) = true then
        some (v32.1 ++ ([(c34.1, (c34.2.1, c34.2.2.1))] : List (Int × (Int × List UInt8))), c34.2.2.2.1, c34.2.2.2.2.1, c34.2.2.2.2.2)
        else none
      else
        some (v32.1, c33.2.1, c33.2.2.1, c33.2.2.2)) fun v35 =>
  some (v35.1, v35.2.1, v35.2.2.1, v35.2.2.2)
def s_DrawGoodChange_L1 (y : (List (Int × (Int × List UInt8)) × (Int × (List Int × (Int × Int))))) : Option ((List (Int × (Int × List UInt8)) × (Int × (List Int × (Int × Int)))) ⊕ (List (Int × (Int × List UInt8)))) :=
  if (decide ((0 : Int) < y.2.1)) = true then
    Option.bind (s_l1Cur_part_f y.2.2.1 y.2.2.2.1 y.2.2.2.2) fun c4 =>
    if (roomFor (List.length y.1 + List.length ([(c4.1, (c4.2.1, c4.2.2.1))] : List (Int × (Int × List UInt8)))) 32) = true then
    some (.inl (y.1 ++ ([(c4.1, (c4.2.1, c4.2.2.1))] : List (Int × (Int × List UInt8))), IntKind.wrap .i64 (y.2.1 - 1), c4.2.2.2.1, c4.2.2.2.2.1, c4.2.2.2.2.2))
    else none
  else
    some (.inr y.1)
def s_DrawGoodChange (x0 : List Int) : Option (List (Int × (Int × List UInt8))) :=
  Option.bind (s_l1Cur_one_f 4 x0 0 0) fun c1 =>
  if c1.1 = true then
    Option.bind (s_l1Cur_pick_f 5 c1.2.1 c1.2.2.1 c1.2.2.2) fun c2 =>
    Option.bind (loopG s_DrawGoodChange_L1 ([], c2.1, c2.2.1, c2.2.2.1, c2.2.2.2)) fun v5 =>
    some v5
  else
    Option.bind (s_l1Cur_size_f c1.2.1 c1.2.2.1 c1.2.2.2) fun c6 =>
    Option.bind (s_l1Cur_changeOf_f c6.1 c6.2.1 c6.2.2.1 c6.2.2.2) fun c7 =>
    some c7.1
def s_DrawChangeText (x0 : List Int) : Option (List (Int × (Int × List UInt8))) :=
  Option.bind (s_DrawGoodChange x0) fun c1 =>
  some c1
def i_Part_kind (x0 : Int) (x1 : Int) (x2 : List UInt8) : Option (Int) :=
  Option.bind (α := (Bool × (Int × (Int × List UInt8)))) (
      if (decide ((0 : Int) < x0)) = true then
        if (decide ((x1 : Int) = 0)) = true then
          some (((x2 : List UInt8) == ([] : List UInt8)), x0, x1, x2)
        else
        some (false, x0, x1, x2)
      else
      some (false, x0, x1, x2)) fun v1 =>
  if v1.1 = true then
    some 1
  else
    Option.bind (α := (Bool × (Int × (Int × List UInt8)))) (
        if (decide ((0 : Int) < v1.2.2.1)) = true then
          if (decide ((v1.2.1 : Int) = 0)) = true then
            some (((v1.2.2.2 : List UInt8) == ([] : List UInt8)), v1.2.1, v1.2.2.1, v1.2.2.2)
          else
          some (false, v1.2.1, v1.2.2.1, v1.2.2.2)
        else
        some (false, v1.2.1, v1.2.2.1, v1.2.2.2)) fun v2 =>
    if v2.1 = true then
      some 2
    else
      Option.bind (α := Bool) (
          if (!((v2.2.2.2 : List UInt8) == ([] : List UInt8))) = true then
            if (decide ((v2.2.1 : Int) = 0)) = true then
              some (decide ((v2.2.2.1 : Int) = 0))
            else
            some false
          else
          some false) fun v3 =>
      if v3 = true then
        some 3
      else
        some 0
def i_lengths_L1 (y : (Int × (Int × (List (Int × (Int × List UInt8)) × (Int × Int))))) : Option ((Int × (Int × (List (Int × (Int × List UInt8)) × (Int × Int)))) ⊕ ((Int × Int) ⊕ (Int × (Int × Bool)))) :=
  if (decide ((y.2.2.2.2 : Int) < y.2.2.2.1)) = true then
    if (decide ((0 : Int) ≤ y.2.2.2.2)) = true then
    Option.bind (y.2.2.1[Int.toNat y.2.2.2.2]?) fun r1 =>
    Option.bind (α := (Int × (Int × (List (Int × (Int × List UInt8)) × (Int × (Int × (Bool × (Int × (Int × List UInt8))))))))) (
        if (decide ((120 : Int) < r1.1)) = true then
          some (y.1, y.2.1, y.2.2.1, y.2.2.2.1, y.2.2.2.2, true, r1.1, r1.2.1, r1.2.2)
        else
        some (y.1, y.2.1, y.2.2.1, y.2.2.2.1, y.2.2.2.2, decide ((120 : Int) < r1.2.1), r1.1, r1.2.1, r1.2.2)) fun v2 =>
    if v2.2.2.2.2.2.1 = true then
      some (.inr (.inr (0, 0, false)))
    else
      Option.bind (α := (Int × (Int × (List (Int × (Int × List UInt8)) × (Int × (Int × Bool)))))) (
          if (decide ((120 : Int) < (IntKind.wrap .i64 (v2.1 + (IntKind.wrap .i64 (v2.2.2.2.2.2.2.1 + v2.2.2.2.2.2.2.2.1)))))) = true then
            some (IntKind.wrap .i64 (v2.1 + (IntKind.wrap .i64 (v2.2.2.2.2.2.2.1 + v2.2.2.2.2.2.2.2.1))), IntKind.wrap .i64 (v2.2.1 + (IntKind.wrap .i64 (v2.2.2.2.2.2.2.1 + ((List.length v2.2.2.2.2.2.2.2.2 : Nat) : Int)))), v2.2.2.1, v2.2.2.2.1, v2.2.2.2.2.1, true)
          else
          some (IntKind.wrap .i64 (v2.1 + (IntKind.wrap .i64 (v2.2.2.2.2.2.2.1 + v2.2.2.2.2.2.2.2.1))), IntKind.wrap .i64 (v2.2.1 + (IntKind.wrap .i64 (v2.2.2.2.2.2.2.1 + ((List.length v2.2.2.2.2.2.2.2.2 : Nat) : Int)))), v2.2.2.1, v2.2.2.2.1, v2.2.2.2.2.1, decide ((120 : Int) < (IntKind.wrap .i64 (v2.2.1 + (IntKind.wrap .i64 (v2.2.2.2.2.2.2.1 + ((List.length v2.2.2.2.2.2.2.2.2 : Nat) : Int)))))))) fun v3 =>
      if v3.2.2.2.2.2 = true then
        some (.inr (.inr (0, 0, false)))
      else
        some (.inl (v3.1, v3.2.1, v3.2.2.1, v3.2.2.2.1, IntKind.wrap .i64 (v3.2.2.2.2.1 + 1)))
    else none
  else
    some (.inr (.inl (y.1, y.2.1)))
def i_lengths (x0 : List (Int × (Int × List UInt8))) : Option ((Int × (Int × Bool))) :=
  Option.bind (loopG i_lengths_L1 (0, 0, x0, ((List.length x0 : Nat) : Int), 0)) fun v4 =>
  match v4 with
  | .inl y5 =>
    some (y5.1, y5.2, true)
  | .inr s6 =>
    some (s6.1, s6.2.1, s6.2.2)
def i_GoodChange_L1 (y : (List (Int × (Int × List UInt8)) × (List (Int × (Int × List UInt8)) × (Int × Int)))) : Option ((List (Int × (Int × List UInt8)) × (List (Int × (Int × List UInt8)) × (Int × Int))) ⊕ (List (Int × (Int × List UInt8)) ⊕ Bool)) :=
  if (decide ((y.2.2.2 : Int) < y.2.2.1)) = true then
    if (decide ((0 : Int) ≤ y.2.2.2)) = true then
    Option.bind (y.2.1[Int.toNat y.2.2.2]?) fun r1 =>
    Option.bind (i_Part_kind r1.1 r1.2.1 r1.2.2) fun c2 =>
    Option.bind (α := (List (Int × (Int × List UInt8)) × (List (Int × (Int × List UInt8)) × (Int × (Int × Bool))))) (
        if (decide ((c2 : Int) = 0)) = true then
          some (y.1, y.2.1, y.2.2.1, y.2.2.2, true)
        else
        if (decide ((0 : Int) < y.2.2.2)) = true then
          if (decide ((0 : Int) ≤ IntKind.wrap .i64 (y.2.2.2 - 1))) = true then
          Option.bind (y.1[Int.toNat (IntKind.wrap .i64 (y.2.2.2 - 1))]?) fun r3 =>
          Option.bind (i_Part_kind r3.1 r3.2.1 r3.2.2) fun c4 =>
          some (y.1, y.2.1, y.2.2.1, y.2.2.2, decide ((c4 : Int) = c2))
          else none
        else
        some (y.1, y.2.1, y.2.2.1, y.2.2.2, false)) fun v5 =>
    if v5.2.2.2.2 = true then
      some (.inr (.inr false))
    else
      some (.inl (v5.1, v5.2.1, v5.2.2.1, IntKind.wrap .i64 (v5.2.2.2.1 + 1)))
    else none
  else
    some (.inr (.inl y.1))
def i_GoodChange (x0 : List (Int × (Int × List UInt8))) : Option (Bool) :=
  Option.bind (loopG i_GoodChange_L1 (x0, x0, ((List.length x0 : Nat) : Int), 0)) fun v6 =>
  match v6 with
  | .inl y7 =>
    Option.bind (i_lengths y7) fun c9 =>
    some c9.2.2
  | .inr s8 =>
    some s8
def decF (u : Nat) : List UInt8 :=
  if h : u < 10 then [UInt8.ofNat (48 + u)] else decF (u / 10) ++ [UInt8.ofNat (48 + u % 10)]
termination_by u
decreasing_by omega
def itoaF (n : Int) : List UInt8 := if n < 0 then 45 :: decF n.natAbs else decF n.toNat
def strconv_Itoa (x0 : Int) : Option (List UInt8) :=
  if -9223372036854775808 ≤ x0 ∧ x0 ≤ 9223372036854775807 then some (itoaF x0) else none
def i_isPlain (x0 : Int) : Option (Bool) :=
  Option.bind (α := Bool) (
      if (decide ((97 : Int) ≤ x0)) = true then
        if (decide ((x0 : Int) ≤ 122)) = true then
          some true
        else
        if (decide ((65 : Int) ≤ x0)) = true then
          if (decide ((x0 : Int) ≤ 90)) = true then
            some true
          else
          if (decide ((48 : Int) ≤ x0)) = true then
            some (decide ((x0 : Int) ≤ 57))
          else
          some false
        else
        if (decide ((48 : Int) ≤ x0)) = true then
          some (decide ((x0 : Int) ≤ 57))
        else
        some false
      else
      if (decide ((65 : Int) ≤ x0)) = true then
        if (decide ((x0 : Int) ≤ 90)) = true then
          some true
        else
        if (decide ((48 : Int) ≤ x0)) = true then
          some (decide ((x0 : Int) ≤ 57))
        else
        some false
      else
      if (decide ((48 : Int) ≤ x0)) = true then
        some (decide ((x0 : Int) ≤ 57))
      else
      some false) fun v1 =>
  some v1
def i_coded_L1 (y : (List UInt8 × (List UInt8 × (Int × Int)))) : Option ((List UInt8 × (List UInt8 × (Int × Int))) ⊕ (List UInt8)) :=
  if (decide ((y.2.2.2 : Int) < y.2.2.1)) = true then
    if (decide ((0 : Int) ≤ y.2.2.2)) = true then
    Option.bind (y.1[Int.toNat y.2.2.2]?) fun b1 =>
    Option.bind (i_isPlain ((UInt8.toNat b1 : Nat) : Int)) fun c2 =>
    Option.bind (α := (List UInt8 × (List UInt8 × (Int × Int)))) (
        if c2 = true then
          if (decide ((0 : Int) ≤ y.2.2.2)) = true then
          if (decide ((y.2.2.2 : Int) ≤ IntKind.wrap .i64 (y.2.2.2 + 1))) = true then
          if (decide ((IntKind.wrap .i64 (y.2.2.2 + 1) : Int) ≤ ((List.length y.1 : Nat) : Int))) = true then
          if (decide ((((List.length y.1 : Nat) : Int) : Int) ≤ ((List.length y.1 : Nat) : Int))) = true then
          if (decide ((List.length y.2.1 + List.length (((y.1 : List UInt8).drop (Int.toNat y.2.2.2)).take (Int.toNat (IntKind.wrap .i64 (y.2.2.2 + 1)) - Int.toNat y.2.2.2)) : Nat) ≤ 9223372036854775807)) = true then
          some (y.1, (y.2.1 : List UInt8) ++ (((y.1 : List UInt8).drop (Int.toNat y.2.2.2)).take (Int.toNat (IntKind.wrap .i64 (y.2.2.2 + 1)) - Int.toNat y.2.2.2)), y.2.2.1, y.2.2.2)
          else none
          else none
          else none
          else none
          else none
        else
        if (decide ((0 : Int) ≤ 4)) = true then
        if (decide ((0 : Int) ≤ 4)) = true then
        if (decide ((0 : Int) ≤ Int.fdiv ((UInt8.toNat b1 : Nat) : Int) (2 ^ (min (Int.toNat 4) (IntKind.bits .u8))))) = true then
        if (decide ((Int.fdiv ((UInt8.toNat b1 : Nat) : Int) (2 ^ (min (Int.toNat 4) (IntKind.bits .u8))) : Int) ≤ IntKind.wrap .u8 ((Int.fdiv ((UInt8.toNat b1 : Nat) : Int) (2 ^ (min (Int.toNat 4) (IntKind.bits .u8)))) + 1))) = true then
        if (decide ((IntKind.wrap .u8 ((Int.fdiv ((UInt8.toNat b1 : Nat) : Int) (2 ^ (min (Int.toNat 4) (IntKind.bits .u8)))) + 1) : Int) ≤ ((List.length ([48, 49, 50, 51, 52, 53, 54, 55, 56, 57, 97, 98, 99, 100, 101, 102] : List UInt8) : Nat) : Int))) = true then
        if (decide ((((List.length ([48, 49, 50, 51, 52, 53, 54, 55, 56, 57, 97, 98, 99, 100, 101, 102] : List UInt8) : Nat) : Int) : Int) ≤ ((List.length ([48, 49, 50, 51, 52, 53, 54, 55, 56, 57, 97, 98, 99, 100, 101, 102] : List UInt8) : Nat) : Int))) = true then
        if (decide ((List.length ([37] : List UInt8) + List.length (((([48, 49, 50, 51, 52, 53, 54, 55, 56, 57, 97, 98, 99, 100, 101, 102] : List UInt8) : List UInt8).drop (Int.toNat (Int.fdiv ((UInt8.toNat b1 : Nat) : Int) (2 ^ (min (Int.toNat 4) (IntKind.bits .u8)))))).take (Int.toNat (IntKind.wrap .u8 ((Int.fdiv ((UInt8.toNat b1 : Nat) : Int) (2 ^ (min (Int.toNat 4) (IntKind.bits .u8)))) + 1)) - Int.toNat (Int.fdiv ((UInt8.toNat b1 : Nat) : Int) (2 ^ (min (Int.toNat 4) (IntKind.bits .u8)))))) : Nat) ≤ 9223372036854775807)) = true then
        if (decide ((0 : Int) ≤ IntKind.wrap .u8 (((BitVec.ofInt (IntKind.bits .u8) ((UInt8.toNat b1 : Nat) : Int) &&& BitVec.ofInt (IntKind.bits .u8) 15).toNat : Int)))) = true then
        if (decide ((IntKind.wrap .u8 (((BitVec.ofInt (IntKind.bits .u8) ((UInt8.toNat b1 : Nat) : Int) &&& BitVec.ofInt (IntKind.bits .u8) 15).toNat : Int)) : Int) ≤ IntKind.wrap .u8 ((IntKind.wrap .u8 (((BitVec.ofInt (IntKind.bits .u8) ((UInt8.toNat b1 : Nat) : Int) &&& BitVec.ofInt (IntKind.bits .u8) 15).toNat : Int))) + 1))) = true then
        if (decide ((IntKind.wrap .u8 ((IntKind.wrap .u8 (((BitVec.ofInt (IntKind.bits .u8) ((UInt8.toNat b1 : Nat) : Int) &&& BitVec.ofInt (IntKind.bits .u8) 15).toNat : Int))) + 1) : Int) ≤ ((List.length ([48, 49, 50, 51, 52, 53, 54, 55, 56, 57, 97, 98, 99, 100, 101, 102] : List UInt8) : Nat) : Int))) = true then
        if (decide ((((List.length ([48, 49, 50, 51, 52, 53, 54, 55, 56, 57, 97, 98, 99, 100, 101, 102] : List UInt8) : Nat) : Int) : Int) ≤ ((List.length ([48, 49, 50, 51, 52, 53, 54, 55, 56, 57, 97, 98, 99, 100, 101, 102] : List UInt8) : Nat) : Int))) = true then
        if (decide ((List.length ((([37] : List UInt8) : List UInt8) ++ (((([48, 49, 50, 51, 52, 53, 54, 55, 56, 57, 97, 98, 99, 100, 101, 102] : List UInt8) : List UInt8).drop (Int.toNat (Int.fdiv ((UInt8.toNat b1 : Nat) : Int) (2 ^ (min (Int.toNat 4) (IntKind.bits .u8)))))).take (Int.toNat (IntKind.wrap .u8 ((Int.fdiv ((UInt8.toNat b1 : Nat) : Int) (2 ^ (min (Int.toNat 4) (IntKind.bits .u8)))) + 1)) - Int.toNat (Int.fdiv ((UInt8.toNat b1 : Nat) : Int) (2 ^ (min (Int.toNat 4) (IntKind.bits .u8))))))) + List.length (((([48, 49, 50, 51, 52, 53, 54, 55, 56, 57, 97, 98, 99, 100, 101, 102] : List UInt8) : List UInt8).drop (Int.toNat (IntKind.wrap .u8 (((BitVec.ofInt (IntKind.bits .u8) ((UInt8.toNat b1 : Nat) : Int) &&& BitVec.ofInt (IntKind.bits .u8) 15).toNat : Int))))).take (Int.toNat (IntKind.wrap .u8 ((IntKind.wrap .u8 (((BitVec.ofInt (IntKind.bits .u8) ((UInt8.toNat b1 : Nat) : Int) &&& BitVec.ofInt (IntKind.bits .u8) 15).toNat : Int))) + 1)) - Int.toNat (IntKind.wrap .u8 (((BitVec.ofInt (IntKind.bits .u8) ((UInt8.toNat b1 : Nat) : Int) &&& BitVec.ofInt (IntKind.bits .u8) 15).toNat : Int))))) : Nat) ≤ 9223372036854775807)) = true then
        if (decide ((List.length y.2.1 + List.length (((([37] : List UInt8) : List UInt8) ++ (((([48, 49, 50, 51, 52, 53, 54, 55, 56, 57, 97, 98, 99, 100, 101, 102] : List UInt8) : List UInt8).drop (Int.toNat (Int.fdiv ((UInt8.toNat b1 : Nat) : Int) (2 ^ (min (Int.toNat 4) (IntKind.bits .u8)))))).take (Int.toNat (IntKind.wrap .u8 ((Int.fdiv ((UInt8.toNat b1 : Nat) : Int) (2 ^ (min (Int.toNat 4) (IntKind.bits .u8)))) + 1)) - Int.toNat (Int.fdiv ((UInt8.toNat b1 : Nat) : Int) (2 ^ (min (Int.toNat 4) (IntKind.bits .u8)))))) : List UInt8) ++ (((([48, 49, 50, 51, 52, 53, 54, 55, 56, 57, 97, 98, 99, 100, 101, 102] : List UInt8) : List UInt8).drop (Int.toNat (IntKind.wrap .u8 (((BitVec.ofInt (IntKind.bits .u8) ((UInt8.toNat b1 : Nat) : Int) &&& BitVec.ofInt (IntKind.bits .u8) 15).toNat : Int))))).take (Int.toNat (IntKind.wrap .u8 ((IntKind.wrap .u8 (((BitVec.ofInt (IntKind.bits .u8) ((UInt8.toNat b1 : Nat) : Int) &&& BitVec.ofInt (IntKind.bits .u8) 15).toNat : Int))) + 1)) - Int.toNat (IntKind.wrap .u8 (((BitVec.ofInt (IntKind.bits .u8) ((UInt8.toNat b1 : Nat) : Int) &&& BitVec.ofInt (IntKind.bits .u8) 15).toNat : Int)))))) : Nat) ≤ 9223372036854775807)) = true then
        some (y.1, (y.2.1 : List UInt8) ++ (((([37] : List UInt8) : List UInt8) ++ (((([48, 49, 50, 51, 52, 53, 54, 55, 56, 57, 97, 98, 99, 100, 101, 102] : List UInt8) : List UInt8).drop (Int.toNat (Int.fdiv ((UInt8.toNat b1 : Nat) : Int) (2 ^ (min (Int.toNat 4) (IntKind.bits .u8)))))).take (Int.toNat (IntKind.wrap .u8 ((Int.fdiv ((UInt8.toNat b1 : Nat) : Int) (2 ^ (min (Int.toNat 4) (IntKind.bits .u8)))) + 1)) - Int.toNat (Int.fdiv ((UInt8.toNat b1 : Nat) : Int) (2 ^ (min (Int.toNat 4) (IntKind.bits .u8)))))) : List UInt8) ++ (((([48, 49, 50, 51, 52, 53, 54, 55, 56, 57, 97, 98, 99, 100, 101, 102] : List UInt8) : List UInt8).drop (Int.toNat (IntKind.wrap .u8 (((BitVec.ofInt (IntKind.bits .u8) ((UInt8.toNat b1 : Nat) : Int) &&& BitVec.ofInt (IntKind.bits .u8) 15).toNat : Int))))).take (Int.toNat (IntKind.wrap .u8 ((IntKind.wrap .u8 (((BitVec.ofInt (IntKind.bits .u8) ((UInt8.toNat b1 : Nat) : Int) &&& BitVec.ofInt (IntKind.bits .u8) 15).toNat : Int))) + 1)) - Int.toNat (IntKind.wrap .u8 (((BitVec.ofInt (IntKind.bits .u8) ((UInt8.toNat b1 : Nat) : Int) &&& BitVec.ofInt (IntKind.bits .u8) 15).toNat : Int)))))), y.2.2.1, y.2.2.2)
        else none
        else none
        else none
        else none
        else none
        else none
        else none
        else none
        else none
        else none
        else none
        else none
        else none) fun v3 =>
    some (.inl (v3.1, v3.2.1, v3.2.2.1, IntKind.wrap .i64 (v3.2.2.2 + 1)))
    else none
  else
    some (.inr y.2.1)
def i_coded (x0 : List UInt8) : Option (List UInt8) :=
  Option.bind (loopG i_coded_L1 (x0, ([] : List UInt8), ((List.length x0 : Nat) : Int), 0)) fun v4 =>
  some v4
def strings_Join (x0 : List (List UInt8)) (x1 : List UInt8) : Option (List UInt8) :=
  if x0.length ≤ 140737488355328 ∧ (x1.intercalate x0).length ≤ 140737488355328 then some (x1.intercalate x0) else none
def i_changeText_L1 (y : (List (List UInt8) × (List (Int × (Int × List UInt8)) × (Int × Int)))) : Option ((List (List UInt8) × (List (Int × (Int × List UInt8)) × (Int × Int))) ⊕ (List (List UInt8))) :=
  if (decide ((y.2.2.2 : Int) < y.2.2.1)) = true then
    if (decide ((0 : Int) ≤ y.2.2.2)) = true then
    Option.bind (y.2.1[Int.toNat y.2.2.2]?) fun r1 =>
    Option.bind (i_Part_kind r1.1 r1.2.1 r1.2.2) fun c2 =>
    Option.bind (α := (List (List UInt8) × (List (Int × (Int × List UInt8)) × (Int × Int)))) (
        if (decide ((c2 : Int) = 1)) = true then
          Option.bind (strconv_Itoa r1.1) fun c3 =>
          if (decide ((List.length ([61] : List UInt8) + List.length c3 : Nat) ≤ 9223372036854775807)) = true then
          if (roomFor (List.length y.1 + List.length ([(([61] : List UInt8) : List UInt8) ++ c3] : List (List UInt8))) 16) = true then
          some (y.1 ++ ([(([61] : List UInt8) : List UInt8) ++ c3] : List (List UInt8)), y.2.1, y.2.2.1, y.2.2.2)
          else none
          else none
        else
          Option.bind (α := (List (List UInt8) × (List (Int × (Int × List UInt8)) × (Int × Int)))) (
              if (decide ((c2 : Int) = 2)) = true then
                Option.bind (strconv_Itoa r1.2.1) fun c4 =>
                if (decide ((List.length ([45] : List UInt8) + List.length c4 : Nat) ≤ 9223372036854775807)) = true then
                if (roomFor (List.length y.1 + List.length ([(([45] : List UInt8) : List UInt8) ++ c4] : List (List UInt8))) 16) = true then
                some (y.1 ++ ([(([45] : List UInt8) : List UInt8) ++ c4] : List (List UInt8)), y.2.1, y.2.2.1, y.2.2.2)
                else none
                else none
              else
                Option.bind (i_coded r1.2.2) fun c5 =>
                if (decide ((List.length ([43] : List UInt8) + List.length c5 : Nat) ≤ 9223372036854775807)) = true then
                if (roomFor (List.length y.1 + List.length ([(([43] : List UInt8) : List UInt8) ++ c5] : List (List UInt8))) 16) = true then
                some (y.1 ++ ([(([43] : List UInt8) : List UInt8) ++ c5] : List (List UInt8)), y.2.1, y.2.2.1, y.2.2.2)
                else none
                else none) fun v6 =>
          some (v6.1, v6.2.1, v6.2.2.1, v6.2.2.2)) fun v7 =>
    some (.inl (v7.1, v7.2.1, v7.2.2.1, IntKind.wrap .i64 (v7.2.2.2 + 1)))
    else none
  else
    some (.inr y.1)
def i_changeText (x0 : List (Int × (Int × List UInt8))) : Option (List UInt8) :=
  Option.bind (loopG i_changeText_L1 ([], x0, ((List.length x0 : Nat) : Int), 0)) fun v8 =>
  if (decide ((((List.length v8 : Nat) : Int) : Int) = 0)) = true then
    some ([46] : List UInt8)
  else
    Option.bind (strings_Join v8 ([32] : List UInt8)) fun c9 =>
    some c9
def i_ChangeText (x0 : List (Int × (Int × List UInt8))) : Option ((List UInt8 × Bool)) :=
  Option.bind (i_GoodChange x0) fun c1 =>
  if (!c1) = true then
    some (([] : List UInt8), false)
  else
    Option.bind (i_changeText x0) fun c2 =>
    some (c2, true)
def s_GoodChange_L1 (y : (List (Int × (Int × List UInt8)) × (Int × (Int × (List (Int × (Int × List UInt8)) × (Int × Int)))))) : Option ((List (Int × (Int × List UInt8)) × (Int × (Int × (List (Int × (Int × List UInt8)) × (Int × Int))))) ⊕ (Unit ⊕ Bool)) :=
  if (decide ((y.2.2.2.2.2 : Int) < y.2.2.2.2.1)) = true then
    if (decide ((0 : Int) ≤ y.2.2.2.2.2)) = true then
    Option.bind (y.2.2.2.1[Int.toNat y.2.2.2.2.2]?) fun r1 =>
    Option.bind (s_l1Kind r1.1 r1.2.1 r1.2.2) fun c2 =>
    Option.bind (α := (List (Int × (Int × List UInt8)) × (Int × (Int × (List (Int × (Int × List UInt8)) × (Int × (Int × (Bool × (Int × (Int × List UInt8)))))))))) (
        if (decide ((c2 : Int) = 0)) = true then
          some (y.1, y.2.1, y.2.2.1, y.2.2.2.1, y.2.2.2.2.1, y.2.2.2.2.2, true, r1.1, r1.2.1, r1.2.2)
        else
        if (decide ((0 : Int) < y.2.2.2.2.2)) = true then
          if (decide ((0 : Int) ≤ IntKind.wrap .i64 (y.2.2.2.2.2 - 1))) = true then
          Option.bind (y.1[Int.toNat (IntKind.wrap .i64 (y.2.2.2.2.2 - 1))]?) fun r3 =>
          Option.bind (s_l1Kind r3.1 r3.2.1 r3.2.2) fun c4 =>
          if (decide ((c4 : Int) = c2)) = true then
            some (y.1, y.2.1, y.2.2.1, y.2.2.2.1, y.2.2.2.2.1, y.2.2.2.2.2, true, r1.1, r1.2.1, r1.2.2)
          else
          if (decide ((120 : Int) < r1.1)) = true then
            some (y.1, y.2.1, y.2.2.1, y.2.2.2.1, y.2.2.2.2.1, y.2.2.2.2.2, true, r1.1, r1.2.1, r1.2.2)
          else
          if (decide ((120 : Int) < r1.2.1)) = true then
            some (y.1, y.2.1, y.2.2.1, y.2.2.2.1, y.2.2.2.2.1, y.2.2.2.2.2, true, r1.1, r1.2.1, r1.2.2)
          else
          some (y.1, y.2.1, y.2.2.1, y.2.2.2.1, y.2.2.2.2.1, y.2.2.2.2.2, decide ((120 : Int) < ((List.length r1.2.2 : Nat) : Int)), r1.1, r1.2.1, r1.2.2)
          else none
        else
        if (decide ((120 : Int) < r1.1)) = true then
          some (y.1, y.2.1, y.2.2.1, y.2.2.2.1, y.2.2.2.2.1, y.2.2.2.2.2, true, r1.1, r1.2.1, r1.2.2)
        else
        if (decide ((120 : Int) < r1.2.1)) = true then
          some (y.1, y.2.1, y.2.2.1, y.2.2.2.1, y.2.2.2.2.1, y.2.2.2.2.2, true, r1.1, r1.2.1, r1.2.2)
        else
        some (y.1, y.2.1, y.2.2.1, y.2.2.2.1, y.2.2.2.2.1, y.2.2.2.2.2, decide ((120 : Int) < ((List.length r1.2.2 : Nat) : Int)), r1.1, r1.2.1, r1.2.2)) fun v5 =>
    if v5.2.2.2.2.2.2.1 = true then
      some (.inr (.inr false))
    else
      Option.bind (α := (List (Int × (Int × List UInt8)) × (Int × (Int × (List (Int × (Int × List UInt8)) × (Int × (Int × Bool))))))) (
          if (decide ((120 : Int) < (IntKind.wrap .i64 (v5.2.1 + (IntKind.wrap .i64 (v5.2.2.2.2.2.2.2.1 + v5.2.2.2.2.2.2.2.2.1)))))) = true then
            some (v5.1, IntKind.wrap .i64 (v5.2.1 + (IntKind.wrap .i64 (v5.2.2.2.2.2.2.2.1 + v5.2.2.2.2.2.2.2.2.1))), IntKind.wrap .i64 (v5.2.2.1 + (IntKind.wrap .i64 (v5.2.2.2.2.2.2.2.1 + ((List.length v5.2.2.2.2.2.2.2.2.2 : Nat) : Int)))), v5.2.2.2.1, v5.2.2.2.2.1, v5.2.2.2.2.2.1, true)
          else
          some (v5.1, IntKind.wrap .i64 (v5.2.1 + (IntKind.wrap .i64 (v5.2.2.2.2.2.2.2.1 + v5.2.2.2.2.2.2.2.2.1))), IntKind.wrap .i64 (v5.2.2.1 + (IntKind.wrap .i64 (v5.2.2.2.2.2.2.2.1 + ((List.length v5.2.2.2.2.2.2.2.2.2 : Nat) : Int)))), v5.2.2.2.1, v5.2.2.2.2.1, v5.2.2.2.2.2.1, decide ((120 : Int) < (IntKind.wrap .i64 (v5.2.2.1 + (IntKind.wrap .i64 (v5.2.2.2.2.2.2.2.1 + ((List.length v5.2.2.2.2.2.2.2.2.2 : Nat) : Int)))))))) fun v6 =>
      if v6.2.2.2.2.2.2 = true then
        some (.inr (.inr false))
      else
        some (.inl (v6.1, v6.2.1, v6.2.2.1, v6.2.2.2.1, v6.2.2.2.2.1, IntKind.wrap .i64 (v6.2.2.2.2.2.1 + 1)))
    else none
  else
    some (.inr (.inl ()))
def s_GoodChange (x0 : List (Int × (Int × List UInt8))) : Option (Bool) :=
  Option.bind (loopG s_GoodChange_L1 (x0, 0, 0, x0, ((List.length x0 : Nat) : Int), 0)) fun v7 =>
  match v7 with
  | .inl y8 =>
    some true
  | .inr s9 =>
    some s9
def s_l1Num_step (φ : Int → Option (List UInt8)) (x0 : Int) : Option (List UInt8) :=
  if (decide ((x0 : Int) < 0)) = true then
    if (decide ((x0 : Int) = (-9223372036854775808))) = true then
      some ([45, 57, 50, 50, 51, 51, 55, 50, 48, 51, 54, 56, 53, 52, 55, 55, 53, 56, 48, 56] : List UInt8)
    else
      Option.bind (φ (IntKind.wrap .i64 (0 - x0))) fun c1 =>
      if (decide ((List.length ([45] : List UInt8) + List.length c1 : Nat) ≤ 9223372036854775807)) = true then
      some ((([45] : List UInt8) : List UInt8) ++ c1)
      else none
  else
  if (decide ((x0 : Int) < 10)) = true then
    some (textOf [IntKind.wrap .u8 (IntKind.wrap .i64 (48 + x0))])
  else
  if (decide (¬ (10 : Int) = 0)) = true then
  Option.bind (φ (IntKind.wrap .i64 (Int.tdiv x0 10))) fun c2 =>
  if (decide (¬ (10 : Int) = 0)) = true then
  if (decide ((List.length c2 + List.length (textOf [IntKind.wrap .u8 (IntKind.wrap .i64 (48 + (Int.tmod x0 10)))]) : Nat) ≤ 9223372036854775807)) = true then
  some ((c2 : List UInt8) ++ (textOf [IntKind.wrap .u8 (IntKind.wrap .i64 (48 + (Int.tmod x0 10)))]))
  else none
  else none
  else none
def s_l1Num_at : Nat → Int → Option (List UInt8)
  | 0, _ => none
  | k+1, x0 => s_l1Num_step (s_l1Num_at k) x0
def s_l1Num (x0 : Int) : Option (List UInt8) := s_l1Num_at 64 x0
def s_l14Plain (x0 : Int) : Option (Bool) :=
  Option.bind (α := Bool) (
      if (decide ((97 : Int) ≤ x0)) = true then
        if (decide ((x0 : Int) ≤ 122)) = true then
          some true
        else
        if (decide ((65 : Int) ≤ x0)) = true then
          if (decide ((x0 : Int) ≤ 90)) = true then
            some true
          else
          if (decide ((48 : Int) ≤ x0)) = true then
            some (decide ((x0 : Int) ≤ 57))
          else
          some false
        else
        if (decide ((48 : Int) ≤ x0)) = true then
          some (decide ((x0 : Int) ≤ 57))
        else
        some false
      else
      if (decide ((65 : Int) ≤ x0)) = true then
        if (decide ((x0 : Int) ≤ 90)) = true then
          some true
        else
        if (decide ((48 : Int) ≤ x0)) = true then
          some (decide ((x0 : Int) ≤ 57))
        else
        some false
      else
      if (decide ((48 : Int) ≤ x0)) = true then
        some (decide ((x0 : Int) ≤ 57))
      else
      some false) fun v1 =>
  some v1
def s_l14Told_L1 (y : (List UInt8 × (List UInt8 × Int))) : Option ((List UInt8 × (List UInt8 × Int)) ⊕ (List UInt8)) :=
  if (decide ((y.2.2 : Int) < ((List.length y.1 : Nat) : Int))) = true then
    Option.bind (α := (List UInt8 × (List UInt8 × Int))) (
        if (decide ((0 : Int) ≤ y.2.2)) = true then
        Option.bind (y.1[Int.toNat y.2.2]?) fun b1 =>
        Option.bind (s_l14Plain ((UInt8.toNat b1 : Nat) : Int)) fun c2 =>
        if c2 = true then
          if (decide ((0 : Int) ≤ y.2.2)) = true then
          if (decide ((y.2.2 : Int) ≤ IntKind.wrap .i64 (y.2.2 + 1))) = true then
          if (decide ((IntKind.wrap .i64 (y.2.2 + 1) : Int) ≤ ((List.length y.1 : Nat) : Int))) = true then
          if (decide ((((List.length y.1 : Nat) : Int) : Int) ≤ ((List.length y.1 : Nat) : Int))) = true then
          if (decide ((List.length y.2.1 + List.length (((y.1 : List UInt8).drop (Int.toNat y.2.2)).take (Int.toNat (IntKind.wrap .i64 (y.2.2 + 1)) - Int.toNat y.2.2)) : Nat) ≤ 9223372036854775807)) = true then
          some (y.1, (y.2.1 : List UInt8) ++ (((y.1 : List UInt8).drop (Int.toNat y.2.2)).take (Int.toNat (IntKind.wrap .i64 (y.2.2 + 1)) - Int.toNat y.2.2)), y.2.2)
          else none
          else none
          else none
          else none
          else none
        else
        if (decide ((0 : Int) ≤ y.2.2)) = true then
        Option.bind (y.1[Int.toNat y.2.2]?) fun b3 =>
        if (decide (¬ (16 : Int) = 0)) = true then
        if (decide ((0 : Int) ≤ y.2.2)) = true then
        Option.bind (y.1[Int.toNat y.2.2]?) fun b4 =>
        if (decide (¬ (16 : Int) = 0)) = true then
        if (decide ((0 : Int) ≤ IntKind.wrap .u8 (Int.tdiv ((UInt8.toNat b3 : Nat) : Int) 16))) = true then
        if (decide ((IntKind.wrap .u8 (Int.tdiv ((UInt8.toNat b3 : Nat) : Int) 16) : Int) ≤ IntKind.wrap .u8 ((IntKind.wrap .u8 (Int.tdiv ((UInt8.toNat b4 : Nat) : Int) 16)) + 1))) = true then
        if (decide ((IntKind.wrap .u8 ((IntKind.wrap .u8 (Int.tdiv ((UInt8.toNat b4 : Nat) : Int) 16)) + 1) : Int) ≤ ((List.length ([48, 49, 50, 51, 52, 53, 54, 55, 56, 57, 97, 98, 99, 100, 101, 102] : List UInt8) : Nat) : Int))) = true then
        if (decide ((((List.length ([48, 49, 50, 51, 52, 53, 54, 55, 56, 57, 97, 98, 99, 100, 101, 102] : List UInt8) : Nat) : Int) : Int) ≤ ((List.length ([48, 49, 50, 51, 52, 53, 54, 55, 56, 57, 97, 98, 99, 100, 101, 102] : List UInt8) : Nat) : Int))) = true then
        if (decide ((List.length ([37] : List UInt8) + List.length (((([48, 49, 50, 51, 52, 53, 54, 55, 56, 57, 97, 98, 99, 100, 101, 102] : List UInt8) : List UInt8).drop (Int.toNat (IntKind.wrap .u8 (Int.tdiv ((UInt8.toNat b3 : Nat) : Int) 16)))).take (Int.toNat (IntKind.wrap .u8 ((IntKind.wrap .u8 (Int.tdiv ((UInt8.toNat b4 : Nat) : Int) 16)) + 1)) - Int.toNat (IntKind.wrap .u8 (Int.tdiv ((UInt8.toNat b3 : Nat) : Int) 16)))) : Nat) ≤ 9223372036854775807)) = true then
        if (decide ((0 : Int) ≤ y.2.2)) = true then
        Option.bind (y.1[Int.toNat y.2.2]?) fun b5 =>
        if (decide (¬ (16 : Int) = 0)) = true then
        if (decide ((0 : Int) ≤ y.2.2)) = true then
        Option.bind (y.1[Int.toNat y.2.2]?) fun b6 =>
        if (decide (¬ (16 : Int) = 0)) = true then
        if (decide ((0 : Int) ≤ Int.tmod ((UInt8.toNat b5 : Nat) : Int) 16)) = true then
        if (decide ((Int.tmod ((UInt8.toNat b5 : Nat) : Int) 16 : Int) ≤ IntKind.wrap .u8 ((Int.tmod ((UInt8.toNat b6 : Nat) : Int) 16) + 1))) = true then
        if (decide ((IntKind.wrap .u8 ((Int.tmod ((UInt8.toNat b6 : Nat) : Int) 16) + 1) : Int) ≤ ((List.length ([48, 49, 50, 51, 52, 53, 54, 55, 56, 57, 97, 98, 99, 100, 101, 102] : List UInt8) : Nat) : Int))) = true then
        if (decide ((((List.length ([48, 49, 50, 51, 52, 53, 54, 55, 56, 57, 97, 98, 99, 100, 101, 102] : List UInt8) : Nat) : Int) : Int) ≤ ((List.length ([48, 49, 50, 51, 52, 53, 54, 55, 56, 57, 97, 98, 99, 100, 101, 102] : List UInt8) : Nat) : Int))) = true then
        if (decide ((List.length ((([37] : List UInt8) : List UInt8) ++ (((([48, 49, 50, 51, 52, 53, 54, 55, 56, 57, 97, 98, 99, 100, 101, 102] : List UInt8) : List UInt8).drop (Int.toNat (IntKind.wrap .u8 (Int.tdiv ((UInt8.toNat b3 : Nat) : Int) 16)))).take (Int.toNat (IntKind.wrap .u8 ((IntKind.wrap .u8 (Int.tdiv ((UInt8.toNat b4 : Nat) : Int) 16)) + 1)) - Int.toNat (IntKind.wrap .u8 (Int.tdiv ((UInt8.toNat b3 : Nat) : Int) 16))))) + List.length (((([48, 49, 50, 51, 52, 53, 54, 55, 56, 57, 97, 98, 99, 100, 101, 102] : List UInt8) : List UInt8).drop (Int.toNat (Int.tmod ((UInt8.toNat b5 : Nat) : Int) 16))).take (Int.toNat (IntKind.wrap .u8 ((Int.tmod ((UInt8.toNat b6 : Nat) : Int) 16) + 1)) - Int.toNat (Int.tmod ((UInt8.toNat b5 : Nat) : Int) 16))) : Nat) ≤ 9223372036854775807)) = true then
        if (decide ((List.length y.2.1 + List.length (((([37] : List UInt8) : List UInt8) ++ (((([48, 49, 50, 51, 52, 53, 54, 55, 56, 57, 97, 98, 99, 100, 101, 102] : List UInt8) : List UInt8).drop (Int.toNat (IntKind.wrap .u8 (Int.tdiv ((UInt8.toNat b3 : Nat) : Int) 16)))).take (Int.toNat (IntKind.wrap .u8 ((IntKind.wrap .u8 (Int.tdiv ((UInt8.toNat b4 : Nat) : Int) 16)) + 1)) - Int.toNat (IntKind.wrap .u8 (Int.tdiv ((UInt8.toNat b3 : Nat) : Int) 16)))) : List UInt8) ++ (((([48, 49, 50, 51, 52, 53, 54, 55, 56, 57, 97, 98, 99, 100, 101, 102] : List UInt8) : List UInt8).drop (Int.toNat (Int.tmod ((UInt8.toNat b5 : Nat) : Int) 16))).take (Int.toNat (IntKind.wrap .u8 ((Int.tmod ((UInt8.toNat b6 : Nat) : Int) 16) + 1)) - Int.toNat (Int.tmod ((UInt8.toNat b5 : Nat) : Int) 16)))) : Nat) ≤ 9223372036854775807)) = true then
        some (y.1, (y.2.1 : List UInt8) ++ (((([37] : List UInt8) : List UInt8) ++ (((([48, 49, 50, 51, 52, 53, 54, 55, 56, 57, 97, 98, 99, 100, 101, 102] : List UInt8) : List UInt8).drop (Int.toNat (IntKind.wrap .u8 (Int.tdiv ((UInt8.toNat b3 : Nat) : Int) 16)))).take (Int.toNat (IntKind.wrap .u8 ((IntKind.wrap .u8 (Int.tdiv ((UInt8.toNat b4 : Nat) : Int) 16)) + 1)) - Int.toNat (IntKind.wrap .u8 (Int.tdiv ((UInt8.toNat b3 : Nat) : Int) 16)))) : List UInt8) ++ (((([48, 49, 50, 51, 52, 53, 54, 55, 56, 57, 97, 98, 99, 100, 101, 102] : List UInt8) : List UInt8).drop (Int.toNat (Int.tmod ((UInt8.toNat b5 : Nat) : Int) 16))).take (Int.toNat (IntKind.wrap .u8 ((Int.tmod ((UInt8.toNat b6 : Nat) : Int) 16) + 1)) - Int.toNat (Int.tmod ((UInt8.toNat b5 : Nat) : Int) 16)))), y.2.2)
        else none
        else none
        else none
        else none
        else none
        else none
        else none
        else none
        else none
        else none
        else none
        else none
        else none
        else none
        else none
        else none
        else none
        else none
        else none
        else none) fun v7 =>
    some (.inl (v7.1, v7.2.1, IntKind.wrap .i64 (v7.2.2 + 1)))
  else
    some (.inr y.2.1)
def s_l14Told (x0 : List UInt8) : Option (List UInt8) :=
  Option.bind (loopG s_l14Told_L1 (x0, ([] : List UInt8), 0)) fun v8 =>
  some v8
def s_l14Change_L1 (y : (List UInt8 × (List (Int × (Int × List UInt8)) × (Int × Int)))) : Option ((List UInt8 × (List (Int × (Int × List UInt8)) × (Int × Int))) ⊕ (List UInt8)) :=
  if (decide ((y.2.2.2 : Int) < y.2.2.1)) = true then
    if (decide ((0 : Int) ≤ y.2.2.2)) = true then
    Option.bind (y.2.1[Int.toNat y.2.2.2]?) fun r1 =>
    Option.bind (α := (List UInt8 × (List (Int × (Int × List UInt8)) × (Int × (Int × (Int × (Int × List UInt8))))))) (
        if (decide ((0 : Int) < y.2.2.2)) = true then
          if (decide ((List.length y.1 + List.length ([32] : List UInt8) : Nat) ≤ 9223372036854775807)) = true then
          some ((y.1 : List UInt8) ++ ([32] : List UInt8), y.2.1, y.2.2.1, y.2.2.2, r1.1, r1.2.1, r1.2.2)
          else none
        else
          some (y.1, y.2.1, y.2.2.1, y.2.2.2, r1.1, r1.2.1, r1.2.2)) fun v2 =>
    Option.bind (α := (List UInt8 × (List (Int × (Int × List UInt8)) × (Int × Int)))) (
        if (decide ((0 : Int) < v2.2.2.2.2.1)) = true then
          Option.bind (s_l1Num v2.2.2.2.2.1) fun c3 =>
          if (decide ((List.length ([61] : List UInt8) + List.length c3 : Nat) ≤ 9223372036854775807)) = true then
          if (decide ((List.length v2.1 + List.length ((([61] : List UInt8) : List UInt8) ++ c3) : Nat) ≤ 9223372036854775807)) = true then
          some ((v2.1 : List UInt8) ++ ((([61] : List UInt8) : List UInt8) ++ c3), v2.2.1, v2.2.2.1, v2.2.2.2.1)
          else none
          else none
        else
          Option.bind (α := (List UInt8 × (List (Int × (Int × List UInt8)) × (Int × Int)))) (
              if (decide ((0 : Int) < v2.2.2.2.2.2.1)) = true then
                Option.bind (s_l1Num v2.2.2.2.2.2.1) fun c4 =>
                if (decide ((List.length ([45] : List UInt8) + List.length c4 : Nat) ≤ 9223372036854775807)) = true then
                if (decide ((List.length v2.1 + List.length ((([45] : List UInt8) : List UInt8) ++ c4) : Nat) ≤ 9223372036854775807)) = true then
                some ((v2.1 : List UInt8) ++ ((([45] : List UInt8) : List UInt8) ++ c4), v2.2.1, v2.2.2.1, v2.2.2.2.1)
                else none
                else none
              else
                Option.bind (s_l14Told v2.2.2.2.2.2.2) fun c5 =>
                if (decide ((List.length ([43] : List UInt8) + List.length c5 : Nat) ≤ 9223372036854775807)) = true then
                if (decide ((List.length v2.1 + List.length ((([43] : List UInt8) : List UInt8) ++ c5) : Nat) ≤ 9223372036854775807)) = true then
                some ((v2.1 : List UInt8) ++ ((([43] : List UInt8) : List UInt8) ++ c5), v2.2.1, v2.2.2.1, v2.2.2.2.1)
                else none
                else none) fun v6 =>
          some (v6.1, v6.2.1, v6.2.2.1, v6.2.2.2)) fun v7 =>
    some (.inl (v7.1, v7.2.1, v7.2.2.1, IntKind.wrap .i64 (v7.2.2.2 + 1)))
    else none
  else
    some (.inr y.1)
def s_l14Change (x0 : List (Int × (Int × List UInt8))) : Option (List UInt8) :=
  if (decide ((((List.length x0 : Nat) : Int) : Int) = 0)) = true then
    some ([46] : List UInt8)
  else
    Option.bind (loopG s_l14Change_L1 (([] : List UInt8), x0, ((List.length x0 : Nat) : Int), 0)) fun v8 =>
    some v8
def s_ChangeText (x0 : List (Int × (Int × List UInt8))) : Option ((List UInt8 × Bool)) :=
  Option.bind (s_GoodChange x0) fun c1 =>
  if (!c1) = true then
    some (([] : List UInt8), false)
  else
    Option.bind (s_l14Change x0) fun c2 =>
    some (c2, true)
def splitF (b : UInt8) : List UInt8 → List (List UInt8)
  | [] => [[]]
  | c :: r => if c = b then [] :: splitF b r else match splitF b r with
    | h :: t => (c :: h) :: t
    | [] => [[c]]
def strings_Split (x0 : List UInt8) (x1 : List UInt8) : Option (List (List UInt8)) :=
  match x1 with
  | [b] => if x0.length < 4294967281 then some (splitF b x0) else none
  | _ => none
def atoiF (l : List UInt8) : Int × Bool := match Lib.atoiAll l with
  | .ok v => (v, false)
  | .syntax => (0, true)
  | .range => (Lib.atoiSat l, true)
def strconv_Atoi (x0 : List UInt8) : Option (Int × Bool) :=
  if x0.length ≤ 281474976710656 then some (atoiF x0) else none
def i_number (x0 : List UInt8) : Option (Int) :=
  Option.bind (strconv_Atoi x0) fun c1 =>
  Option.bind (α := (Int × Bool)) (
      if c1.2 = true then
        some (c1.1, true)
      else
      if (decide ((4 : Int) < ((List.length x0 : Nat) : Int))) = true then
        some (c1.1, true)
      else
      if (decide ((c1.1 : Int) < 0)) = true then
        some (c1.1, true)
      else
        Option.bind (strconv_Itoa c1.1) fun c2 =>
        some (c1.1, (!((c2 : List UInt8) == x0)))) fun v3 =>
  if v3.2 = true then
    some (-1)
  else
    some v3.1
def hexV (c : Nat) : Option Nat := if 48 ≤ c ∧ c ≤ 57 then some (c - 48) else if 97 ≤ c ||| 32 ∧ c ||| 32 ≤ 102 then some ((c ||| 32) - 87) else none
def hexGo (acc : Nat) : List UInt8 → Option Nat
  | [] => some acc
  | c :: r => match hexV c.toNat with
    | some d => hexGo (acc * 16 + d) r
    | none => none
def hexF (l : List UInt8) : Int × Bool := match hexGo 0 l with
  | some n => (n, false)
  | none => (0, true)
def strconv_ParseUint (x0 : List UInt8) (x1 : Int) (x2 : Int) : Option (Int × Bool) :=
  if x0.length = 2 ∧ x1 = 16 ∧ x2 = 8 then some (hexF x0) else none
def i_decoded_L1 (y : (List UInt8 × (List Int × Int))) : Option ((List UInt8 × (List Int × Int)) ⊕ ((List UInt8 × List Int) ⊕ (List UInt8 × Bool))) :=
  if (decide ((y.2.2 : Int) < ((List.length y.1 : Nat) : Int))) = true then
    Option.bind (α := (List UInt8 × (List Int × Int)) ⊕ (List UInt8 × Bool)) (
        if (decide ((0 : Int) ≤ y.2.2)) = true then
        Option.bind (y.1[Int.toNat y.2.2]?) fun b1 =>
        if (decide (¬ (((UInt8.toNat b1 : Nat) : Int) : Int) = 37)) = true then
          if (decide ((0 : Int) ≤ y.2.2)) = true then
          Option.bind (y.1[Int.toNat y.2.2]?) fun b2 =>
          if (roomFor (List.length y.2.1 + List.length ([((UInt8.toNat b2 : Nat) : Int)] : List Int)) 1) = true then
          some (.inl (y.1, y.2.1 ++ ([((UInt8.toNat b2 : Nat) : Int)] : List Int), y.2.2))
          else none
          else none
        else
        if (decide ((((List.length y.1 : Nat) : Int) : Int) ≤ (IntKind.wrap .i64 (y.2.2 + 2)))) = true then
          some (.inr (([] : List UInt8), false))
        else
        if (decide ((0 : Int) ≤ IntKind.wrap .i64 (y.2.2 + 1))) = true then
        if (decide ((IntKind.wrap .i64 (y.2.2 + 1) : Int) ≤ IntKind.wrap .i64 (y.2.2 + 3))) = true then
        if (decide ((IntKind.wrap .i64 (y.2.2 + 3) : Int) ≤ ((List.length y.1 : Nat) : Int))) = true then
        if (decide ((((List.length y.1 : Nat) : Int) : Int) ≤ ((List.length y.1 : Nat) : Int))) = true then
        Option.bind (strconv_ParseUint (((y.1 : List UInt8).drop (Int.toNat (IntKind.wrap .i64 (y.2.2 + 1)))).take (Int.toNat (IntKind.wrap .i64 (y.2.2 + 3)) - Int.toNat (IntKind.wrap .i64 (y.2.2 + 1)))) 16 8) fun c3 =>
        if c3.2 = true then
          some (.inr (([] : List UInt8), false))
        else
        if (roomFor (List.length y.2.1 + List.length ([IntKind.wrap .u8 c3.1] : List Int)) 1) = true then
        some (.inl (y.1, y.2.1 ++ ([IntKind.wrap .u8 c3.1] : List Int), IntKind.wrap .i64 (y.2.2 + 2)))
        else none
        else none
        else none
        else none
        else none
        else none) fun v4 =>
    match v4 with
    | .inl y5 =>
      some (.inl (y5.1, y5.2.1, IntKind.wrap .i64 (y5.2.2 + 1)))
    | .inr s6 =>
      some (.inr (.inr (s6.1, s6.2)))
  else
    some (.inr (.inl (y.1, y.2.1)))
def i_decoded (x0 : List UInt8) : Option ((List UInt8 × Bool)) :=
  Option.bind (loopG i_decoded_L1 (x0, [], 0)) fun v7 =>
  match v7 with
  | .inl y8 =>
    Option.bind (i_coded (textOf y8.2)) fun c10 =>
    some (textOf y8.2, ((c10 : List UInt8) == y8.1))
  | .inr s9 =>
    some (s9.1, s9.2)
def i_ReadChangeText_L1 (y : (List (Int × (Int × List UInt8)) × (List (List UInt8) × (Int × Int)))) : Option ((List (Int × (Int × List UInt8)) × (List (List UInt8) × (Int × Int))) ⊕ (List (Int × (Int × List UInt8)) ⊕ Bool)) :=
  if (decide ((y.2.2.2 : Int) < y.2.2.1)) = true then
    if (decide ((0 : Int) ≤ y.2.2.2)) = true then
    if (decide ((y.2.2.2 : Int) < ((List.length y.2.1 : Nat) : Int))) = true then
    Option.bind (y.2.1[0 + Int.toNat y.2.2.2]?) fun r2 =>
    if ((r2 : List UInt8) == ([] : List UInt8)) = true then
      some (.inr (.inr false))
    else
    if (decide ((0 : Int) ≤ 1)) = true then
    if (decide ((1 : Int) ≤ ((List.length r2 : Nat) : Int))) = true then
    if (decide ((((List.length r2 : Nat) : Int) : Int) ≤ ((List.length r2 : Nat) : Int))) = true then
    if (decide ((((List.length r2 : Nat) : Int) : Int) ≤ ((List.length r2 : Nat) : Int))) = true then
    Option.bind (i_number (((r2 : List UInt8).drop (Int.toNat 1)).take (Int.toNat ((List.length r2 : Nat) : Int) - Int.toNat 1))) fun c3 =>
    Option.bind (α := (List (Int × (Int × List UInt8)) × (List UInt8 × (List UInt8 × (Int × (List (List UInt8) × (Int × (Int × (Bool × (Int × (Int × List UInt8))))))))))) (
        if (decide ((0 : Int) ≤ 0)) = true then
        Option.bind (r2[Int.toNat 0]?) fun b4 =>
        if (decide ((((UInt8.toNat b4 : Nat) : Int) : Int) = 61)) = true then
          some (y.1, r2, ((r2 : List UInt8).drop (Int.toNat 1)).take (Int.toNat ((List.length r2 : Nat) : Int) - Int.toNat 1), c3, y.2.1, y.2.2.1, y.2.2.2, decide ((0 : Int) < c3), 0, 0, [])
        else
        some (y.1, r2, ((r2 : List UInt8).drop (Int.toNat 1)).take (Int.toNat ((List.length r2 : Nat) : Int) - Int.toNat 1), c3, y.2.1, y.2.2.1, y.2.2.2, false, 0, 0, [])
        else none) fun v5 =>
    Option.bind (α := (List (Int × (Int × List UInt8)) × (List (List UInt8) × (Int × (Int × (Int × (Int × List UInt8)))))) ⊕ Bool) (
        if v5.2.2.2.2.2.2.2.1 = true then
          some (.inl (v5.1, v5.2.2.2.2.1, v5.2.2.2.2.2.1, v5.2.2.2.2.2.2.1, v5.2.2.2.1, v5.2.2.2.2.2.2.2.2.2.1, v5.2.2.2.2.2.2.2.2.2.2))
        else
          Option.bind (α := (List (Int × (Int × List UInt8)) × (List UInt8 × (List UInt8 × (Int × (List (List UInt8) × (Int × (Int × (Bool × (Int × (Int × List UInt8))))))))))) (
              if (decide ((0 : Int) ≤ 0)) = true then
              Option.bind (v5.2.1[Int.toNat 0]?) fun b6 =>
              if (decide ((((UInt8.toNat b6 : Nat) : Int) : Int) = 45)) = true then
                some (v5.1, v5.2.1, v5.2.2.1, v5.2.2.2.1, v5.2.2.2.2.1, v5.2.2.2.2.2.1, v5.2.2.2.2.2.2.1, decide ((0 : Int) < v5.2.2.2.1), v5.2.2.2.2.2.2.2.2.1, v5.2.2.2.2.2.2.2.2.2.1, v5.2.2.2.2.2.2.2.2.2.2)
              else
              some (v5.1, v5.2.1, v5.2.2.1, v5.2.2.2.1, v5.2.2.2.2.1, v5.2.2.2.2.2.1, v5.2.2.2.2.2.2.1, false, v5.2.2.2.2.2.2.2.2.1, v5.2.2.2.2.2.2.2.2.2.1, v5.2.2.2.2.2.2.2.2.2.2)
              else none) fun v7 =>
          Option.bind (α := (List (Int × (Int × List UInt8)) × (List (List UInt8) × (Int × (Int × (Int × (Int × List UInt8)))))) ⊕ Bool) (
              if v7.2.2.2.2.2.2.2.1 = true then
                some (.inl (v7.1, v7.2.2.2.2.1, v7.2.2.2.2.2.1, v7.2.2.2.2.2.2.1, v7.2.2.2.2.2.2.2.2.1, v7.2.2.2.1, v7.2.2.2.2.2.2.2.2.2.2))
              else
              if (decide ((0 : Int) ≤ 0)) = true then
              Option.bind (v7.2.1[Int.toNat 0]?) fun b8 =>
              if (decide ((((UInt8.toNat b8 : Nat) : Int) : Int) = 43)) = true then
                Option.bind (i_decoded v7.2.2.1) fun c9 =>
                if (!c9.2) = true then
                  some (.inr false)
                else
                  some (.inl (v7.1, v7.2.2.2.2.1, v7.2.2.2.2.2.1, v7.2.2.2.2.2.2.1, v7.2.2.2.2.2.2.2.2.1, v7.2.2.2.2.2.2.2.2.2.1, c9.1))
              else
                some (.inr false)
              else none) fun v10 =>
          match v10 with
          | .inl y11 =>
            some (.inl (y11.1, y11.2.1, y11.2.2.1, y11.2.2.2.1, y11.2.2.2.2.1, y11.2.2.2.2.2.1, y11.2.2.2.2.2.2))
          | .inr s12 =>
            some (.inr s12)) fun v13 =>
    match v13 with
    | .inl y14 =>
      if (roomFor (List.length y14.1 + List.length ([(y14.2.2.2.2.1, (y14.2.2.2.2.2.1, y14.2.2.2.2.2.2))] : List (Int × (Int × List UInt8)))) 32) = true then
      some (.inl (y14.1 ++ ([(y14.2.2.2.2.1, (y14.2.2.2.2.2.1, y14.2.2.2.2.2.2))] : List (Int × (Int × List UInt8))), y14.2.1, y14.2.2.1, IntKind.wrap .i64 (y14.2.2.2.1 + 1)))
      else none
    | .inr s15 =>
      some (.inr (.inr s15))
    else none
    else none
    else none
    else none
    else none
    else none
  else
    some (.inr (.inl y.1))
def i_ReadChangeText (x0 : List UInt8) : Option ((List (Int × (Int × List UInt8)) × Bool)) :=
  if ((x0 : List UInt8) == ([46] : List UInt8)) = true then
    some ([], true)
  else
    Option.bind (strings_Split x0 ([32] : List UInt8)) fun c1 =>
    Option.bind (loopG i_ReadChangeText_L1 ([], c1, ((List.length c1 : Nat) : Int), 0)) fun v16 =>
    match v16 with
    | .inl y17 =>
      Option.bind (i_GoodChange y17) fun c19 =>
      if (!c19) = true then
        some ([], false)
      else
        some (y17, true)
    | .inr s18 =>
      some ([], s18)
def l_sameParts_L1 (y : (List (Int × (Int × List UInt8)) × (List (Int × (Int × List UInt8)) × (Int × Int)))) : Option ((List (Int × (Int × List UInt8)) × (List (Int × (Int × List UInt8)) × (Int × Int))) ⊕ (Unit ⊕ Bool)) :=
  if (decide ((y.2.2.2 : Int) < y.2.2.1)) = true then
    if (decide ((0 : Int) ≤ y.2.2.2)) = true then
    Option.bind (y.1[Int.toNat y.2.2.2]?) fun r1 =>
    if (decide ((0 : Int) ≤ y.2.2.2)) = true then
    Option.bind (y.2.1[Int.toNat y.2.2.2]?) fun r2 =>
    if (!(decide ((r1.1 : Int) = r2.1) && (decide ((r1.2.1 : Int) = r2.2.1) && (((r1.2.2 : List UInt8) == r2.2.2) && true)))) = true then
      some (.inr (.inr false))
    else
      some (.inl (y.1, y.2.1, y.2.2.1, IntKind.wrap .i64 (y.2.2.2 + 1)))
    else none
    else none
  else
    some (.inr (.inl ()))
def l_sameParts (x0 : List (Int × (Int × List UInt8))) (x1 : List (Int × (Int × List UInt8))) : Option (Bool) :=
  if (decide (¬ (((List.length x0 : Nat) : Int) : Int) = ((List.length x1 : Nat) : Int))) = true then
    some false
  else
    Option.bind (loopG l_sameParts_L1 (x0, x1, ((List.length x0 : Nat) : Int), 0)) fun v3 =>
    match v3 with
    | .inl y4 =>
      some true
    | .inr s5 =>
      some s5
def l_FnTexts (x0 : List Int) : Option (Bool) :=
  if (decide ((1048576 : Int) < ((List.length x0 : Nat) : Int))) = true then
    some true
  else
    Option.bind (s_DrawChangeText x0) fun c1 =>
    Option.bind (i_ChangeText c1) fun c2 =>
    Option.bind (s_ChangeText c1) fun c3 =>
    Option.bind (α := (List (Int × (Int × List UInt8)) × (List UInt8 × (Bool × Bool)))) (
        if (c2.2 != c3.2) = true then
          some (c1, c2.1, c2.2, true)
        else
        some (c1, c2.1, c2.2, (!((c2.1 : List UInt8) == c3.1)))) fun v4 =>
    if v4.2.2.2 = true then
      some false
    else
    if (!v4.2.2.1) = true then
      some ((v4.2.1 : List UInt8) == ([] : List UInt8))
    else
      Option.bind (i_ReadChangeText v4.2.1) fun c5 =>
      Option.bind (α := Bool) (
          if c5.2 = true then
            Option.bind (l_sameParts v4.1 c5.1) fun c6 =>
            some c6
          else
          some false) fun v7 =>
      some v7
end
end Go.V.G

set_option linter.unusedVariables false
set_option linter.unusedSimpArgs false
namespace Go.V.G
open Go.V
theorem w64 {n : Int} (h1 : -9223372036854775808 ≤ n) (h2 : n ≤ 9223372036854775807) : IntKind.wrap .i64 n = n := IntWalk.i64_in n ⟨h1, h2⟩
theorem wu8 {n : Int} (h1 : 0 ≤ n) (h2 : n ≤ 255) : IntKind.wrap .u8 n = n := IntWalk.u8_in n ⟨h1, h2⟩
theorem wu64 {n : Int} (h1 : 0 ≤ n) (h2 : n ≤ 18446744073709551615) : IntKind.wrap .u64 n = n := IntWalk.u64_in n ⟨h1, h2⟩
section
variable {σ τ : Type}
theorem loop_run (f : σ → Option (σ ⊕ τ)) (st : Nat → σ) (n : Nat) (z : τ) (h : ∀ k, k < n → f (st k) = some (.inl (st (k + 1)))) (hz : f (st n) = some (.inr z)) : loopG f (st 0) = some z := by
  have : ∀ j, j ≤ n → loopG f (st (n - j)) = some z := by
    intro j
    induction j with
    | zero => intro _; rw [loopG_eq, Nat.sub_zero, hz]
    | succ j ih =>
      intro hj
      rw [loopG_eq, h _ (by omega), show n - (j + 1) + 1 = n - j by omega]
      exact ih (by omega)
  have := this n (Nat.le_refl _)
  rwa [Nat.sub_self] at this
theorem loop_inv (f : σ → Option (σ ⊕ τ)) (I : σ → Prop) (m : σ → Nat) (Q : τ → Prop) (step : ∀ x, I x → (∃ y, f x = some (.inl y) ∧ I y ∧ m y < m x) ∨ ∃ z, f x = some (.inr z) ∧ Q z) :
    ∀ x, I x → ∃ z, loopG f x = some z ∧ Q z := by
  intro x
  induction hm : m x using Nat.strongRecOn generalizing x with
  | ind k ih =>
    intro hx
    rcases step x hx with ⟨y, h1, h2, h3⟩ | ⟨z, h1, h2⟩
    · obtain ⟨z, h4, h5⟩ := ih (m y) (by omega) y rfl h2
      exact ⟨z, by rw [loopG_eq, h1]; exact h4, h5⟩
    · exact ⟨z, by rw [loopG_eq, h1], h2⟩
theorem loop_fn (f : σ → Option (σ ⊕ τ)) (I : σ → Prop) (m : σ → Nat) (F : σ → τ) (step : ∀ x, I x → (∃ y, f x = some (.inl y) ∧ I y ∧ m y < m x ∧ F y = F x) ∨ f x = some (.inr (F x))) :
    ∀ x, I x → loopG f x = some (F x) := by
  intro x
  induction hm : m x using Nat.strongRecOn generalizing x with
  | ind k ih =>
    intro hx
    rcases step x hx with ⟨y, h1, h2, h3, h4⟩ | h1
    · rw [loopG_eq, h1, ← h4]; exact ih (m y) (by omega) y rfl h2
    · rw [loopG_eq, h1]
end
end Go.V.G

set_option linter.unusedVariables false
set_option linter.unusedSimpArgs false
set_option maxRecDepth 100000
namespace Go.V.G
open Go.V
def Ok {α : Type} (o : Option α) (Q : α → Prop) : Prop := ∃ r, o = some r ∧ Q r
section
variable {α β σ τ : Type} {Q : α → Prop}
theorem Ok.mk {r : α} (h : Q r) : Ok (some r) Q := ⟨r, rfl, h⟩
theorem Ok.of {o : Option α} {r : α} (h : o = some r) (hq : Q r) : Ok o Q := ⟨r, h, hq⟩
theorem Ok.eq {o : Option α} {r : α} (h : Ok o fun x => x = r) : o = some r := by obtain ⟨x, h, rfl⟩ := h; exact h
theorem Ok.mono {o : Option α} {R : α → Prop} (h : Ok o Q) (hq : ∀ x, Q x → R x) : Ok o R := by obtain ⟨x, h, h'⟩ := h; exact ⟨x, h, hq x h'⟩
theorem Ok.bind {o : Option α} {f : α → Option β} {R : β → Prop} (h : Ok o Q) (hf : ∀ x, Q x → Ok (f x) R) : Ok (o.bind f) R := by
  obtain ⟨x, h, hx⟩ := h
  subst h
  exact hf x hx
theorem Ok.bind_eq {o : Option α} {f : α → Option β} {R : β → Prop} {r : α} (h : o = some r) (hf : Ok (f r) R) : Ok (o.bind f) R := by subst h; exact hf
theorem Ok.ite {c : Prop} [Decidable c] {a b : Option α} (h1 : c → Ok a Q) (h2 : ¬ c → Ok b Q) : Ok (if c then a else b) Q := by
  split
  · rename_i h; exact h1 h
  · rename_i h; exact h2 h
theorem Ok.yes {c : Prop} [Decidable c] {a b : Option α} (hc : c) (h : Ok a Q) : Ok (if c then a else b) Q := by rw [if_pos hc]; exact h
theorem Ok.no {c : Prop} [Decidable c] {a b : Option α} (hc : ¬ c) (h : Ok b Q) : Ok (if c then a else b) Q := by rw [if_neg hc]; exact h
theorem Ok.loop {f : σ → Option (σ ⊕ τ)} (I : σ → Prop) (m : σ → Nat) {R : τ → Prop} {x : σ} (hx : I x) (step : ∀ x, I x → Ok (f x) fun r => match r with
    | .inl y => I y ∧ m y < m x
    | .inr z => R z) : Ok (loopG f x) R := by
  obtain ⟨z, h1, h2⟩ := loop_inv f I m R (fun x hx => by
    obtain ⟨r, h1, h2⟩ := step x hx
    cases r with
    | inl y => exact .inl ⟨y, h1, h2⟩
    | inr z => exact .inr ⟨z, h1, h2⟩) x hx
  exact ⟨z, h1, h2⟩
end
abbrev Prt := Int × (Int × List UInt8)
def kd (p : Prt) : Int := if 0 < p.1 ∧ p.2.1 = 0 ∧ p.2.2 = [] then 1 else if 0 < p.2.1 ∧ p.1 = 0 ∧ p.2.2 = [] then 2 else if p.2.2 ≠ [] ∧ p.1 = 0 ∧ p.2.1 = 0 then 3 else 0
theorem i_kind_eq (a b : Int) (s : List UInt8) : i_Part_kind a b s = some (kd (a, b, s)) := by
  unfold i_Part_kind kd
  by_cases h1 : 0 < a <;> by_cases h2 : b = 0 <;> by_cases h3 : s = [] <;> by_cases h4 : 0 < b <;> by_cases h5 : a = 0 <;> simp [h1, h2, h3, h4, h5]
theorem s_kind_eq (a b : Int) (s : List UInt8) : s_l1Kind a b s = some (kd (a, b, s)) := by
  unfold s_l1Kind kd
  by_cases h1 : 0 < a <;> by_cases h2 : b = 0 <;> by_cases h3 : s = [] <;> by_cases h4 : 0 < b <;> by_cases h5 : a = 0 <;> simp [h1, h2, h3, h4, h5]
def I64 (n : Int) : Prop := -9223372036854775808 ≤ n ∧ n ≤ 9223372036854775807
theorem I64.wrap (n : Int) : I64 (IntKind.wrap .i64 n) := by rw [IntKind.wrap_i64]; unfold I64; omega
theorem I64.eq {n : Int} (h : I64 n) : IntKind.wrap .i64 n = n := w64 h.1 h.2
def psum : List Prt → Nat
  | [] => 0
  | p :: l => p.2.2.length + psum l
theorem psum_append : ∀ a b : List Prt, psum (a ++ b) = psum a + psum b
  | [], b => by simp [psum]
  | p :: a, b => by simp only [List.cons_append, psum, psum_append a b]; omega
theorem psum_mem : ∀ {l : List Prt} {p : Prt}, p ∈ l → p.2.2.length ≤ psum l
  | q :: l, p, h => by
    rcases List.mem_cons.1 h with rfl | h
    · simp only [psum]; omega
    · have := psum_mem h; simp only [psum]; omega
structure Sm (B : Nat) (l : List Prt) : Prop where
  len : l.length ≤ B
  put : psum l ≤ B
  fit : ∀ p ∈ l, I64 p.1 ∧ I64 p.2.1
theorem Sm.mono {B C : Nat} {l : List Prt} (h : Sm B l) (hc : B ≤ C) : Sm C l := ⟨Nat.le_trans h.len hc, Nat.le_trans h.put hc, h.fit⟩
theorem Sm.nil (B : Nat) : Sm B [] := ⟨Nat.zero_le _, Nat.zero_le _, fun _ h => by cases h⟩
def addp (l : List Prt) (p : Prt) : List Prt :=
  if p = (0, 0, []) then l else
  match l.getLast? with
  | none => [p]
  | some q => if kd q = kd p then l.dropLast ++ [(IntKind.wrap .i64 (q.1 + p.1), IntKind.wrap .i64 (q.2.1 + p.2.1), q.2.2 ++ p.2.2)] else l ++ [p]
theorem addp_sm {B : Nat} {l : List Prt} {p : Prt} (h : Sm B l) (hp : I64 p.1 ∧ I64 p.2.1) {C : Nat} (hl : B + 1 ≤ C) (hc : B + p.2.2.length ≤ C) : Sm C (addp l p) := by
  unfold addp
  split
  · exact h.mono (by omega)
  · split
    · exact ⟨by simp; omega, by simp only [psum]; have := h.put; omega, fun q hq => by rw [List.mem_singleton.1 hq]; exact hp⟩
    · rename_i q hq
      obtain ⟨l', rfl⟩ := List.getLast?_eq_some_iff.1 hq
      have h1 := h.len
      have h2 := h.put
      rw [psum_append] at h2
      simp only [psum, List.length_append, List.length_singleton] at h1 h2
      split
      · rw [List.dropLast_concat]
        refine ⟨by simp; omega, by rw [psum_append]; simp only [psum, List.length_append]; omega, fun r hr => ?_⟩
        rcases List.mem_append.1 hr with hr | hr
        · exact h.fit r (by simp [hr])
        · rw [List.mem_singleton.1 hr]; exact ⟨I64.wrap _, I64.wrap _⟩
      · refine ⟨by simp; omega, by rw [psum_append, psum_append]; simp only [psum]; omega, fun r hr => ?_⟩
        rcases List.mem_append.1 hr with hr | hr
        · exact h.fit r hr
        · rw [List.mem_singleton.1 hr]; exact hp
theorem len_last {α : Type} {l : List α} {q : α} (h : l.getLast? = some q) : ∃ n, l.length = n + 1 ∧ l[n]? = some q ∧ ∀ x, l.set n x = l.dropLast ++ [x] := by
  obtain ⟨l', rfl⟩ := List.getLast?_eq_some_iff.1 h
  exact ⟨l'.length, by simp, by simp, fun x => by simp⟩
theorem s_l1Add_eq {B : Nat} {l : List Prt} (h : Sm B l) (hB : B ≤ 1099511627776) (a b : Int) (s : List UInt8) (hs : s.length ≤ 1099511627776) : s_l1Add l a b s = some (addp l (a, b, s)) := by
  unfold s_l1Add addp
  by_cases h0 : ((a, b, s) : Prt) = (0, 0, [])
  · obtain ⟨rfl, rfl, rfl⟩ : a = 0 ∧ b = 0 ∧ s = [] := by simpa using h0
    simp
  · rw [if_neg h0, if_neg (by simpa using h0)]
    have hroom : ∀ x : Prt, roomFor (l.length + [x].length) 32 = true := fun x => by
      have := h.len
      simp [roomFor]; omega
    cases hg : l.getLast? with
    | none =>
      obtain rfl : l = [] := by simpa using hg
      simp [roomFor]
    | some q =>
      obtain ⟨n, hn, hq, hset⟩ := len_last hg
      have hqs : q.2.2.length ≤ B := Nat.le_trans (psum_mem (List.mem_of_getElem? hq)) h.put
      have e1 : IntKind.wrap .i64 (((l.length : Nat) : Int) - 1) = ((n : Nat) : Int) := by rw [hn, w64 (by omega) (by have := h.len; omega)]; omega
      have hpos : (0 : Int) < ((l.length : Nat) : Int) := by omega
      have hlt : ((n : Nat) : Int) < ((l.length : Nat) : Int) := by omega
      have hge : (0 : Int) ≤ ((n : Nat) : Int) := by omega
      have hst : ∀ x : Prt, (l.set n x)[n]? = some x := fun x => List.getElem?_set_self (by omega)
      simp only [e1, hpos, hlt, hge, decide_true, if_true, Int.toNat_natCast, Nat.zero_add, hq, Option.bind_some, s_kind_eq]
      by_cases hk : kd q = kd (a, b, s)
      · have hk' : (kd (q.1, q.2.1, q.2.2) = kd (a, b, s)) := hk
        have hlen : q.2.2.length + s.length ≤ 9223372036854775807 := by omega
        simp only [hk', hk, decide_true, if_true, e1, hlt, hge, Int.toNat_natCast, hq, Option.bind_some, hst, List.set_set, hlen]
        rw [hset]
      · have hk' : ¬ (kd (q.1, q.2.1, q.2.2) = kd (a, b, s)) := hk
        simp only [hk', hk, decide_false, if_false, Bool.false_eq_true, hroom, if_true]
def Bytes (code : List Int) : Prop := ∀ x ∈ code, 0 ≤ x ∧ x ≤ 255
structure At (code : List Int) (k : Int) (a : Int) : Prop where
  b : Bytes code
  lo : 0 ≤ a
  hi : a + k ≤ 4611686018427387904
theorem At.less {code : List Int} {k j a : Int} (h : At code k a) (hj : j ≤ k) : At code j a := ⟨h.b, h.lo, by have := h.hi; omega⟩
structure To (code : List Int) (a k : Int) (code' : List Int) (a' : Int) : Prop where
  c : code' = code
  lo : a ≤ a'
  hi : a' ≤ a + k
theorem To.at {code code' : List Int} {a k a' j : Int} (t : To code a k code' a') (h : At code (k + j) a) : At code' j a' := by
  obtain ⟨rfl, h1, h2⟩ := t
  exact ⟨h.b, by have := h.lo; omega, by have := h.hi; omega⟩
theorem To.trans {c c1 c2 : List Int} {a k a1 j a2 : Int} (t : To c a k c1 a1) (u : To c1 a1 j c2 a2) : To c a (k + j) c2 a2 := by
  obtain ⟨rfl, h1, h2⟩ := t
  obtain ⟨rfl, h3, h4⟩ := u
  exact ⟨rfl, by omega, by omega⟩
theorem To.refl (c : List Int) (a : Int) : To c a 0 c a := ⟨rfl, Int.le_refl _, by omega⟩
theorem To.more {c c1 : List Int} {a k a1 j : Int} (t : To c a k c1 a1) (h : k ≤ j) : To c a j c1 a1 := ⟨t.c, t.lo, by have := t.hi; omega⟩
theorem and255 (x : Int) : 0 ≤ (((BitVec.ofInt (IntKind.bits .u64) x &&& BitVec.ofInt (IntKind.bits .u64) 255).toNat : Nat) : Int) ∧ (((BitVec.ofInt (IntKind.bits .u64) x &&& BitVec.ofInt (IntKind.bits .u64) 255).toNat : Nat) : Int) ≤ 255 := by
  refine ⟨by omega, ?_⟩
  have h : (BitVec.ofInt (IntKind.bits .u64) x &&& BitVec.ofInt (IntKind.bits .u64) 255).toNat ≤ 255 := by
    rw [BitVec.toNat_and]
    exact Nat.le_trans Nat.and_le_right (by simp [IntKind.bits])
  omega
theorem next_ok {code : List Int} {a s : Int} (h : At code 1 a) : Ok (s_l1Cur_next_f code a s) fun r => (0 ≤ r.1 ∧ r.1 ≤ 255) ∧ To code a 1 r.2.1 r.2.2.1 := by
  unfold s_l1Cur_next_f
  refine Ok.bind (Q := fun v => (0 ≤ v.1 ∧ v.1 ≤ 255) ∧ v.2.1 = code ∧ v.2.2.1 = a) ?_ ?_
  · refine Ok.ite (fun hc => ?_) (fun _ => Ok.mk ⟨by simp, rfl, rfl⟩)
    have hlo := h.lo
    simp only [decide_eq_true_eq] at hc
    refine Ok.yes (by simpa using hlo) ?_
    have hi : a.toNat < code.length := by omega
    rw [List.getElem?_eq_getElem hi]
    have hb := h.b _ (List.getElem_mem hi)
    refine Ok.mk ⟨?_, rfl, rfl⟩
    simp only
    rw [w64 (by omega) (by omega)]; exact hb
  · rintro ⟨b, c, a', s'⟩ ⟨hb, e1, e2⟩
    dsimp only at hb e1 e2
    subst e1 e2
    have h1 := h.lo
    have h2 := h.hi
    have e : IntKind.wrap .i64 (a' + 1) = a' + 1 := w64 (by omega) (by omega)
    simp only [e]
    refine Ok.ite (fun _ => Ok.mk ⟨hb, ⟨rfl, by simp only; omega, by simp only; omega⟩⟩) fun _ => ?_
    refine Ok.yes (by simp) (Ok.mk ⟨?_, ⟨rfl, by simp only; omega, by simp only; omega⟩⟩)
    simp only
    have := and255 (Int.fdiv (IntKind.wrap .u64 ((IntKind.wrap .u64 ((IntKind.wrap .u64 (s' * 6364136223846793005)) + (IntKind.wrap .u64 b))) + 1442695040888963407)) (2 ^ (min (Int.toNat 40) (IntKind.bits .u64))))
    rw [wu64 this.1 (by omega), w64 (by omega) (by omega)]
    exact this
theorem tmod_lt {x n : Int} (hx : 0 ≤ x) (hn : 1 < n) : 0 ≤ Int.tmod x n ∧ Int.tmod x n < n := by
  rw [Int.tmod_eq_emod_of_nonneg hx]
  exact ⟨Int.emod_nonneg _ (by omega), Int.emod_lt_of_pos _ (by omega)⟩
theorem pick_ok {code : List Int} {a s n : Int} (h : At code 2 a) : Ok (s_l1Cur_pick_f n code a s) fun r => (0 ≤ r.1 ∧ (r.1 < n ∨ r.1 = 0)) ∧ To code a 2 r.2.1 r.2.2.1 := by
  unfold s_l1Cur_pick_f
  refine Ok.ite (fun hc => Ok.mk ⟨by simp, (To.refl _ _).more (by omega)⟩) fun hc => ?_
  have hn : 1 < n := by simp at hc; omega
  refine (next_ok (h.less (by omega))).bind ?_
  rintro ⟨b, c1, a1, s1⟩ ⟨hb, t1⟩
  refine Ok.bind (Q := fun v => v.1 = n ∧ 0 ≤ v.2.1 ∧ To code a 2 v.2.2.1 v.2.2.2.1) ?_ ?_
  · refine Ok.ite (fun _ => ?_) (fun _ => Ok.mk ⟨rfl, hb.1, t1.more (by omega)⟩)
    refine (next_ok (t1.at h)).bind ?_
    rintro ⟨b2, c2, a2, s2⟩ ⟨hb2, t2⟩
    refine Ok.mk ⟨rfl, ?_, t1.trans t2⟩
    simp only at hb hb2 ⊢
    rw [w64 (n := b * 256) (by omega) (by omega), w64 (by omega) (by omega)]
    omega
  · rintro ⟨n', x, c, a', s'⟩ ⟨rfl, hx, t⟩
    have := tmod_lt hx hn
    refine Ok.yes (by simp; omega) (Ok.mk ⟨⟨this.1, .inl this.2⟩, t⟩)
theorem one_ok {code : List Int} {a s n : Int} (h : At code 2 a) : Ok (s_l1Cur_one_f n code a s) fun r => To code a 2 r.2.1 r.2.2.1 := by
  unfold s_l1Cur_one_f
  exact (pick_ok h).bind fun r hr => Ok.mk hr.2
theorem of_ok {code : List Int} {a s : Int} {l : List (List UInt8)} (h : At code 2 a) (hl : l ≠ []) : Ok (s_l1Cur_of_f l code a s) fun r => r.1 ∈ l ∧ To code a 2 r.2.1 r.2.2.1 := by
  unfold s_l1Cur_of_f
  refine (pick_ok h).bind ?_
  rintro ⟨i, c, a', s'⟩ ⟨⟨h1, h2⟩, t⟩
  have hp : 0 < l.length := List.length_pos_iff.2 hl
  simp only at h1 h2
  have hi : i.toNat < l.length := by omega
  refine Ok.yes (by simpa using h1) (Ok.yes (by simp; omega) ?_)
  rw [Nat.zero_add, List.getElem?_eq_getElem hi]
  exact Ok.mk ⟨List.getElem_mem hi, t⟩
theorem put_ok {code : List Int} {a s : Int} (h : At code 2 a) : Ok (s_l1Cur_put_f code a s) fun r => r.1.length ≤ 5 ∧ To code a 2 r.2.1 r.2.2.1 := by
  unfold s_l1Cur_put_f
  refine (of_ok h (by simp)).bind ?_
  rintro ⟨x, c, a', s'⟩ ⟨hx, t⟩
  refine Ok.mk ⟨?_, t⟩
  simp only [List.mem_cons, List.not_mem_nil, or_false] at hx
  rcases hx with rfl | rfl | rfl | rfl | rfl | rfl <;> simp
theorem wide_ok {code : List Int} {a s : Int} (h : At code 8 a) : Ok (s_l1Cur_wide_f code a s) fun r => I64 r.1 ∧ To code a 8 r.2.1 r.2.2.1 := by
  unfold s_l1Cur_wide_f
  refine Ok.bind (Q := fun r => I64 r.1 ∧ To code a 8 r.2.1 r.2.2.1) ?_ (fun r hr => Ok.mk hr)
  refine Ok.loop (fun y => I64 y.1 ∧ 0 ≤ y.2.1 ∧ y.2.1 ≤ 8 ∧ To code a y.2.1 y.2.2.1 y.2.2.2.1) (fun y => (8 - y.2.1).toNat) ⟨by unfold I64; simp, by simp, by simp, To.refl _ _⟩ ?_
  rintro ⟨n, i, c, a', s'⟩ ⟨hn, h0, h8, t⟩
  simp only at hn h0 h8 t
  unfold s_l1Cur_wide_f_L1
  refine Ok.ite (fun hc => ?_) fun hc => Ok.mk ⟨hn, t.more h8⟩
  have hc' : i < 8 := by simpa using hc
  refine Ok.yes (by simp) ((next_ok (t.at (j := 1) (h.less (by omega)))).bind ?_)
  rintro ⟨b, c2, a2, s2⟩ ⟨hb, t2⟩
  have e : IntKind.wrap .i64 (i + 1) = i + 1 := w64 (by omega) (by omega)
  refine Ok.mk ⟨⟨I64.wrap _, ?_, ?_, ?_⟩, ?_⟩
  · simp only [e]; omega
  · simp only [e]; omega
  · simp only [e]; exact t.trans t2
  · simp only [e]; omega
end Go.V.G

set_option linter.unusedVariables false
set_option linter.unusedSimpArgs false
set_option maxRecDepth 100000
namespace Go.V.G
open Go.V
theorem fdiv_I64 {n : Int} (h : I64 n) (k : Nat) : I64 (Int.fdiv n (2 ^ k)) := by
  have h2 : (0 : Int) < 2 ^ k := Int.pow_pos (by decide)
  rw [Int.fdiv_eq_ediv_of_nonneg _ (by omega)]
  obtain ⟨a, b⟩ := h
  constructor
  · rw [Int.le_ediv_iff_mul_le h2]
    have : -9223372036854775808 * (2 ^ k : Int) ≤ -9223372036854775808 * 1 := Int.mul_le_mul_of_nonpos_left (by omega) (by omega)
    omega
  · have h3 : n / 2 ^ k ≤ 9223372036854775807 / 2 ^ k := Int.ediv_le_ediv h2 b
    have h4 : (9223372036854775807 : Int) / 2 ^ k ≤ 9223372036854775807 := Int.ediv_le_self _ (by omega)
    omega
theorem sized_ok {code : List Int} {a s : Int} (h : At code 16 a) : Ok (s_l1Cur_sized_f code a s) fun r => I64 r.1 ∧ To code a 16 r.2.1 r.2.2.1 := by
  unfold s_l1Cur_sized_f
  refine (pick_ok (h.less (by omega))).bind ?_
  rintro ⟨x1, c1, a1, s1⟩ ⟨hx1, t1⟩
  refine (pick_ok (t1.at (j := 2) (h.less (by omega)))).bind ?_
  rintro ⟨x2, c2, a2, s2⟩ ⟨hx2, t2⟩
  have t2 := t1.trans t2
  have i1 : I64 x1 := by simp only at hx1; unfold I64; omega
  refine Ok.bind (Q := fun v => I64 v.1 ∧ To code a 14 v.2.1 v.2.2.1) ?_ ?_
  · refine Ok.ite (fun _ => ?_) fun _ => ?_
    · refine (pick_ok (t2.at (j := 2) (h.less (by omega)))).bind ?_
      rintro ⟨x, c, a', s'⟩ ⟨hx, t⟩
      exact Ok.mk ⟨by simp only at hx ⊢; unfold I64; omega, (t2.trans t).more (by omega)⟩
    · refine Ok.bind (Q := fun v => I64 v.1 ∧ To code a 14 v.2.1 v.2.2.1) ?_ (fun v hv => Ok.mk hv)
      refine Ok.ite (fun _ => ?_) fun _ => ?_
      · refine (wide_ok (t2.at (j := 8) (h.less (by omega)))).bind ?_
        rintro ⟨x, c, a', s'⟩ ⟨hx, t⟩
        have t := t2.trans t
        refine (pick_ok (t.at (j := 2) (h.less (by omega)))).bind ?_
        rintro ⟨y, c, a'', s''⟩ ⟨hy, t'⟩
        simp only at hy
        have e : IntKind.wrap .u64 y = y := wu64 (by omega) (by omega)
        refine Ok.yes (by simp [e]; omega) (Ok.mk ⟨fdiv_I64 hx _, (t.trans t').more (by omega)⟩)
      · refine Ok.bind (Q := fun v => I64 v.1 ∧ To code a 14 v.2.1 v.2.2.1) ?_ (fun v hv => Ok.mk hv)
        refine Ok.ite (fun _ => ?_) fun _ => ?_
        · refine (pick_ok (t2.at (j := 2) (h.less (by omega)))).bind ?_
          rintro ⟨y, c, a'', s''⟩ ⟨hy, t'⟩
          simp only at hy
          have e : IntKind.wrap .u64 y = y := wu64 (by omega) (by omega)
          refine Ok.yes (by simp [e]; omega) (Ok.mk ⟨I64.wrap _, (t2.trans t').more (by omega)⟩)
        · refine Ok.bind (Q := fun v => I64 v.1 ∧ To code a 14 v.2.1 v.2.2.1) ?_ (fun v hv => Ok.mk hv)
          refine Ok.ite (fun _ => ?_) fun _ => Ok.mk ⟨i1, t2.more (by omega)⟩
          refine (pick_ok (t2.at (j := 2) (h.less (by omega)))).bind ?_
          rintro ⟨y, c, a'', s''⟩ ⟨hy, t'⟩
          simp only at hy
          have e : IntKind.wrap .u64 y = y := wu64 (by omega) (by omega)
          refine Ok.yes (by simp [e]; omega) (Ok.mk ⟨I64.wrap _, (t2.trans t').more (by omega)⟩)
  · rintro ⟨x, c, a', s'⟩ ⟨hx, t⟩
    refine (one_ok (t.at (j := 2) h)).bind ?_
    rintro ⟨y, c, a'', s''⟩ t'
    refine Ok.bind (Q := fun v => I64 v.1 ∧ To code a 16 v.2.1 v.2.2.1) ?_ (fun v hv => Ok.mk hv)
    exact Ok.ite (fun _ => Ok.mk ⟨I64.wrap _, t.trans t'⟩) fun _ => Ok.mk ⟨hx, t.trans t'⟩
theorem part_ok {code : List Int} {a s : Int} (h : At code 18 a) : Ok (s_l1Cur_part_f code a s) fun r => (I64 r.1 ∧ I64 r.2.1 ∧ r.2.2.1.length ≤ 121) ∧ To code a 18 r.2.2.2.1 r.2.2.2.2.1 := by
  have z : I64 0 := by unfold I64; omega
  have o : I64 1 := by unfold I64; omega
  unfold s_l1Cur_part_f
  refine (pick_ok (h.less (by omega))).bind ?_
  rintro ⟨x1, c1, a1, s1⟩ ⟨hx1, t1⟩
  refine Ok.ite (fun _ => Ok.mk ⟨⟨z, z, by simp⟩, t1.more (by omega)⟩) fun _ => ?_
  refine Ok.ite (fun _ => ?_) fun _ => ?_
  · refine (sized_ok (t1.at (j := 16) (h.less (by omega)))).bind ?_
    rintro ⟨x, c, a', s'⟩ ⟨hx, t⟩
    exact Ok.mk ⟨⟨hx, z, by simp⟩, (t1.trans t).more (by omega)⟩
  refine Ok.ite (fun _ => ?_) fun _ => ?_
  · refine (sized_ok (t1.at (j := 16) (h.less (by omega)))).bind ?_
    rintro ⟨x, c, a', s'⟩ ⟨hx, t⟩
    exact Ok.mk ⟨⟨z, hx, by simp⟩, (t1.trans t).more (by omega)⟩
  refine Ok.ite (fun _ => Ok.mk ⟨⟨o, z, by simp⟩, t1.more (by omega)⟩) fun _ => ?_
  refine (pick_ok (t1.at (j := 2) (h.less (by omega)))).bind ?_
  rintro ⟨x, c, a', s'⟩ ⟨hx, t⟩
  simp only at hx
  have e : IntKind.wrap .i64 (120 + x) = 120 + x := w64 (by omega) (by omega)
  refine Ok.yes (by simp [e]; omega) (Ok.yes (by simp) (Ok.yes (by simp [e, roomFor]; omega) (Ok.mk ⟨⟨z, z, ?_⟩, (t1.trans t).more (by omega)⟩)))
  simp only [e, textOf, List.length_map, List.length_replicate]; omega
theorem size_ok {code : List Int} {a s : Int} (h : At code 4 a) : Ok (s_l1Cur_size_f code a s) fun r => (0 ≤ r.1 ∧ r.1 ≤ 120) ∧ To code a 4 r.2.1 r.2.2.1 := by
  unfold s_l1Cur_size_f
  refine (one_ok (h.less (by omega))).bind ?_
  rintro ⟨x1, c1, a1, s1⟩ t1
  refine Ok.ite (fun _ => ?_) fun _ => ?_
  · refine (pick_ok (t1.at (j := 2) (h.less (by omega)))).bind ?_
    rintro ⟨x, c, a', s'⟩ ⟨hx, t⟩
    simp only at hx
    have e : IntKind.wrap .i64 (120 - x) = 120 - x := w64 (by omega) (by omega)
    exact Ok.mk ⟨by simp only [e]; omega, t1.trans t⟩
  · refine (pick_ok (t1.at (j := 2) (h.less (by omega)))).bind ?_
    rintro ⟨x, c, a', s'⟩ ⟨hx, t⟩
    simp only at hx
    exact Ok.mk ⟨by simp only; omega, t1.trans t⟩
theorem room_ok {B : Nat} {l : List Prt} (h : Sm B l) (hB : B ≤ 1099511627776) (x : Prt) : roomFor (List.length l + List.length [x]) 32 = true := by
  have := h.len
  simp [roomFor]; omega
theorem Sm.snoc {B C : Nat} {l : List Prt} {p : Prt} (h : Sm B l) (hp : I64 p.1 ∧ I64 p.2.1) (hl : B + 1 ≤ C) (hc : B + p.2.2.length ≤ C) : Sm C (l ++ [p]) :=
  ⟨by have := h.len; simp; omega, by rw [psum_append]; simp only [psum]; have := h.put; omega, fun q hq => by
    rcases List.mem_append.1 hq with hq | hq
    · exact h.fit q hq
    · rw [List.mem_singleton.1 hq]; exact hp⟩
theorem changeOf_round {n : Int} {l : List Prt} {room : Int} {c : List Int} {a s : Int} {B : Nat} (h : At c 10 a) (hl : Sm B l) (hB : B ≤ 1099511627000) (hn : n ≤ 1048576) :
    Ok (s_l1Cur_changeOf_f_L1 (n, l, room, c, a, s)) fun r => match r with
      | .inl y => 0 < n ∧ 0 ≤ y.1 ∧ y.1 < n ∧ Sm (B + 6) y.2.1 ∧ To c a 10 y.2.2.2.1 y.2.2.2.2.1
      | .inr z => n ≤ 0 ∧ z.1 = l ∧ To c a 0 z.2.2.1 z.2.2.2.1 := by
  have z : I64 0 := by unfold I64; omega
  unfold s_l1Cur_changeOf_f_L1
  refine Ok.ite (fun hc => ?_) fun hc => Ok.mk ⟨by simpa using hc, rfl, To.refl _ _⟩
  have hpos : 0 < n := by simpa using hc
  refine (put_ok (h.less (by omega))).bind ?_
  rintro ⟨p, c1, a1, s1⟩ ⟨hp, t1⟩
  dsimp only at hp t1 ⊢
  refine Ok.bind (Q := fun v => v.1 = n ∧ v.2.1 = l ∧ v.2.2.2.1 = p ∧ To c a 4 v.2.2.2.2.2.1 v.2.2.2.2.2.2.1) ?_ ?_
  · refine (one_ok (t1.at (j := 2) (h.less (by omega)))).bind ?_
    rintro ⟨x, c2, a2, s2⟩ t2
    exact Ok.ite (fun _ => Ok.mk ⟨rfl, rfl, rfl, t1.trans t2⟩) fun _ => Ok.mk ⟨rfl, rfl, rfl, t1.trans t2⟩
  rintro ⟨n', l', room', p', fl, c2, a2, s2⟩ ⟨e1, e2, e3, t2⟩
  dsimp only at e1 e2 e3 t2 ⊢
  subst e1 e2 e3
  refine Ok.bind (Q := fun v => v.1 = n' ∧ Sm (B + 5) v.2.1 ∧ To c a 4 v.2.2.2.1 v.2.2.2.2.1) ?_ ?_
  · refine Ok.ite (fun _ => ?_) fun _ => Ok.mk ⟨rfl, hl.mono (by omega), t2⟩
    refine Ok.bind_eq (s_l1Add_eq hl (by omega) 0 0 p' (by omega)) (Ok.mk ⟨rfl, addp_sm hl ⟨z, z⟩ (by omega) (by dsimp only; omega), t2⟩)
  rintro ⟨n1, l1, room1, c3, a3, s3⟩ ⟨e1, hl1, t3⟩
  dsimp only at e1 hl1 t3 ⊢
  subst e1
  refine (pick_ok (t3.at (j := 2) (h.less (by omega)))).bind ?_
  rintro ⟨k0, c4, a4, s4⟩ ⟨hk0, t4⟩
  dsimp only at hk0 t4 ⊢
  have t4 := t3.trans t4
  refine (one_ok (t4.at (j := 2) (h.less (by omega)))).bind ?_
  rintro ⟨fl2, c5, a5, s5⟩ t5
  dsimp only at t5 ⊢
  have t5 := t4.trans t5
  refine Ok.bind (Q := fun v => v.1 = n1 ∧ v.2.1 = l1 ∧ (1 ≤ v.2.2.2.1 ∧ v.2.2.2.1 ≤ 1048576) ∧ To c a 8 v.2.2.2.2.1 v.2.2.2.2.2.1) ?_ ?_
  · refine Ok.ite (fun _ => Ok.mk ⟨rfl, rfl, by dsimp only; omega, t5⟩) fun _ => ?_
    have e : IntKind.wrap .i64 (1 + k0) = 1 + k0 := w64 (by omega) (by omega)
    exact Ok.mk ⟨rfl, rfl, by dsimp only; rw [e]; omega, t5⟩
  rintro ⟨n2, l2, room2, k2, c6, a6, s6⟩ ⟨e1, e2, hk2, t6⟩
  dsimp only at e1 e2 hk2 t6 ⊢
  subst e1 e2
  refine Ok.bind (Q := fun v => v.1 = n2 ∧ v.2.1 = l2 ∧ (1 ≤ v.2.2.2.1 ∧ v.2.2.2.1 ≤ n2) ∧ To c a 8 v.2.2.2.2.1 v.2.2.2.2.2.1) ?_ ?_
  · refine Ok.ite (fun _ => Ok.mk ⟨rfl, rfl, by dsimp only; omega, t6⟩) fun hc => Ok.mk ⟨rfl, rfl, ?_, t6⟩
    simp only [decide_eq_true_eq] at hc
    dsimp only; omega
  rintro ⟨n3, l3, room3, k3, c7, a7, s7⟩ ⟨e1, e2, hk3, t7⟩
  dsimp only at e1 e2 hk3 t7 ⊢
  subst e1 e2
  refine (one_ok (t7.at (j := 2) (h.less (by omega)))).bind ?_
  rintro ⟨fl3, c8, a8, s8⟩ t8
  dsimp only at t8 ⊢
  have t8 := t7.trans t8
  have ik : I64 k3 := by unfold I64; omega
  refine Ok.bind (Q := fun v => v.1 = n3 ∧ Sm (B + 6) v.2.1 ∧ v.2.2.2.1 = k3 ∧ To c a 10 v.2.2.2.2.1 v.2.2.2.2.2.1) ?_ ?_
  · refine Ok.ite (fun _ => ?_) fun _ => ?_
    · exact Ok.bind_eq (s_l1Add_eq hl1 (by omega) 0 k3 [] (by simp)) (Ok.mk ⟨rfl, addp_sm hl1 ⟨z, ik⟩ (by omega) (by simp), rfl, t8⟩)
    · exact Ok.bind_eq (s_l1Add_eq hl1 (by omega) k3 0 [] (by simp)) (Ok.mk ⟨rfl, addp_sm hl1 ⟨ik, z⟩ (by omega) (by simp), rfl, t8⟩)
  rintro ⟨n4, l4, room4, k4, c9, a9, s9⟩ ⟨e1, hl4, e2, t9⟩
  dsimp only at e1 hl4 e2 t9 ⊢
  subst e1 e2
  have e : IntKind.wrap .i64 (n4 - k4) = n4 - k4 := w64 (by omega) (by omega)
  exact Ok.mk ⟨hpos, by dsimp only; omega, by dsimp only; omega, hl4, t9⟩
theorem changeOf_ok {n : Int} {code : List Int} {a s : Int} (N : Nat) (hN : n ≤ N) (hn : n ≤ 1048576) (hNn : N ≤ 1048576) (h : At code (10 * N + 24) a) :
    Ok (s_l1Cur_changeOf_f n code a s) fun r => Sm (6 * N + 127) r.1 ∧ To code a (10 * N + 24) r.2.1 r.2.2.1 := by
  unfold s_l1Cur_changeOf_f
  refine Ok.bind (Q := fun v => Sm (6 * N) v.1 ∧ To code a (10 * N) v.2.2.1 v.2.2.2.1) ?_ ?_
  · refine Ok.loop (fun y => y.1 ≤ (N : Int) ∧ (0 ≤ y.1 ∨ y.1 = n) ∧ Sm (6 * (N - y.1.toNat)) y.2.1 ∧ To code a (10 * (N - y.1.toNat : Nat)) y.2.2.2.1 y.2.2.2.2.1) (fun y => y.1.toNat) ⟨hN, .inr rfl, Sm.nil _, (To.refl _ _).more (by omega)⟩ ?_
    rintro ⟨m, l, room, c, a', s'⟩ ⟨h1, h2, h3, t⟩
    dsimp only at h1 h2 h3 t ⊢
    by_cases hm : 0 < m
    · refine (changeOf_round (t.at (j := 10) (h.less (by omega))) h3 (by omega) (by omega)).mono ?_
      rintro (⟨m', l', room', c', a'', s''⟩ | z) hr
      · obtain ⟨_, k1, k2, k3, k4⟩ := hr
        dsimp only at k1 k2 k3 k4 ⊢
        exact ⟨⟨by omega, .inl k1, k3.mono (by omega), (t.trans k4).more (by omega)⟩, by omega⟩
      · exact absurd hr.1 (by omega)
    · refine (changeOf_round (n := m) (t.at (j := 10) (h.less (by omega))) h3 (by omega) (by omega)).mono ?_
      rintro (y | ⟨l', room', c', a'', s''⟩) hr
      · exact absurd hr.1 hm
      · obtain ⟨_, k1, k2⟩ := hr
        dsimp only at k1 k2 ⊢
        subst k1
        exact ⟨h3.mono (by omega), (t.trans k2).more (by omega)⟩
  rintro ⟨l, room, c, a1, s1⟩ ⟨hl, t1⟩
  dsimp only at hl t1 ⊢
  have z : I64 0 := by unfold I64; omega
  refine (put_ok (t1.at (j := 2) (h.less (by omega)))).bind ?_
  rintro ⟨p, c2, a2, s2⟩ ⟨hp, t2⟩
  dsimp only at hp t2 ⊢
  have t2 := t1.trans t2
  refine Ok.bind (Q := fun v => v.1 = l ∧ v.2.1 = p ∧ To code a (10 * N + 4) v.2.2.2.1 v.2.2.2.2.1) ?_ ?_
  · refine (one_ok (t2.at (j := 2) (h.less (by omega)))).bind ?_
    rintro ⟨x, c3, a3, s3⟩ t3
    exact Ok.ite (fun _ => Ok.mk ⟨rfl, rfl, (t2.trans t3).more (by omega)⟩) fun _ => Ok.mk ⟨rfl, rfl, (t2.trans t3).more (by omega)⟩
  rintro ⟨l', p', fl, c3, a3, s3⟩ ⟨e1, e2, t3⟩
  dsimp only at e1 e2 t3 ⊢
  subst e1 e2
  refine Ok.bind (Q := fun v => Sm (6 * N + 6) v.1 ∧ To code a (10 * N + 4) v.2.1 v.2.2.1) ?_ ?_
  · refine Ok.ite (fun _ => ?_) fun _ => Ok.mk ⟨hl.mono (by omega), t3⟩
    exact Ok.bind_eq (s_l1Add_eq hl (by omega) 0 0 p' (by omega)) (Ok.mk ⟨addp_sm hl ⟨z, z⟩ (by omega) (by dsimp only; omega), t3⟩)
  rintro ⟨l1, c4, a4, s4⟩ ⟨hl1, t4⟩
  dsimp only at hl1 t4 ⊢
  refine (one_ok (t4.at (j := 2) (h.less (by omega)))).bind ?_
  rintro ⟨fl2, c5, a5, s5⟩ t5
  dsimp only at t5 ⊢
  have t5 := t4.trans t5
  refine Ok.bind (Q := fun v => Sm (6 * N + 127) v.1 ∧ To code a (10 * N + 24) v.2.1 v.2.2.1) ?_ (fun v hv => Ok.mk hv)
  refine Ok.ite (fun _ => ?_) fun _ => Ok.mk ⟨hl1.mono (by omega), t5.more (by omega)⟩
  refine (part_ok (t5.at (j := 18) (h.less (by omega)))).bind ?_
  rintro ⟨x, y, w, c6, a6, s6⟩ ⟨⟨g1, g2, g3⟩, t6⟩
  dsimp only at g1 g2 g3 t6 ⊢
  exact Ok.yes (room_ok hl1 (by omega) _) (Ok.mk ⟨hl1.snoc ⟨g1, g2⟩ (by omega) (by dsimp only; omega), (t5.trans t6).more (by omega)⟩)
end Go.V.G

set_option linter.unusedVariables false
set_option linter.unusedSimpArgs false
set_option maxRecDepth 100000
namespace Go.V.G
open Go.V
def src : List Prt → Int
  | [] => 0
  | p :: l => p.1 + p.2.1 + src l
def tgt : List Prt → Int
  | [] => 0
  | p :: l => p.1 + p.2.2.length + tgt l
theorem src_append : ∀ a b : List Prt, src (a ++ b) = src a + src b
  | [], b => by simp [src]
  | p :: a, b => by simp only [List.cons_append, src, src_append a b]; omega
theorem tgt_append : ∀ a b : List Prt, tgt (a ++ b) = tgt a + tgt b
  | [], b => by simp [tgt]
  | p :: a, b => by simp only [List.cons_append, tgt, tgt_append a b]; omega
def okk : Int → List Prt → Bool
  | _, [] => true
  | k, p :: l => !(decide (kd p = 0)) && !(decide (kd p = k)) && okk (kd p) l
def good (c : List Prt) : Bool := okk 0 c && decide (src c ≤ 120) && decide (tgt c ≤ 120)
structure Some1 (p : Prt) : Prop where
  k : 0 ≤ p.1
  d : 0 ≤ p.2.1
  ne : kd p ≠ 0
theorem some1_of {p : Prt} (h : kd p ≠ 0) : Some1 p := by
  refine ⟨?_, ?_, h⟩ <;> (unfold kd at h; split at h; omega; split at h; omega; split at h; omega; exact absurd rfl h)
theorem okk_some : ∀ {k : Int} {l : List Prt}, okk k l = true → ∀ p ∈ l, Some1 p
  | k, q :: l, h, p, hp => by
    simp only [okk, Bool.and_eq_true, Bool.not_eq_true', decide_eq_false_iff_not] at h
    rcases List.mem_cons.1 hp with rfl | hp
    · exact some1_of h.1.1
    · exact okk_some h.2 p hp
theorem src_nonneg : ∀ {l : List Prt}, (∀ p ∈ l, Some1 p) → 0 ≤ src l
  | [], _ => Int.le_refl _
  | p :: l, h => by
    have h1 := h p (by simp)
    have h2 := src_nonneg (l := l) (fun q hq => h q (by simp [hq]))
    have := h1.k; have := h1.d
    simp only [src]; omega
theorem tgt_nonneg : ∀ {l : List Prt}, (∀ p ∈ l, Some1 p) → 0 ≤ tgt l
  | [], _ => Int.le_refl _
  | p :: l, h => by
    have h1 := h p (by simp)
    have h2 := tgt_nonneg (l := l) (fun q hq => h q (by simp [hq]))
    have := h1.k
    simp only [tgt]; omega
theorem cut_at {l : List Prt} {i : Nat} (h : i < l.length) : l = l.take i ++ l[i] :: l.drop (i + 1) := by
  rw [← List.drop_eq_getElem_cons h, List.take_append_drop]
theorem src_at {l : List Prt} {i : Nat} (h : i < l.length) : src l = src (l.take i) + (l[i].1 + l[i].2.1 + src (l.drop (i + 1))) := by
  conv => lhs; rw [cut_at h]
  rw [src_append]; rfl
theorem tgt_at {l : List Prt} {i : Nat} (h : i < l.length) : tgt l = tgt (l.take i) + (l[i].1 + l[i].2.2.length + tgt (l.drop (i + 1))) := by
  conv => lhs; rw [cut_at h]
  rw [tgt_append]; rfl
theorem src_take {l : List Prt} {i : Nat} (h : i < l.length) : src (l.take (i + 1)) = src (l.take i) + (l[i].1 + l[i].2.1) := by
  rw [List.take_succ_eq_append_getElem h, src_append]; simp [src]
theorem tgt_take {l : List Prt} {i : Nat} (h : i < l.length) : tgt (l.take (i + 1)) = tgt (l.take i) + (l[i].1 + l[i].2.2.length) := by
  rw [List.take_succ_eq_append_getElem h, tgt_append]; simp [tgt]
def before (l : List Prt) (i : Nat) : Int := if i = 0 then 0 else match l[i - 1]? with
  | some p => kd p
  | none => 0
theorem before_succ {l : List Prt} {i : Nat} (h : i < l.length) : before l (i + 1) = kd l[i] := by simp [before, List.getElem?_eq_getElem h]
theorem okk_drop {l : List Prt} {i : Nat} (h : i < l.length) (k : Int) : okk k (l.drop i) = (!(decide (kd l[i] = 0)) && !(decide (kd l[i] = k)) && okk (kd l[i]) (l.drop (i + 1))) := by
  rw [List.drop_eq_getElem_cons h]; rfl
theorem mem_drop {l : List Prt} {i : Nat} {p : Prt} (h : p ∈ l.drop i) : p ∈ l := List.mem_of_mem_drop h
theorem mem_take {l : List Prt} {i : Nat} {p : Prt} (h : p ∈ l.take i) : p ∈ l := List.mem_of_mem_take h
theorem idx_succ {i : Nat} {n : Nat} (hn : n ≤ 1099511627776) (h : i < n) : IntKind.wrap .i64 ((i : Int) + 1) = ((i + 1 : Nat) : Int) := by
  rw [w64 (by omega) (by omega)]; omega
theorem i_good_loop {c : List Prt} (hlen : c.length ≤ 1099511627776) : Ok (loopG i_GoodChange_L1 (c, c, ((List.length c : Nat) : Int), 0)) fun r => match r with
    | .inl y => y = c ∧ okk 0 c = true
    | .inr b => b = false ∧ okk 0 c = false := by
  refine Ok.loop (fun y => y.1 = c ∧ y.2.1 = c ∧ y.2.2.1 = ((List.length c : Nat) : Int) ∧ ∃ i : Nat, y.2.2.2 = ((i : Nat) : Int) ∧ i ≤ c.length ∧ okk 0 c = okk (before c i) (c.drop i)) (fun y => (((List.length c : Nat) : Int) - y.2.2.2).toNat)
    ⟨rfl, rfl, rfl, 0, rfl, Nat.zero_le _, by simp [before]⟩ ?_
  rintro ⟨a, b, n, i'⟩ ⟨e1, e2, e3, i, e4, hi, hk⟩
  dsimp only at e1 e2 e3 e4
  subst e1 e2 e3 e4
  unfold i_GoodChange_L1
  dsimp only
  refine Ok.ite (fun hc => ?_) fun hc => ?_
  · have hlt : i < b.length := by simpa using hc
    refine Ok.yes (by simp) (Ok.bind_eq (r := b[i]) (by simp [List.getElem?_eq_getElem hlt]) (Ok.bind_eq (i_kind_eq _ _ _) ?_))
    have hb : before b i = before b i := rfl
    refine Ok.bind (Q := fun v => v = (b, b, ((List.length b : Nat) : Int), ((i : Nat) : Int), decide (kd b[i] = 0) || decide (kd b[i] = before b i))) ?_ ?_
    · refine Ok.ite (fun h0 => ?_) fun h0 => ?_
      · exact Ok.mk (by have : kd b[i] = 0 := by simpa using h0
                        simp [this])
      · have h0' : ¬ kd b[i] = 0 := by simpa using h0
        refine Ok.ite (fun hp => ?_) fun hp => ?_
        · have hp' : 0 < i := by simpa using hp
          have e : IntKind.wrap .i64 ((i : Int) - 1) = ((i - 1 : Nat) : Int) := by rw [w64 (by omega) (by omega)]; omega
          have hl1 : i - 1 < b.length := by omega
          refine Ok.yes (by simp [e]) (Ok.bind_eq (r := b[i - 1]) (by simp [e, List.getElem?_eq_getElem hl1]) (Ok.bind_eq (i_kind_eq _ _ _) (Ok.mk ?_)))
          have hne : ¬ i = 0 := by omega
          have hb : before b i = kd b[i - 1] := by simp [before, hne, List.getElem?_eq_getElem hl1]
          rw [hb]
          have e0 : decide (kd b[i] = 0) = false := by simpa using h0'
          rw [e0, Bool.false_or]
          show (_, _, _, _, decide (kd b[i - 1] = kd b[i])) = _
          congr 4
          exact decide_eq_decide.2 eq_comm
        · have hi0 : i = 0 := by
            have : ¬ (0 : Int) < (i : Int) := by simpa using hp
            omega
          subst hi0
          have e0 : decide (kd b[0] = 0) = false := by simpa using h0'
          exact Ok.mk (by simp [before, e0])
    · rintro _ rfl
      dsimp only
      rw [okk_drop hlt] at hk
      refine Ok.ite (fun hbad => Ok.mk ⟨rfl, ?_⟩) fun hfine => Ok.mk ⟨⟨rfl, rfl, rfl, i + 1, idx_succ hlen hlt, by omega, ?_⟩, ?_⟩
      · rw [hk]
        rcases Bool.or_eq_true_iff.1 hbad with h | h <;> simp [h]
      · rw [hk, before_succ hlt]
        have : (decide (kd b[i] = 0) || decide (kd b[i] = before b i)) = false := by simpa using hfine
        obtain ⟨h1, h2⟩ := Bool.or_eq_false_iff.1 this
        simp [h1, h2]
      · rw [idx_succ hlen hlt]; dsimp only; omega
  · have : i = b.length := by
      have : ¬ ((i : Int) < ((List.length b : Nat) : Int)) := by simpa using hc
      omega
    subst this
    exact Ok.mk ⟨rfl, by rw [hk]; simp [okk]⟩
def lens (c : List Prt) : Int × (Int × Bool) := if src c ≤ 120 ∧ tgt c ≤ 120 then (src c, tgt c, true) else (0, 0, false)
theorem i_lengths_eq {c : List Prt} (hlen : c.length ≤ 1099511627776) (hput : psum c ≤ 1099511627776) (hs : ∀ p ∈ c, Some1 p) (hf : ∀ p ∈ c, I64 p.1 ∧ I64 p.2.1) : i_lengths c = some (lens c) := by
  unfold i_lengths
  refine Ok.eq ?_
  refine Ok.bind (Q := fun r => match r with
    | .inl y => src c ≤ 120 ∧ tgt c ≤ 120 ∧ y = (src c, tgt c)
    | .inr y => ¬ (src c ≤ 120 ∧ tgt c ≤ 120) ∧ y = (0, 0, false)) ?_ ?_
  · refine Ok.loop (fun y => y.2.2.1 = c ∧ y.2.2.2.1 = ((List.length c : Nat) : Int) ∧ ∃ i : Nat, y.2.2.2.2 = ((i : Nat) : Int) ∧ i ≤ c.length ∧ y.1 = src (c.take i) ∧ y.2.1 = tgt (c.take i) ∧ y.1 ≤ 120 ∧ y.2.1 ≤ 120) (fun y => (((List.length c : Nat) : Int) - y.2.2.2.2).toNat)
      ⟨rfl, rfl, 0, rfl, Nat.zero_le _, by simp [src], by simp [tgt], by simp, by simp⟩ ?_
    rintro ⟨s, t, c', n, i'⟩ ⟨e1, e2, i, e3, hi, e4, e5, h1, h2⟩
    dsimp only at e1 e2 e3 e4 e5 h1 h2
    subst e1 e2 e3
    unfold i_lengths_L1
    dsimp only
    refine Ok.ite (fun hc => ?_) fun hc => ?_
    · have hlt : i < c'.length := by simpa using hc
      have hmem : c'[i] ∈ c' := List.getElem_mem hlt
      have hp := hs _ hmem
      have hpf := hf _ hmem
      have hpp := psum_mem hmem
      have k0 := hp.k
      have d0 := hp.d
      have n1 := src_nonneg (l := c'.take i) fun p h => hs p (mem_take h)
      have n2 := tgt_nonneg (l := c'.take i) fun p h => hs p (mem_take h)
      have n3 := src_nonneg (l := c'.drop (i + 1)) fun p h => hs p (mem_drop h)
      have n4 := tgt_nonneg (l := c'.drop (i + 1)) fun p h => hs p (mem_drop h)
      have a1 := src_at hlt
      have a2 := tgt_at hlt
      refine Ok.yes (by simp) (Ok.bind_eq (r := c'[i]) (by simp [List.getElem?_eq_getElem hlt]) ?_)
      refine Ok.bind (Q := fun v => v = (s, t, c', ((List.length c' : Nat) : Int), ((i : Nat) : Int), decide (120 < c'[i].1 ∨ 120 < c'[i].2.1), c'[i].1, c'[i].2.1, c'[i].2.2)) ?_ ?_
      · refine Ok.ite (fun h => Ok.mk ?_) fun h => Ok.mk ?_
        · have : 120 < c'[i].1 := by simpa using h
          simp [this]
        · have : ¬ 120 < c'[i].1 := by simpa using h
          simp [this]
      rintro _ rfl
      dsimp only
      refine Ok.ite (fun hb => Ok.mk ⟨?_, rfl⟩) fun hb => ?_
      · have : 120 < c'[i].1 ∨ 120 < c'[i].2.1 := by simpa using hb
        omega
      · have hb' : ¬ (120 < c'[i].1 ∨ 120 < c'[i].2.1) := by simpa using hb
        have w1 : IntKind.wrap .i64 (c'[i].1 + c'[i].2.1) = c'[i].1 + c'[i].2.1 := w64 (by omega) (by omega)
        have w2 : IntKind.wrap .i64 (s + (c'[i].1 + c'[i].2.1)) = s + (c'[i].1 + c'[i].2.1) := w64 (by omega) (by omega)
        have w3 : IntKind.wrap .i64 (c'[i].1 + ((List.length c'[i].2.2 : Nat) : Int)) = c'[i].1 + ((List.length c'[i].2.2 : Nat) : Int) := w64 (by omega) (by omega)
        have w4 : IntKind.wrap .i64 (t + (c'[i].1 + ((List.length c'[i].2.2 : Nat) : Int))) = t + (c'[i].1 + ((List.length c'[i].2.2 : Nat) : Int)) := w64 (by omega) (by omega)
        rw [w1, w2, w3, w4]
        refine Ok.bind (Q := fun v => v = (s + (c'[i].1 + c'[i].2.1), t + (c'[i].1 + ((List.length c'[i].2.2 : Nat) : Int)), c', ((List.length c' : Nat) : Int), ((i : Nat) : Int), decide (120 < s + (c'[i].1 + c'[i].2.1) ∨ 120 < t + (c'[i].1 + ((List.length c'[i].2.2 : Nat) : Int))))) ?_ ?_
        · refine Ok.ite (fun h => Ok.mk ?_) fun h => Ok.mk ?_
          · have : 120 < s + (c'[i].1 + c'[i].2.1) := by simpa using h
            simp [this]
          · have : ¬ 120 < s + (c'[i].1 + c'[i].2.1) := by simpa using h
            simp [this]
        rintro _ rfl
        dsimp only
        refine Ok.ite (fun hb => Ok.mk ⟨?_, rfl⟩) fun hb => Ok.mk ⟨⟨rfl, rfl, i + 1, idx_succ hlen hlt, by omega, ?_, ?_, ?_, ?_⟩, ?_⟩
        · have : 120 < s + (c'[i].1 + c'[i].2.1) ∨ 120 < t + (c'[i].1 + ((List.length c'[i].2.2 : Nat) : Int)) := by simpa using hb
          omega
        · rw [src_take hlt, e4]
        · rw [tgt_take hlt, e5]
        · have : ¬ (120 < s + (c'[i].1 + c'[i].2.1) ∨ 120 < t + (c'[i].1 + ((List.length c'[i].2.2 : Nat) : Int))) := by simpa using hb
          dsimp only; omega
        · have : ¬ (120 < s + (c'[i].1 + c'[i].2.1) ∨ 120 < t + (c'[i].1 + ((List.length c'[i].2.2 : Nat) : Int))) := by simpa using hb
          dsimp only; omega
        · rw [idx_succ hlen hlt]; dsimp only; omega
    · have : i = c'.length := by
        have : ¬ ((i : Int) < ((List.length c' : Nat) : Int)) := by simpa using hc
        omega
      subst this
      rw [List.take_length] at e4 e5
      exact Ok.mk ⟨by omega, by omega, by rw [e4, e5]⟩
  · rintro (y | y) h
    · obtain ⟨h1, h2, rfl⟩ := h
      exact Ok.mk (by simp [lens, h1, h2])
    · obtain ⟨h1, rfl⟩ := h
      exact Ok.mk (by simp [lens, h1])
theorem i_Good_eq {B : Nat} {c : List Prt} (h : Sm B c) (hB : B ≤ 1099511627776) : i_GoodChange c = some (good c) := by
  unfold i_GoodChange
  refine Ok.eq (Ok.bind (i_good_loop (Nat.le_trans h.len hB)) ?_)
  rintro (y | b) hr
  · obtain ⟨rfl, hk⟩ := hr
    refine Ok.bind_eq (i_lengths_eq (Nat.le_trans h.len hB) (Nat.le_trans h.put hB) (okk_some hk) h.fit) (Ok.mk ?_)
    unfold good lens
    rw [hk]
    by_cases h1 : src y ≤ 120 <;> by_cases h2 : tgt y ≤ 120 <;> simp [h1, h2]
  · obtain ⟨rfl, hk⟩ := hr
    exact Ok.mk (by simp [good, hk])
theorem good_spec {c : List Prt} (h : good c = true) : okk 0 c = true ∧ src c ≤ 120 ∧ tgt c ≤ 120 := by
  simp only [good, Bool.and_eq_true, decide_eq_true_eq] at h
  exact ⟨h.1.1, h.1.2, h.2⟩
end Go.V.G

set_option linter.unusedVariables false
set_option linter.unusedSimpArgs false
set_option maxRecDepth 100000
namespace Go.V.G
open Go.V
theorem decF_len : ∀ (k u : Nat), u < 10 ^ (k + 1) → (decF u).length ≤ k + 1 := by
  intro k
  induction k with
  | zero => intro u h; rw [decF, dif_pos (by omega)]; simp
  | succ k ih =>
    intro u h
    rw [decF]
    split
    · simp
    · have := ih (u / 10) (by rw [Nat.pow_succ] at h; omega)
      simp only [List.length_append, List.length_singleton]; omega
theorem textOf_dig {n : Nat} (h : n < 10) : textOf [IntKind.wrap .u8 (IntKind.wrap .i64 (48 + ((n : Nat) : Int)))] = [UInt8.ofNat (48 + n)] := by
  rw [w64 (by omega) (by omega), wu8 (by omega) (by omega)]
  unfold textOf
  simp only [List.map_cons, List.map_nil]
  congr 2
theorem s_num_at : ∀ (k n : Nat), n < 10 ^ (k + 1) → k ≤ 100 → n ≤ 9223372036854775807 → s_l1Num_at (k + 1) ((n : Nat) : Int) = some (decF n) := by
  intro k
  induction k with
  | zero =>
    intro n h _ _
    have h1 : ¬ (((n : Nat) : Int) < 0) := by omega
    have h2 : ((n : Nat) : Int) < 10 := by omega
    rw [decF, dif_pos (by omega)]
    simp only [s_l1Num_at, s_l1Num_step, h1, h2, decide_true, decide_false, if_true, Bool.false_eq_true, if_false, textOf_dig (show n < 10 by omega)]
  | succ k ih =>
    intro n h hk hn
    have h1 : ¬ (((n : Nat) : Int) < 0) := by omega
    rw [s_l1Num_at, s_l1Num_step, if_neg (by simp), decF]
    by_cases h2 : n < 10
    · rw [if_pos (by simp; omega), dif_pos h2, textOf_dig h2]
    · rw [if_neg (by simp; omega), dif_neg h2, if_pos (by decide)]
      have e1 : Int.tdiv ((n : Nat) : Int) 10 = ((n / 10 : Nat) : Int) := by rw [Int.tdiv_eq_ediv_of_nonneg (by omega)]; omega
      have e2 : Int.tmod ((n : Nat) : Int) 10 = ((n % 10 : Nat) : Int) := by rw [Int.tmod_eq_emod_of_nonneg (by omega)]; omega
      have hlt : n / 10 < 10 ^ (k + 1) := by rw [Nat.pow_succ] at h; omega
      have hl := decF_len k _ hlt
      rw [e1, e2, w64 (by omega) (by omega), ih (n / 10) hlt (by omega) (by omega), Option.bind_some, if_pos (by decide), textOf_dig (Nat.mod_lt _ (by omega)), if_pos (by simp; omega)]
theorem s_num_eq {n : Int} (h0 : 0 ≤ n) (h1 : n ≤ 9223372036854775807) : s_l1Num n = some (itoaF n) := by
  obtain ⟨m, rfl⟩ := Int.eq_ofNat_of_zero_le h0
  unfold s_l1Num itoaF
  rw [if_neg (by omega), Int.toNat_natCast]
  exact s_num_at 63 m (by omega) (by omega) (by omega)
theorem itoa_eq {n : Int} (h0 : 0 ≤ n) (h1 : n ≤ 9223372036854775807) : strconv_Itoa n = some (itoaF n) := by
  unfold strconv_Itoa
  rw [if_pos ⟨by omega, by omega⟩]
theorem itoaF_len {n : Int} (h0 : 0 ≤ n) (h1 : n ≤ 9223372036854775807) : (itoaF n).length ≤ 20 := by
  unfold itoaF
  rw [if_neg (by omega)]
  have := decF_len 18 n.toNat (by omega)
  omega
def hexD (k : Nat) : UInt8 := if k < 10 then UInt8.ofNat (48 + k) else UInt8.ofNat (87 + k)
def plainB (n : Nat) : Bool := (decide (97 ≤ n) && decide (n ≤ 122)) || (decide (65 ≤ n) && decide (n ≤ 90)) || (decide (48 ≤ n) && decide (n ≤ 57))
def toldB (b : UInt8) : List UInt8 := if plainB b.toNat = true then [b] else [37, hexD (b.toNat / 16), hexD (b.toNat % 16)]
def told (s : List UInt8) : List UInt8 := s.flatMap toldB
theorem s_plain (n : Nat) : s_l14Plain ((n : Nat) : Int) = some (plainB n) := by
  unfold s_l14Plain plainB
  have e1 : ((97 : Int) ≤ ((n : Nat) : Int)) ↔ 97 ≤ n := by omega
  have e2 : (((n : Nat) : Int) ≤ 122) ↔ n ≤ 122 := by omega
  have e3 : ((65 : Int) ≤ ((n : Nat) : Int)) ↔ 65 ≤ n := by omega
  have e4 : (((n : Nat) : Int) ≤ 90) ↔ n ≤ 90 := by omega
  have e5 : ((48 : Int) ≤ ((n : Nat) : Int)) ↔ 48 ≤ n := by omega
  have e6 : (((n : Nat) : Int) ≤ 57) ↔ n ≤ 57 := by omega
  simp only [e1, e2, e3, e4, e5, e6]
  by_cases h1 : 97 ≤ n <;> by_cases h2 : n ≤ 122 <;> by_cases h3 : 65 ≤ n <;> by_cases h4 : n ≤ 90 <;> by_cases h5 : 48 ≤ n <;> by_cases h6 : n ≤ 57 <;> simp [h1, h2, h3, h4, h5, h6]
theorem i_plain (n : Nat) : i_isPlain ((n : Nat) : Int) = some (plainB n) := by
  rw [← s_plain]; rfl
theorem told_len : ∀ s : List UInt8, (told s).length ≤ 3 * s.length
  | [] => by simp [told]
  | b :: s => by
    have ih := told_len s
    unfold told at ih ⊢
    rw [List.flatMap_cons, List.length_append, List.length_cons]
    have : (toldB b).length ≤ 3 := by unfold toldB; split <;> simp
    omega
theorem told_take {s : List UInt8} {k : Nat} (h : k < s.length) : told (s.take (k + 1)) = told (s.take k) ++ toldB s[k] := by
  unfold told
  rw [List.take_succ_eq_append_getElem h, List.flatMap_append]; simp
theorem nib_d : ∀ n < 256, IntKind.wrap .u8 (Int.tdiv ((n : Nat) : Int) 16) = ((n / 16 : Nat) : Int) := by decide +kernel
theorem nib_m : ∀ n < 256, Int.tmod ((n : Nat) : Int) 16 = ((n % 16 : Nat) : Int) := by decide +kernel
theorem nib_f : ∀ n < 256, Int.fdiv ((n : Nat) : Int) (2 ^ (min (Int.toNat 4) (IntKind.bits .u8))) = ((n / 16 : Nat) : Int) := by decide +kernel
theorem nib_a : ∀ n < 256, IntKind.wrap .u8 (((BitVec.ofInt (IntKind.bits .u8) ((n : Nat) : Int) &&& BitVec.ofInt (IntKind.bits .u8) 15).toNat : Nat) : Int) = ((n % 16 : Nat) : Int) := by decide +kernel
theorem nib_s : ∀ k < 16, IntKind.wrap .u8 (((k : Nat) : Int) + 1) = ((k + 1 : Nat) : Int) := by decide +kernel
theorem nib_h : ∀ k < 16, (([48, 49, 50, 51, 52, 53, 54, 55, 56, 57, 97, 98, 99, 100, 101, 102] : List UInt8).drop k).take (k + 1 - k) = [hexD k] := by decide +kernel
theorem one_byte {s : List UInt8} {k : Nat} (h : k < s.length) : (s.drop k).take (k + 1 - k) = [s[k]] := by
  rw [show k + 1 - k = 1 by omega, List.drop_eq_getElem_cons h]; rfl
theorem s_told_step {xs out : List UInt8} (hn : xs.length ≤ 1099511627776) (ho : out.length ≤ 3298534883328) {k : Nat} (hk : k < xs.length) :
    s_l14Told_L1 (xs, out, ((k : Nat) : Int)) = some (.inl (xs, out ++ toldB xs[k], ((k + 1 : Nat) : Int))) := by
  have hb := xs[k].toNat_lt
  have d1 := nib_d _ hb
  have d2 := nib_m _ hb
  have lt1 : xs[k].toNat / 16 < 16 := by omega
  have lt2 : xs[k].toNat % 16 < 16 := by omega
  have d3 := nib_s _ lt1
  have d4 := nib_s _ lt2
  have d5 := nib_h _ lt1
  have d6 := nib_h _ lt2
  have g1 : ((xs[k].toNat / 16 : Nat) : Int) ≤ ((xs[k].toNat / 16 + 1 : Nat) : Int) := by omega
  have g2 : ((xs[k].toNat % 16 : Nat) : Int) ≤ ((xs[k].toNat % 16 + 1 : Nat) : Int) := by omega
  have g3 : ((xs[k].toNat / 16 + 1 : Nat) : Int) ≤ ((16 : Nat) : Int) := by omega
  have g4 : ((xs[k].toNat % 16 + 1 : Nat) : Int) ≤ ((16 : Nat) : Int) := by omega
  have z1 : (0 : Int) ≤ ((xs[k].toNat / 16 : Nat) : Int) := by omega
  have z2 : (0 : Int) ≤ ((xs[k].toNat % 16 : Nat) : Int) := by omega
  have i1 : (((k : Nat) : Int) < ((List.length xs : Nat) : Int)) := by omega
  have i2 : (0 : Int) ≤ ((k : Nat) : Int) := by omega
  have i3 : IntKind.wrap .i64 (((k : Nat) : Int) + 1) = ((k + 1 : Nat) : Int) := idx_succ hn hk
  have i4 : ((k : Nat) : Int) ≤ ((k + 1 : Nat) : Int) := by omega
  have i5 : ((k + 1 : Nat) : Int) ≤ ((List.length xs : Nat) : Int) := by omega
  have n16 : ¬ ((16 : Int) = 0) := by decide
  have l16 : List.length ([48, 49, 50, 51, 52, 53, 54, 55, 56, 57, 97, 98, 99, 100, 101, 102] : List UInt8) = 16 := rfl
  have o1 : out.length + 1 ≤ 9223372036854775807 := by omega
  have o2 : out.length + (1 + 1 + 1) ≤ 9223372036854775807 := by omega
  unfold s_l14Told_L1 toldB
  dsimp only
  simp only [i1, i2, decide_true, if_true, Int.toNat_natCast, List.getElem?_eq_getElem hk, Option.bind_some, s_plain]
  by_cases hp : plainB xs[k].toNat = true
  · simp only [hp, if_true, i3, i4, i5, Int.le_refl, decide_true, Int.toNat_natCast, one_byte hk, List.length_singleton, o1, Option.bind_some]
  · simp only [hp, if_false, Bool.false_eq_true, d1, d2, d3, d4, n16, not_false_eq_true, decide_true, if_true, z1, z2, g1, g2, g3, g4, l16, Int.le_refl, Int.toNat_natCast, d5, d6, List.length_append, List.length_singleton,
      (by decide : (1 + 1 : Nat) ≤ 9223372036854775807), (by decide : (1 + 1 + 1 : Nat) ≤ 9223372036854775807), o2, Option.bind_some, i3]
    rfl
theorem s_told_eq {xs : List UInt8} (hn : xs.length ≤ 1099511627776) : s_l14Told xs = some (told xs) := by
  unfold s_l14Told
  have h := loop_run s_l14Told_L1 (fun k => (xs, told (xs.take k), ((k : Nat) : Int))) xs.length (told xs) (by
    intro k hk
    have := told_len (xs.take k)
    rw [List.length_take] at this
    rw [s_told_step hn (by omega) hk, told_take hk]) (by
    unfold s_l14Told_L1
    dsimp only
    rw [if_neg (by simp), List.take_length])
  rw [show (xs, ([] : List UInt8), (0 : Int)) = (xs, told (xs.take 0), ((0 : Nat) : Int)) from rfl, h]
  rfl
theorem i_coded_step {xs out : List UInt8} (hn : xs.length ≤ 1099511627776) (ho : out.length ≤ 3298534883328) {k : Nat} (hk : k < xs.length) :
    i_coded_L1 (xs, out, ((List.length xs : Nat) : Int), ((k : Nat) : Int)) = some (.inl (xs, out ++ toldB xs[k], ((List.length xs : Nat) : Int), ((k + 1 : Nat) : Int))) := by
  have hb := xs[k].toNat_lt
  have d1 := nib_f _ hb
  have d2 := nib_a _ hb
  have lt1 : xs[k].toNat / 16 < 16 := by omega
  have lt2 : xs[k].toNat % 16 < 16 := by omega
  have d3 := nib_s _ lt1
  have d4 := nib_s _ lt2
  have d5 := nib_h _ lt1
  have d6 := nib_h _ lt2
  have g1 : ((xs[k].toNat / 16 : Nat) : Int) ≤ ((xs[k].toNat / 16 + 1 : Nat) : Int) := by omega
  have g2 : ((xs[k].toNat % 16 : Nat) : Int) ≤ ((xs[k].toNat % 16 + 1 : Nat) : Int) := by omega
  have g3 : ((xs[k].toNat / 16 + 1 : Nat) : Int) ≤ ((16 : Nat) : Int) := by omega
  have g4 : ((xs[k].toNat % 16 + 1 : Nat) : Int) ≤ ((16 : Nat) : Int) := by omega
  have z1 : (0 : Int) ≤ ((xs[k].toNat / 16 : Nat) : Int) := by omega
  have z2 : (0 : Int) ≤ ((xs[k].toNat % 16 : Nat) : Int) := by omega
  have i1 : (((k : Nat) : Int) < ((List.length xs : Nat) : Int)) := by omega
  have i2 : (0 : Int) ≤ ((k : Nat) : Int) := by omega
  have i3 : IntKind.wrap .i64 (((k : Nat) : Int) + 1) = ((k + 1 : Nat) : Int) := idx_succ hn hk
  have i4 : ((k : Nat) : Int) ≤ ((k + 1 : Nat) : Int) := by omega
  have i5 : ((k + 1 : Nat) : Int) ≤ ((List.length xs : Nat) : Int) := by omega
  have l16 : List.length ([48, 49, 50, 51, 52, 53, 54, 55, 56, 57, 97, 98, 99, 100, 101, 102] : List UInt8) = 16 := rfl
  have o1 : out.length + 1 ≤ 9223372036854775807 := by omega
  have o2 : out.length + (1 + 1 + 1) ≤ 9223372036854775807 := by omega
  unfold i_coded_L1 toldB
  dsimp only
  simp only [i1, i2, decide_true, if_true, Int.toNat_natCast, List.getElem?_eq_getElem hk, Option.bind_some, i_plain]
  by_cases hp : plainB xs[k].toNat = true
  · simp only [hp, if_true, i3, i4, i5, Int.le_refl, decide_true, Int.toNat_natCast, one_byte hk, List.length_singleton, o1, Option.bind_some]
  · simp only [hp, if_false, Bool.false_eq_true, d1, d2, d3, d4, decide_true, if_true, z1, z2, g1, g2, g3, g4, l16, Int.le_refl, Int.toNat_natCast, d5, d6, List.length_append, List.length_singleton, (by decide : (0 : Int) ≤ 4),
      (by decide : (1 + 1 : Nat) ≤ 9223372036854775807), (by decide : (1 + 1 + 1 : Nat) ≤ 9223372036854775807), o2, Option.bind_some, i3]
    rfl
theorem i_coded_eq {xs : List UInt8} (hn : xs.length ≤ 1099511627776) : i_coded xs = some (told xs) := by
  unfold i_coded
  have h := loop_run i_coded_L1 (fun k => (xs, told (xs.take k), ((List.length xs : Nat) : Int), ((k : Nat) : Int))) xs.length (told xs) (by
    intro k hk
    have := told_len (xs.take k)
    rw [List.length_take] at this
    rw [i_coded_step hn (by omega) hk, told_take hk]) (by
    unfold i_coded_L1
    dsimp only
    rw [if_neg (by simp), List.take_length])
  rw [show (xs, ([] : List UInt8), ((List.length xs : Nat) : Int), (0 : Int)) = (xs, told (xs.take 0), ((List.length xs : Nat) : Int), ((0 : Nat) : Int)) from rfl, h]
  rfl
end Go.V.G

set_option linter.unusedVariables false
set_option linter.unusedSimpArgs false
set_option maxRecDepth 100000
namespace Go.V.G
open Go.V
def hexL (c : Nat) : Option Nat := if 48 ≤ c ∧ c ≤ 57 then some (c - 48) else if 97 ≤ c ∧ c ≤ 102 then some (c - 87) else none
def unt : List UInt8 → Option (List UInt8)
  | [] => some []
  | c :: r => if plainB c.toNat = true then (unt r).map (c :: ·) else if c = 37 then match r with
      | a :: b :: r' => match hexL a.toNat, hexL b.toNat with
        | some x, some y => if plainB (16 * x + y) = true then none else (unt r').map (UInt8.ofNat (16 * x + y) :: ·)
        | _, _ => none
      | _ => none
    else none
def dec : List UInt8 → Option (List UInt8)
  | [] => some []
  | c :: r => if c ≠ 37 then (dec r).map (c :: ·) else match r with
      | a :: b :: r' => match hexV a.toNat, hexV b.toNat with
        | some x, some y => (dec r').map (UInt8.ofNat (16 * x + y) :: ·)
        | _, _ => none
      | _ => none
theorem hexL_V : ∀ c < 256, ∀ x < 16, hexL c = some x ↔ (hexV c = some x ∧ (hexD x).toNat = c) := by decide +kernel
theorem hexV_lt : ∀ c < 256, ∀ x, hexV c = some x → x < 16 := by
  intro c hc x h
  have : ∀ c < 256, (hexV c).getD 0 < 16 := by decide +kernel
  have := this c hc
  rw [h] at this
  exact this
theorem hexL_lt : ∀ c < 256, ∀ x, hexL c = some x → x < 16 := by
  intro c hc x h
  have : ∀ c < 256, (hexL c).getD 0 < 16 := by decide +kernel
  have := this c hc
  rw [h] at this
  exact this
theorem told_cons (c : UInt8) (t : List UInt8) : told (c :: t) = toldB c ++ told t := rfl
theorem ofNat_lt {n : Nat} (h : n < 256) : (UInt8.ofNat n).toNat = n := by rw [UInt8.toNat_ofNat']; omega
theorem unt_iff : ∀ (n : Nat) (r t : List UInt8), r.length ≤ n → (unt r = some t ↔ (dec r = some t ∧ told t = r)) := by
  intro n
  induction n with
  | zero =>
    intro r t hr
    obtain rfl : r = [] := List.length_eq_zero_iff.1 (by omega)
    constructor
    · intro h; simp only [unt, Option.some.injEq] at h; subst h; exact ⟨rfl, rfl⟩
    · intro h; exact h.1
  | succ n ih =>
    intro r t hr
    match r, hr with
    | [], _ =>
      constructor
      · intro h; simp only [unt, Option.some.injEq] at h; subst h; exact ⟨rfl, rfl⟩
      · intro h; exact h.1
    | c :: r, hr =>
      rw [List.length_cons] at hr
      by_cases hp : plainB c.toNat = true
      · have hc : c ≠ 37 := by rintro rfl; revert hp; decide
        rw [unt.eq_def, dec.eq_def]
        simp only [hp, if_true, hc, ne_eq, not_false_eq_true, Option.map_eq_some_iff]
        constructor
        · rintro ⟨u, h1, rfl⟩
          obtain ⟨h2, h3⟩ := (ih r u (by omega)).1 h1
          refine ⟨⟨u, h2, rfl⟩, ?_⟩
          rw [told_cons, h3]; simp [toldB, hp]
        · rintro ⟨⟨u, h1, rfl⟩, h2⟩
          rw [told_cons] at h2
          simp only [toldB, hp, if_true, List.singleton_append, List.cons.injEq, true_and] at h2
          exact ⟨u, (ih r u (by omega)).2 ⟨h1, h2⟩, rfl⟩
      · by_cases hc : c = 37
        · subst hc
          match r, hr with
          | [], _ => constructor <;> (intro h; simp [unt, dec, plainB] at h)
          | [a], _ => constructor <;> (intro h; simp [unt, dec, plainB] at h)
          | a :: b :: r', hr =>
            simp only [List.length_cons] at hr
            have ha := a.toNat_lt; have hb := b.toNat_lt
            have e1 : unt (37 :: a :: b :: r') = match hexL a.toNat, hexL b.toNat with
              | some x, some y => if plainB (16 * x + y) = true then none else (unt r').map (UInt8.ofNat (16 * x + y) :: ·)
              | _, _ => none := by rw [unt]; rfl
            have e2 : dec (37 :: a :: b :: r') = match hexV a.toNat, hexV b.toNat with
              | some x, some y => (dec r').map (UInt8.ofNat (16 * x + y) :: ·)
              | _, _ => none := by rw [dec]; rfl
            rw [e1, e2]
            constructor
            · intro h
              split at h
              · rename_i x y hx hy
                have x16 := hexL_lt _ ha x hx; have y16 := hexL_lt _ hb y hy
                split at h
                · cases h
                · rename_i hpl
                  obtain ⟨u, h1, rfl⟩ := Option.map_eq_some_iff.1 h
                  obtain ⟨h2, h3⟩ := (ih r' u (by omega)).1 h1
                  obtain ⟨k1, k2⟩ := (hexL_V _ ha x x16).1 hx
                  obtain ⟨k3, k4⟩ := (hexL_V _ hb y y16).1 hy
                  refine ⟨by simp only [k1, k3, h2, Option.map_some], ?_⟩
                  rw [told_cons, h3]
                  have hn : (UInt8.ofNat (16 * x + y)).toNat = 16 * x + y := ofNat_lt (by omega)
                  have hd : (16 * x + y) / 16 = x := by omega
                  have hm : (16 * x + y) % 16 = y := by omega
                  have q1 : hexD x = a := UInt8.toNat_inj.1 k2
                  have q2 : hexD y = b := UInt8.toNat_inj.1 k4
                  unfold toldB
                  rw [hn, if_neg hpl, hd, hm, q1, q2]; rfl
              · cases h
            · rintro ⟨h, h9⟩
              split at h
              · rename_i x y hx hy
                have x16 := hexV_lt _ ha x hx; have y16 := hexV_lt _ hb y hy
                obtain ⟨u, h1, rfl⟩ := Option.map_eq_some_iff.1 h
                have hn : (UInt8.ofNat (16 * x + y)).toNat = 16 * x + y := ofNat_lt (by omega)
                have hd : (16 * x + y) / 16 = x := by omega
                have hm : (16 * x + y) % 16 = y := by omega
                rw [told_cons] at h9
                unfold toldB at h9
                rw [hn, hd, hm] at h9
                by_cases hpl : plainB (16 * x + y) = true
                · rw [if_pos hpl] at h9
                  simp only [List.singleton_append, List.cons.injEq] at h9
                  have := h9.1
                  have h37 : 16 * x + y = 37 := by have := congrArg UInt8.toNat this; rw [hn] at this; exact this
                  rw [h37] at hpl
                  exact absurd hpl (by decide)
                · rw [if_neg hpl] at h9
                  simp only [List.cons_append, List.nil_append, List.cons.injEq, true_and] at h9
                  obtain ⟨q1, q2, q3⟩ := h9
                  have g1 : hexL a.toNat = some x := (hexL_V _ ha x x16).2 ⟨hx, by rw [q1]⟩
                  have g2 : hexL b.toNat = some y := (hexL_V _ hb y y16).2 ⟨hy, by rw [q2]⟩
                  simp only [g1, g2, hpl, Bool.false_eq_true, if_false]
                  rw [(ih r' u (by omega)).2 ⟨h1, q3⟩]; rfl
              · cases h
        · constructor
          · intro h
            rw [unt.eq_def] at h
            simp [hp, hc] at h
          · rintro ⟨h, h9⟩
            rw [dec.eq_def] at h
            simp only [hc, ne_eq, not_false_eq_true, if_true, Option.map_eq_some_iff] at h
            obtain ⟨u, h1, rfl⟩ := h
            rw [told_cons] at h9
            simp only [toldB, hp, Bool.false_eq_true, if_false, List.cons_append, List.cons.injEq] at h9
            exact absurd h9.1.symm hc
theorem unt_told : ∀ t : List UInt8, unt (told t) = some t
  | [] => rfl
  | c :: t => by
    have ih := unt_told t
    have hc := c.toNat_lt
    rw [told_cons]
    unfold toldB
    by_cases hp : plainB c.toNat = true
    · rw [if_pos hp, List.singleton_append, unt.eq_def]
      simp only [hp, if_true, ih, Option.map_some]
    · rw [if_neg hp]
      have x16 : c.toNat / 16 < 16 := by omega
      have y16 : c.toNat % 16 < 16 := by omega
      have hx : hexL (hexD (c.toNat / 16)).toNat = some (c.toNat / 16) := by
        have : ∀ x < 16, hexL (hexD x).toNat = some x := by decide +kernel
        exact this _ x16
      have hy : hexL (hexD (c.toNat % 16)).toNat = some (c.toNat % 16) := by
        have : ∀ x < 16, hexL (hexD x).toNat = some x := by decide +kernel
        exact this _ y16
      have e1 : unt (37 :: hexD (c.toNat / 16) :: hexD (c.toNat % 16) :: told t) = match hexL (hexD (c.toNat / 16)).toNat, hexL (hexD (c.toNat % 16)).toNat with
        | some x, some y => if plainB (16 * x + y) = true then none else (unt (told t)).map (UInt8.ofNat (16 * x + y) :: ·)
        | _, _ => none := by rw [unt]; rfl
      show unt (37 :: hexD (c.toNat / 16) :: hexD (c.toNat % 16) :: told t) = _
      rw [e1, hx, hy]
      have hn : 16 * (c.toNat / 16) + c.toNat % 16 = c.toNat := by omega
      simp only [hn, hp, Bool.false_eq_true, if_false, ih, Option.map_some, UInt8.ofNat_toNat]
theorem unt_len : ∀ (n : Nat) (r t : List UInt8), r.length ≤ n → unt r = some t → t.length ≤ r.length := by
  intro n r t hn h
  have := ((unt_iff n r t hn).1 h).2
  rw [← this]
  clear this h hn
  induction t with
  | nil => simp
  | cons c t ih =>
    rw [told_cons, List.length_append, List.length_cons]
    have : 1 ≤ (toldB c).length := by unfold toldB; split <;> simp
    omega
end Go.V.G

set_option linter.unusedVariables false
set_option linter.unusedSimpArgs false
set_option maxRecDepth 100000
namespace Go.V.G
open Go.V
def oD (x : Nat) : UInt8 := UInt8.ofNat (48 + x)
theorem oD_n {x : Nat} (h : x < 10) : (oD x).toNat = 48 + x := by unfold oD; rw [UInt8.toNat_ofNat']; omega
theorem oD_of {a : UInt8} {x : Nat} (h : a.toNat = 48 + x) : oD x = a := by unfold oD; rw [← h]; exact UInt8.ofNat_toNat
theorem decF1 {n : Nat} (h : n < 10) : decF n = [oD n] := by rw [decF, dif_pos h]; rfl
theorem decF2 {n : Nat} (h1 : 10 ≤ n) (h2 : n < 100) : decF n = [oD (n / 10), oD (n % 10)] := by
  rw [decF, dif_neg (by omega), decF1 (by omega)]; rfl
theorem decF3 {n : Nat} (h1 : 100 ≤ n) (h2 : n < 1000) : decF n = [oD (n / 100), oD (n / 10 % 10), oD (n % 10)] := by
  rw [decF, dif_neg (by omega), decF2 (by omega) (by omega), show n / 10 / 10 = n / 100 by omega]; rfl
theorem decF4 {n : Nat} (h1 : 1000 ≤ n) (h2 : n < 10000) : decF n = [oD (n / 1000), oD (n / 100 % 10), oD (n / 10 % 10), oD (n % 10)] := by
  rw [decF, dif_neg (by omega), decF3 (by omega) (by omega), show n / 10 / 100 = n / 1000 by omega, show n / 10 / 10 % 10 = n / 100 % 10 by omega]; rfl
theorem decF_long : ∀ (k n : Nat), 10 ^ k ≤ n → k + 1 ≤ (decF n).length := by
  intro k
  induction k with
  | zero =>
    intro n _
    rw [decF]; split <;> simp
  | succ k ih =>
    intro n h
    have hp : 10 ^ (k + 1) = 10 ^ k * 10 := Nat.pow_succ ..
    have h0 : 0 < 10 ^ k := Nat.pow_pos (by decide)
    rw [decF, dif_neg (by omega)]
    have := ih (n / 10) (by omega)
    simp only [List.length_append, List.length_singleton]; omega
def valF (acc : Nat) : List UInt8 → Option Nat
  | [] => some acc
  | c :: r => if 48 ≤ c.toNat ∧ c.toNat ≤ 57 then valF (10 * acc + (c.toNat - 48)) r else none
def numF (r : List UInt8) : Int := if r.length < 1 ∨ 4 < r.length ∨ (r.head? = some 48 ∧ 1 < r.length) then -1 else match valF 0 r with
  | some n => ((n : Nat) : Int)
  | none => -1
theorem oD_48 {x : Nat} (h : x < 10) (h0 : 0 < x) : oD x ≠ 48 := by
  intro e
  have := congrArg UInt8.toNat e
  rw [oD_n h] at this
  have e2 : (48 : UInt8).toNat = 48 := rfl
  omega
theorem valF_snoc : ∀ (l : List UInt8) (acc : Nat) (c : UInt8), valF acc (l ++ [c]) = (valF acc l).bind fun m => if 48 ≤ c.toNat ∧ c.toNat ≤ 57 then some (10 * m + (c.toNat - 48)) else none
  | [], acc, c => rfl
  | d :: l, acc, c => by
    rw [List.cons_append, valF, valF]
    split
    · exact valF_snoc l _ c
    · rfl
theorem valF_le : ∀ (l : List UInt8) (acc n : Nat), valF acc l = some n → acc ≤ n
  | [], acc, n, h => by simp only [valF, Option.some.injEq] at h; omega
  | c :: l, acc, n, h => by
    rw [valF] at h
    split at h
    · have := valF_le l _ n h; omega
    · cases h
theorem valF_dec (n : Nat) : valF 0 (decF n) = some n := by
  induction n using Nat.strongRecOn with
  | ind n ih =>
    by_cases h : n < 10
    · rw [decF1 h, valF, oD_n h, if_pos (by omega), valF]; congr 1; omega
    · rw [decF, dif_neg h, valF_snoc, ih (n / 10) (by omega), Option.bind_some]
      have hx : (UInt8.ofNat (48 + n % 10)).toNat = 48 + n % 10 := oD_n (x := n % 10) (by omega)
      rw [hx, if_pos (by omega)]; congr 1; omega
theorem dec_of_val : ∀ (k : Nat) (l : List UInt8) (n : Nat), l.length ≤ k → l ≠ [] → (l.head? = some 48 → l.length = 1) → valF 0 l = some n → decF n = l ∧ (l.head? ≠ some 48 → 1 ≤ n) := by
  intro k
  induction k with
  | zero => intro l n h1 h2; exact absurd (List.length_eq_zero_iff.1 (by omega)) h2
  | succ k ih =>
    intro l n h1 h2 h3 h4
    have hs : l = l.dropLast ++ [l.getLast h2] := (List.dropLast_concat_getLast h2).symm
    generalize hc : l.getLast h2 = c at hs
    generalize hm : l.dropLast = m at hs
    rw [hs, valF_snoc] at h4
    cases hv : valF 0 m with
    | none => rw [hv] at h4; cases h4
    | some v =>
      rw [hv, Option.bind_some] at h4
      split at h4
      · rename_i hd
        injection h4 with h4
        have hcx : oD (c.toNat - 48) = c := oD_of (by omega)
        by_cases hm0 : m = []
        · subst hm0
          rw [List.nil_append] at hs
          simp only [valF, Option.some.injEq] at hv
          refine ⟨by rw [decF1 (by omega), hs]; congr 1; rw [← hcx]; congr 1; omega, fun h => ?_⟩
          rw [hs] at h
          have : c ≠ 48 := by simpa using h
          have e2 : c.toNat ≠ 48 := fun e => this (UInt8.toNat_inj.1 e)
          omega
        · have hl : m.length + 1 = l.length := by rw [hs]; simp
          have hh : l.head? = m.head? := by
            rw [hs]
            cases m with
            | nil => exact absurd rfl hm0
            | cons a m => rfl
          have hne : m.head? ≠ some 48 := by
            intro e
            have := h3 (by rw [hh]; exact e)
            have := List.length_pos_iff.2 hm0
            omega
          obtain ⟨k1, k2⟩ := ih m v (by omega) hm0 (fun e => absurd e hne) hv
          have := k2 hne
          refine ⟨?_, fun _ => by omega⟩
          rw [decF, dif_neg (by omega), hs, show n / 10 = v by omega, k1]
          congr 2
          have e : n % 10 = c.toNat - 48 := by omega
          rw [e]; exact hcx
      · cases h4
theorem parse_val : ∀ (l : List UInt8) (acc n : Nat), valF acc l = some n → n < 1000000000000000000 → Lib.parseUint10 acc l = .ok n
  | [], acc, n, h, _ => by simp only [valF, Option.some.injEq] at h; subst h; rfl
  | c :: l, acc, n, h, hn => by
    rw [valF] at h
    split at h
    · rename_i hd
      have h1 := valF_le l _ n h
      rw [Lib.parseUint10, if_pos hd, if_neg (by omega), if_neg (by omega), show acc * 10 + (c.toNat - 48) = 10 * acc + (c.toNat - 48) by omega]
      exact parse_val l _ n h hn
    · cases h
theorem atoi_val {l : List UInt8} {n : Nat} (h0 : l ≠ []) (h : valF 0 l = some n) (hn : n < 1000000000000000000) : atoiF l = (((n : Nat) : Int), false) := by
  have hp := parse_val l 0 n h hn
  cases l with
  | nil => exact absurd rfl h0
  | cons c r =>
    rw [valF] at h
    split at h
    · rename_i hd
      have e : Lib.atoiAll (c :: r) = .ok ((n : Nat) : Int) := by
        unfold Lib.atoiAll
        dsimp only
        rw [if_neg (by omega)]
        unfold Lib.parseMag
        rw [if_neg (by simp), hp]
        dsimp only
        rw [if_neg (by omega), if_neg (by omega), if_neg (by omega)]
      unfold atoiF; rw [e]
    · cases h
theorem decF_head {n : Nat} (h : n < 10000) : (decF n).length ≤ 4 ∧ 1 ≤ (decF n).length ∧ ((decF n).head? = some 48 → (decF n).length = 1) := by
  by_cases h1 : n < 10
  · rw [decF1 h1]; simp
  · by_cases h2 : n < 100
    · rw [decF2 (by omega) h2]; exact ⟨by simp, by simp, fun e => absurd (by simpa using e) (oD_48 (x := n / 10) (by omega) (by omega))⟩
    · by_cases h3 : n < 1000
      · rw [decF3 (by omega) h3]; exact ⟨by simp, by simp, fun e => absurd (by simpa using e) (oD_48 (x := n / 100) (by omega) (by omega))⟩
      · rw [decF4 (by omega) h]; exact ⟨by simp, by simp, fun e => absurd (by simpa using e) (oD_48 (x := n / 1000) (by omega) (by omega))⟩
theorem num_dec {n : Nat} (h : n < 10000) : numF (decF n) = ((n : Nat) : Int) := by
  obtain ⟨h1, h2, h3⟩ := decF_head h
  unfold numF
  rw [if_neg (by
    rintro (h4 | h4 | ⟨h4, h5⟩)
    · omega
    · omega
    · have := h3 h4; omega), valF_dec]
theorem num_cases (r : List UInt8) : numF r = -1 ∨ ∃ m : Nat, m < 10000 ∧ numF r = ((m : Nat) : Int) ∧ r = decF m := by
  by_cases h : r.length < 1 ∨ 4 < r.length ∨ (r.head? = some 48 ∧ 1 < r.length)
  · left; unfold numF; rw [if_pos h]
  · cases hv : valF 0 r with
    | none => left; unfold numF; rw [if_neg h, hv]
    | some n =>
      right
      have h0 : r ≠ [] := by rintro rfl; exact h (.inl (by simp))
      obtain ⟨k1, _⟩ := dec_of_val _ r n (Nat.le_refl _) h0 (fun e => by
        have : ¬ 1 < r.length := fun h5 => h (.inr (.inr ⟨e, h5⟩))
        have : ¬ r.length < 1 := fun h5 => h (.inl h5)
        omega) hv
      refine ⟨n, ?_, by unfold numF; rw [if_neg h, hv], k1.symm⟩
      apply Nat.lt_of_not_le
      intro hle
      have := decF_long 4 n hle
      rw [k1] at this
      exact h (.inr (.inl (by omega)))
theorem i_num_eq {r : List UInt8} (hr : r.length ≤ 281474976710656) : i_number r = some (numF r) := by
  unfold i_number strconv_Atoi
  rw [if_pos hr, Option.bind_some]
  rcases num_cases r with h | ⟨m, h1, h2, h3⟩
  · rw [h]
    generalize hq : atoiF r = q
    obtain ⟨n, e⟩ := q
    cases e with
    | true => rfl
    | false =>
      dsimp only
      rw [if_neg (by decide)]
      by_cases h4 : 4 < r.length
      · rw [if_pos (by simp; omega)]; rfl
      · rw [if_neg (by simp; omega)]
        by_cases h5 : n < 0
        · rw [if_pos (by simpa using h5)]; rfl
        · rw [if_neg (by simpa using h5)]
          have hb : n ≤ 9223372036854775807 := by
            have hp := congrArg Prod.fst hq
            have hs := congrArg Prod.snd hq
            unfold atoiF at hp hs
            cases ha : Lib.atoiAll r with
            | ok v =>
              rw [ha] at hp
              simp only at hp
              subst hp
              unfold Lib.atoiAll at ha
              split at ha
              · cases ha
              · dsimp only at ha
                split at ha
                · cases ha
                · cases ha
                · split at ha
                  · cases ha
                  · split at ha
                    · cases ha
                    · injection ha with ha
                      split at ha <;> omega
            | «syntax» => rw [ha] at hs; cases hs
            | range => rw [ha] at hs; cases hs
          rw [itoa_eq (by omega) hb, Option.bind_some, Option.bind_some]
          by_cases h6 : itoaF n = r
          · exfalso
            unfold itoaF at h6
            rw [if_neg (by omega)] at h6
            have hl : n.toNat < 10000 := by
              apply Nat.lt_of_not_le
              intro hle
              have := decF_long 4 n.toNat hle
              rw [h6] at this
              omega
            have := num_dec hl
            rw [h6, h] at this
            omega
          · rw [if_pos (by simpa using h6)]
  · have hd := atoi_val (l := r) (n := m) (by rw [h3]; intro e; have := (decF_head h1).2.1; rw [e] at this; exact absurd this (by decide)) (by rw [h3]; exact valF_dec m) (by omega)
    obtain ⟨g1, _, _⟩ := decF_head h1
    have hi : itoaF ((m : Nat) : Int) = r := by unfold itoaF; rw [if_neg (by omega), Int.toNat_natCast, ← h3]
    rw [hd, h2]
    dsimp only
    rw [if_neg (by decide), if_neg (by rw [h3]; simp; omega), if_neg (by simp), itoa_eq (by omega) (by omega), Option.bind_some, Option.bind_some, hi, if_neg (by simp)]
end Go.V.G

set_option linter.unusedVariables false
set_option linter.unusedSimpArgs false
set_option maxRecDepth 100000
namespace Go.V.G
open Go.V
theorem split_no (b : UInt8) : ∀ s : List UInt8, (∀ (k : Nat), s[k]? ≠ some b) → splitF b s = [s]
  | [], _ => rfl
  | c :: r, h => by
    have h0 : c ≠ b := fun e => h 0 (by simp [e])
    rw [splitF, if_neg h0, split_no b r (fun k => by simpa using h (k + 1))]
theorem split_sum (b : UInt8) : ∀ s : List UInt8, ((splitF b s).map List.length).sum + (splitF b s).length = s.length + 1
  | [] => by simp [splitF]
  | c :: r => by
    have ih := split_sum b r
    rw [splitF]
    split
    · simp only [List.map_cons, List.sum_cons, List.length_cons, List.length_nil]; omega
    · split
      · rename_i h t e
        rw [e] at ih
        simp only [List.map_cons, List.sum_cons, List.length_cons] at ih ⊢; omega
      · rename_i e
        rw [e] at ih
        simp at ih
end Go.V.G

set_option linter.unusedVariables false
set_option linter.unusedSimpArgs false
set_option maxRecDepth 100000
namespace Go.V.G
open Go.V
theorem dec_cons (c : UInt8) (r : List UInt8) (h : c ≠ 37) : dec (c :: r) = (dec r).map (c :: ·) := by rw [dec.eq_def]; simp only [h, ne_eq, not_false_eq_true, if_true]
theorem dec_short : ∀ l : List UInt8, l.length ≤ 1 → dec (37 :: l) = none
  | [], _ => by rw [dec.eq_def]; simp
  | [a], _ => by rw [dec.eq_def]; simp
  | _ :: _ :: _, h => by simp at h
theorem dec_three (a b : UInt8) (r : List UInt8) : dec (37 :: a :: b :: r) = match hexV a.toNat, hexV b.toNat with
    | some x, some y => (dec r).map (UInt8.ofNat (16 * x + y) :: ·)
    | _, _ => none := by rw [dec]; rfl
theorem drop3 {xs : List UInt8} {k : Nat} (h : k + 2 < xs.length) : xs.drop k = xs[k] :: xs[k + 1] :: xs[k + 2] :: xs.drop (k + 3) := by
  rw [List.drop_eq_getElem_cons (by omega), List.drop_eq_getElem_cons (show k + 1 < xs.length by omega), List.drop_eq_getElem_cons (show k + 1 + 1 < xs.length by omega)]
theorem bytes_cons (c : UInt8) (t : List UInt8) : bytesOf (c :: t) = ((c.toNat : Nat) : Int) :: bytesOf t := rfl
theorem textOf_bytes (t : List UInt8) : textOf (bytesOf t) = t := by
  unfold textOf bytesOf
  rw [List.map_map]
  conv => rhs; rw [← List.map_id t]
  exact List.map_congr_left fun c _ => by simp
def decE (xs : List UInt8) (out : List Int) (k : Nat) : (List UInt8 × List Int) ⊕ (List UInt8 × Bool) := match dec (xs.drop k) with
  | some t => .inl (xs, out ++ bytesOf t)
  | none => .inr ([], false)
theorem hexF_two (a b : UInt8) : hexF [a, b] = match hexV a.toNat, hexV b.toNat with
    | some x, some y => (((16 * x + y : Nat) : Int), false)
    | _, _ => (0, true) := by
  unfold hexF
  rw [hexGo]
  cases hexV a.toNat with
  | none => rfl
  | some x =>
    dsimp only
    rw [hexGo]
    cases hexV b.toNat with
    | none => rfl
    | some y => dsimp only; rw [hexGo]; dsimp only; rw [show (0 * 16 + x) * 16 + y = 16 * x + y by omega]
theorem i_dec_step {xs : List UInt8} (hn : xs.length ≤ 1099511627776) {out : List Int} {k : Nat} (ho : out.length ≤ k) (hk : k < xs.length) :
    (∃ out' k', i_decoded_L1 (xs, out, ((k : Nat) : Int)) = some (.inl (xs, out', ((k' : Nat) : Int))) ∧ k < k' ∧ k' ≤ xs.length ∧ out'.length ≤ k' ∧ decE xs out' k' = decE xs out k) ∨
    i_decoded_L1 (xs, out, ((k : Nat) : Int)) = some (.inr (decE xs out k)) := by
  have i1 : (((k : Nat) : Int) < ((List.length xs : Nat) : Int)) := by omega
  have i0 : (0 : Int) ≤ ((k : Nat) : Int) := by omega
  have i3 : IntKind.wrap .i64 (((k : Nat) : Int) + 1) = ((k + 1 : Nat) : Int) := by rw [w64 (by omega) (by omega)]; omega
  have i4 : IntKind.wrap .i64 (((k : Nat) : Int) + 2) = ((k + 2 : Nat) : Int) := by rw [w64 (by omega) (by omega)]; omega
  have i6 : IntKind.wrap .i64 (((k : Nat) : Int) + 3) = ((k + 3 : Nat) : Int) := by rw [w64 (by omega) (by omega)]; omega
  have i5 : IntKind.wrap .i64 (((k + 2 : Nat) : Int) + 1) = ((k + 3 : Nat) : Int) := by rw [w64 (by omega) (by omega)]; omega
  have g0 : (0 : Int) ≤ ((k + 1 : Nat) : Int) := by omega
  have g1 : ((k + 1 : Nat) : Int) ≤ ((k + 3 : Nat) : Int) := by omega
  have hr : ∀ x : Int, roomFor (List.length out + List.length ([x] : List Int)) 1 = true := by intro x; unfold roomFor; simp only [List.length_singleton, decide_eq_true_eq]; omega
  unfold i_decoded_L1
  dsimp only
  by_cases h37 : xs[k] = 37
  · have n37 : ((xs[k].toNat : Nat) : Int) = 37 := by rw [h37]; rfl
    by_cases h2 : xs.length ≤ k + 2
    · right
      have q : ((List.length xs : Nat) : Int) ≤ ((k + 2 : Nat) : Int) := by omega
      have e : decE xs out k = .inr ([], false) := by
        unfold decE
        rw [List.drop_eq_getElem_cons hk, h37, dec_short _ (by rw [List.length_drop]; omega)]
      simp only [i1, i0, decide_true, if_true, Int.toNat_natCast, List.getElem?_eq_getElem hk, Option.bind_some, Bool.false_eq_true, if_false, n37, not_true_eq_false, decide_false, i4, q, e]
    · have q : ¬ ((List.length xs : Nat) : Int) ≤ ((k + 2 : Nat) : Int) := by omega
      have k1 : k + 1 < xs.length := by omega
      have k2 : k + 2 < xs.length := by omega
      have g2 : ((k + 3 : Nat) : Int) ≤ ((List.length xs : Nat) : Int) := by omega
      have ha := xs[k + 1].toNat_lt; have hb := xs[k + 2].toNat_lt
      have hs : (xs.drop (k + 1)).take (k + 3 - (k + 1)) = [xs[k + 1], xs[k + 2]] := by
        rw [show k + 3 - (k + 1) = 2 by omega, List.drop_eq_getElem_cons k1, List.drop_eq_getElem_cons (show k + 1 + 1 < xs.length by omega)]; rfl
      have hp : strconv_ParseUint [xs[k + 1], xs[k + 2]] 16 8 = some (hexF [xs[k + 1], xs[k + 2]]) := by
        unfold strconv_ParseUint
        rw [if_pos ⟨rfl, rfl, rfl⟩]
      have e0 : decE xs out k = match (match hexV xs[k + 1].toNat, hexV xs[k + 2].toNat with
          | some x, some y => (dec (xs.drop (k + 3))).map (UInt8.ofNat (16 * x + y) :: ·)
          | _, _ => none) with
        | some t => .inl (xs, out ++ bytesOf t)
        | none => .inr ([], false) := by
        unfold decE
        rw [drop3 k2, h37, dec_three]
      rw [hexF_two] at hp
      cases hx : hexV xs[k + 1].toNat with
      | none =>
        right
        rw [hx] at hp e0
        simp only [i1, i0, decide_true, if_true, Int.toNat_natCast, List.getElem?_eq_getElem hk, Option.bind_some, Bool.false_eq_true, if_false, n37, not_true_eq_false, decide_false, i4, i3, i6, g0, g1, g2, q, Int.le_refl, hs, hp, e0]
      | some x =>
        have x16 := hexV_lt _ ha x hx
        rw [hx] at hp e0
        cases hy : hexV xs[k + 2].toNat with
        | none =>
          right
          rw [hy] at hp e0
          simp only [i1, i0, decide_true, if_true, Int.toNat_natCast, List.getElem?_eq_getElem hk, Option.bind_some, Bool.false_eq_true, if_false, n37, not_true_eq_false, decide_false, i4, i3, i6, g0, g1, g2, q, Int.le_refl, hs, hp, e0]
        | some y =>
          have y16 := hexV_lt _ hb y hy
          rw [hy] at hp e0
          have w3 : IntKind.wrap .u8 ((16 * x + y : Nat) : Int) = ((16 * x + y : Nat) : Int) := wu8 (by omega) (by omega)
          left
          refine ⟨out ++ [((16 * x + y : Nat) : Int)], k + 3, ?_, by omega, by omega, by rw [List.length_append, List.length_singleton]; omega, ?_⟩
          · simp only [i1, i0, decide_true, if_true, Int.toNat_natCast, List.getElem?_eq_getElem hk, Option.bind_some, Bool.false_eq_true, if_false, n37, not_true_eq_false, decide_false, i4, i3, i5, i6, g0, g1, g2, q, Int.le_refl, hs, hp, w3, hr]
          · rw [e0]
            unfold decE
            dsimp only
            cases dec (xs.drop (k + 3)) with
            | none => rfl
            | some t => simp only [Option.map_some]; rw [bytes_cons, ofNat_lt (show 16 * x + y < 256 by omega), List.append_assoc]; rfl
  · left
    have n37 : ¬ ((xs[k].toNat : Nat) : Int) = 37 := fun e => h37 (UInt8.toNat_inj.1 (by have e2 : (37 : UInt8).toNat = 37 := rfl; omega))
    refine ⟨out ++ [((xs[k].toNat : Nat) : Int)], k + 1, ?_, by omega, by omega, by rw [List.length_append, List.length_singleton]; omega, ?_⟩
    · simp only [i1, i0, decide_true, if_true, Int.toNat_natCast, List.getElem?_eq_getElem hk, Option.bind_some, n37, not_false_eq_true, hr, i3]
    · unfold decE
      rw [List.drop_eq_getElem_cons hk, dec_cons _ _ h37]
      cases dec (xs.drop (k + 1)) with
      | none => rfl
      | some t => simp only [Option.map_some]; rw [bytes_cons, List.append_assoc]; rfl
theorem dec_len : ∀ (n : Nat) (r t : List UInt8), r.length ≤ n → dec r = some t → t.length ≤ r.length := by
  intro n
  induction n with
  | zero =>
    intro r t hr h
    obtain rfl : r = [] := List.length_eq_zero_iff.1 (by omega)
    simp only [dec, Option.some.injEq] at h; subst h; simp
  | succ n ih =>
    intro r t hr h
    match r, hr with
    | [], _ => simp only [dec, Option.some.injEq] at h; subst h; simp
    | c :: r, hr =>
      rw [List.length_cons] at hr
      by_cases hc : c = 37
      · subst hc
        match r, hr with
        | [], _ => rw [dec_short _ (by simp)] at h; cases h
        | [a], _ => rw [dec_short _ (by simp)] at h; cases h
        | a :: b :: r', hr =>
          rw [dec_three] at h
          split at h
          · obtain ⟨u, h1, rfl⟩ := Option.map_eq_some_iff.1 h
            have := ih r' u (by simp only [List.length_cons] at hr; omega) h1
            simp only [List.length_cons]; omega
          · cases h
      · rw [dec_cons _ _ hc] at h
        obtain ⟨u, h1, rfl⟩ := Option.map_eq_some_iff.1 h
        have := ih r u (by omega) h1
        simp only [List.length_cons]; omega
theorem i_decoded_eq {xs : List UInt8} (hn : xs.length ≤ 1099511627776) : ∃ t b, i_decoded xs = some (t, b) ∧ (match unt xs with | some u => b = true ∧ t = u | none => b = false) := by
  unfold i_decoded
  have hl := loop_fn i_decoded_L1 (fun y => ∃ (out : List Int) (k : Nat), y = (xs, out, ((k : Nat) : Int)) ∧ out.length ≤ k ∧ k ≤ xs.length) (fun y => xs.length - y.2.2.toNat) (fun y => decE xs y.2.1 y.2.2.toNat) (by
    rintro _ ⟨out, k, rfl, ho, hk⟩
    dsimp only
    rw [Int.toNat_natCast]
    by_cases hkn : k < xs.length
    · rcases i_dec_step hn ho hkn with ⟨out', k', h1, h2, h3, h4, h5⟩ | h
      · left
        refine ⟨_, h1, ⟨_, _, rfl, h4, h3⟩, ?_, ?_⟩
        · dsimp only; rw [Int.toNat_natCast]; omega
        · dsimp only; rw [Int.toNat_natCast]; exact h5
      · exact .inr h
    · right
      obtain rfl : k = xs.length := by omega
      unfold i_decoded_L1 decE
      dsimp only
      rw [if_neg (by simp), List.drop_eq_nil_of_le (Nat.le_refl _)]
      simp [dec, bytesOf]) (xs, [], 0) ⟨[], 0, rfl, by simp, by omega⟩
  rw [hl, Option.bind_some]
  unfold decE
  dsimp only
  rw [show Int.toNat 0 = 0 from rfl, List.drop_zero]
  have key := fun t => unt_iff xs.length xs t (Nat.le_refl _)
  cases hd : dec xs with
  | none =>
    dsimp only
    refine ⟨[], false, rfl, ?_⟩
    cases hu : unt xs with
    | none => rfl
    | some u => have := ((key u).1 hu).1; rw [hd] at this; cases this
  | some t =>
    dsimp only
    have hlen := dec_len xs.length xs t (Nat.le_refl _) hd
    rw [List.nil_append, textOf_bytes, i_coded_eq (by omega), Option.bind_some]
    refine ⟨t, told t == xs, rfl, ?_⟩
    cases hu : unt xs with
    | none =>
      dsimp only
      apply Bool.eq_false_iff.2
      intro h
      have := (key t).2 ⟨hd, by simpa using h⟩
      rw [hu] at this; cases this
    | some u =>
      obtain ⟨k1, k2⟩ := (key u).1 hu
      rw [hd] at k1
      obtain rfl := Option.some.inj k1
      exact ⟨by simpa using k2, rfl⟩
end Go.V.G

set_option linter.unusedVariables false
set_option linter.unusedSimpArgs false
set_option maxRecDepth 100000
namespace Go.V.G
open Go.V
theorem s_Good_eq {B : Nat} {c : List Prt} (h : Sm B c) (hB : B ≤ 1099511627776) : s_GoodChange c = some (good c) := by
  have hlen := Nat.le_trans h.len hB
  have hput := Nat.le_trans h.put hB
  unfold s_GoodChange
  refine Ok.eq (Ok.bind (Q := fun r => match r with
    | .inl _ => good c = true
    | .inr b => b = false ∧ good c = false) ?_ ?_)
  · refine Ok.loop (fun y => y.1 = c ∧ y.2.2.2.1 = c ∧ y.2.2.2.2.1 = ((List.length c : Nat) : Int) ∧ ∃ i : Nat, y.2.2.2.2.2 = ((i : Nat) : Int) ∧ i ≤ c.length ∧ y.2.1 = src (c.take i) ∧ y.2.2.1 = tgt (c.take i) ∧ y.2.1 ≤ 120 ∧ y.2.2.1 ≤ 120 ∧
        okk 0 c = okk (before c i) (c.drop i) ∧ ∀ p ∈ c.take i, Some1 p) (fun y => (((List.length c : Nat) : Int) - y.2.2.2.2.2).toNat)
      ⟨rfl, rfl, rfl, 0, rfl, Nat.zero_le _, by simp [src], by simp [tgt], by simp, by simp, by simp [before], fun p hp => by simp at hp⟩ ?_
    rintro ⟨c0, s, t, c', n, i'⟩ ⟨e1, e2, e3, i, e4, hi, e5, e6, h1, h2, hk, hs⟩
    dsimp only at e1 e2 e3 e4 e5 e6 h1 h2
    subst e1 e2 e3 e4
    unfold s_GoodChange_L1
    dsimp only
    refine Ok.ite (fun hc => ?_) fun hc => ?_
    · have hlt : i < c'.length := by simpa using hc
      have hmem : c'[i] ∈ c' := List.getElem_mem hlt
      have hpf := h.fit _ hmem
      have hpp := psum_mem hmem
      refine Ok.yes (by simp) (Ok.bind_eq (r := c'[i]) (by simp [List.getElem?_eq_getElem hlt]) (Ok.bind_eq (s_kind_eq _ _ _) ?_))
      rw [okk_drop hlt] at hk
      have n1 := src_nonneg hs
      have n2 := tgt_nonneg hs
      have a1 := src_at hlt
      have a2 := tgt_at hlt
      have bad : (kd c'[i] = 0 ∨ kd c'[i] = before c' i ∨ 120 < c'[i].1 ∨ 120 < c'[i].2.1 ∨ 120 < c'[i].2.2.length) → good c' = false := by
        intro hb
        cases hg : good c' with
        | false => rfl
        | true =>
          exfalso
          obtain ⟨g1, g2, g3⟩ := good_spec hg
          have q := okk_some g1
          have n3 := src_nonneg (l := c'.drop (i + 1)) fun p h => q p (mem_drop h)
          have n4 := tgt_nonneg (l := c'.drop (i + 1)) fun p h => q p (mem_drop h)
          have p1 := q _ hmem
          have k0 := p1.k; have d0 := p1.d
          rw [g1] at hk
          have hk' := hk.symm
          simp only [Bool.and_eq_true, Bool.not_eq_true', decide_eq_false_iff_not] at hk'
          rcases hb with hb | hb | hb | hb | hb
          · exact p1.ne hb
          · exact hk'.1.2 hb
          · omega
          · omega
          · omega
      refine Ok.bind (Q := fun v => ∃ b : Bool, v = (c', s, t, c', ((List.length c' : Nat) : Int), ((i : Nat) : Int), b, c'[i].1, c'[i].2.1, c'[i].2.2) ∧
          (b = true → kd c'[i] = 0 ∨ kd c'[i] = before c' i ∨ 120 < c'[i].1 ∨ 120 < c'[i].2.1 ∨ 120 < c'[i].2.2.length) ∧
          (b = false → kd c'[i] ≠ 0 ∧ kd c'[i] ≠ before c' i ∧ c'[i].1 ≤ 120 ∧ c'[i].2.1 ≤ 120 ∧ c'[i].2.2.length ≤ 120)) ?_ ?_
      · refine Ok.ite (fun h0 => ?_) fun h0 => ?_
        · have h0' : kd c'[i] = 0 := by simpa using h0
          exact Ok.mk ⟨true, rfl, fun _ => .inl h0', fun h => by cases h⟩
        · have h0' : ¬ kd c'[i] = 0 := by simpa using h0
          refine Ok.ite (fun hp => ?_) fun hp => ?_
          · have hp' : 0 < i := by simpa using hp
            have e : IntKind.wrap .i64 ((i : Int) - 1) = ((i - 1 : Nat) : Int) := by rw [w64 (by omega) (by omega)]; omega
            have hl1 : i - 1 < c'.length := by omega
            have hne : ¬ i = 0 := by omega
            have hb : before c' i = kd c'[i - 1] := by simp [before, hne, List.getElem?_eq_getElem hl1]
            refine Ok.yes (by simp [e]) (Ok.bind_eq (r := c'[i - 1]) (by simp [e, List.getElem?_eq_getElem hl1]) (Ok.bind_eq (s_kind_eq _ _ _) ?_))
            rw [hb]
            refine Ok.ite (fun hq => ?_) fun hq => ?_
            · have hq' : kd c'[i - 1] = kd c'[i] := by simpa using hq
              exact Ok.mk ⟨true, rfl, fun _ => .inr (.inl hq'.symm), fun h => by cases h⟩
            have hq' : ¬ kd c'[i - 1] = kd c'[i] := by simpa using hq
            refine Ok.ite (fun hq1 => Ok.mk ⟨true, rfl, fun _ => .inr (.inr (.inl (by simpa using hq1))), fun h => by cases h⟩) fun hq1 => ?_
            refine Ok.ite (fun hq2 => Ok.mk ⟨true, rfl, fun _ => .inr (.inr (.inr (.inl (by simpa using hq2)))), fun h => by cases h⟩) fun hq2 => ?_
            refine Ok.mk ⟨_, rfl, fun hq3 => .inr (.inr (.inr (.inr ?_))), fun hq3 => ⟨h0', fun h => hq' h.symm, by simpa using hq1, by simpa using hq2, ?_⟩⟩
            · simp only [decide_eq_true_eq] at hq3; omega
            · simp only [decide_eq_false_iff_not] at hq3; omega
          · have hi0 : i = 0 := by
              have : ¬ (0 : Int) < (i : Int) := by simpa using hp
              omega
            subst hi0
            have hb : before c' 0 = 0 := rfl
            rw [hb]
            refine Ok.ite (fun hq1 => Ok.mk ⟨true, rfl, fun _ => .inr (.inr (.inl (by simpa using hq1))), fun h => by cases h⟩) fun hq1 => ?_
            refine Ok.ite (fun hq2 => Ok.mk ⟨true, rfl, fun _ => .inr (.inr (.inr (.inl (by simpa using hq2)))), fun h => by cases h⟩) fun hq2 => ?_
            refine Ok.mk ⟨_, rfl, fun hq3 => .inr (.inr (.inr (.inr ?_))), fun hq3 => ⟨h0', h0', by simpa using hq1, by simpa using hq2, ?_⟩⟩
            · simp only [decide_eq_true_eq] at hq3; omega
            · simp only [decide_eq_false_iff_not] at hq3; omega
      rintro _ ⟨b, rfl, hb1, hb2⟩
      dsimp only
      cases b with
      | true => exact Ok.yes rfl (Ok.mk ⟨rfl, bad (hb1 rfl)⟩)
      | false =>
        refine Ok.no (by simp) ?_
        obtain ⟨g1, g2, g3, g4, g5⟩ := hb2 rfl
        have p1 := some1_of g1
        have k0 := p1.k; have d0 := p1.d
        have w1 : IntKind.wrap .i64 (c'[i].1 + c'[i].2.1) = c'[i].1 + c'[i].2.1 := w64 (by omega) (by omega)
        have w2 : IntKind.wrap .i64 (s + (c'[i].1 + c'[i].2.1)) = s + (c'[i].1 + c'[i].2.1) := w64 (by omega) (by omega)
        have w3 : IntKind.wrap .i64 (c'[i].1 + ((List.length c'[i].2.2 : Nat) : Int)) = c'[i].1 + ((List.length c'[i].2.2 : Nat) : Int) := w64 (by omega) (by omega)
        have w4 : IntKind.wrap .i64 (t + (c'[i].1 + ((List.length c'[i].2.2 : Nat) : Int))) = t + (c'[i].1 + ((List.length c'[i].2.2 : Nat) : Int)) := w64 (by omega) (by omega)
        rw [w1, w2, w3, w4]
        have over : (120 < s + (c'[i].1 + c'[i].2.1) ∨ 120 < t + (c'[i].1 + ((List.length c'[i].2.2 : Nat) : Int))) → good c' = false := by
          intro ho
          cases hg : good c' with
          | false => rfl
          | true =>
            exfalso
            obtain ⟨q1, q2, q3⟩ := good_spec hg
            have q := okk_some q1
            have n3 := src_nonneg (l := c'.drop (i + 1)) fun p h => q p (mem_drop h)
            have n4 := tgt_nonneg (l := c'.drop (i + 1)) fun p h => q p (mem_drop h)
            omega
        refine Ok.bind (Q := fun v => v = (c', s + (c'[i].1 + c'[i].2.1), t + (c'[i].1 + ((List.length c'[i].2.2 : Nat) : Int)), c', ((List.length c' : Nat) : Int), ((i : Nat) : Int), decide (120 < s + (c'[i].1 + c'[i].2.1) ∨ 120 < t + (c'[i].1 + ((List.length c'[i].2.2 : Nat) : Int))))) ?_ ?_
        · refine Ok.ite (fun h => Ok.mk ?_) fun h => Ok.mk ?_
          · have : 120 < s + (c'[i].1 + c'[i].2.1) := by simpa using h
            simp [this]
          · have : ¬ 120 < s + (c'[i].1 + c'[i].2.1) := by simpa using h
            simp [this]
        rintro _ rfl
        dsimp only
        refine Ok.ite (fun hb => Ok.mk ⟨rfl, over (by simpa using hb)⟩) fun hb => Ok.mk ⟨⟨rfl, rfl, rfl, i + 1, idx_succ hlen hlt, by omega, ?_, ?_, ?_, ?_, ?_, ?_⟩, ?_⟩
        · rw [src_take hlt, e5]
        · rw [tgt_take hlt, e6]
        · have : ¬ (120 < s + (c'[i].1 + c'[i].2.1) ∨ 120 < t + (c'[i].1 + ((List.length c'[i].2.2 : Nat) : Int))) := by simpa using hb
          dsimp only; omega
        · have : ¬ (120 < s + (c'[i].1 + c'[i].2.1) ∨ 120 < t + (c'[i].1 + ((List.length c'[i].2.2 : Nat) : Int))) := by simpa using hb
          dsimp only; omega
        · rw [hk, before_succ hlt]; simp [g1, g2]
        · intro p hp
          rw [List.take_succ_eq_append_getElem hlt] at hp
          rcases List.mem_append.1 hp with hp | hp
          · exact hs p hp
          · rw [List.mem_singleton.1 hp]; exact p1
        · rw [idx_succ hlen hlt]; dsimp only; omega
    · have : i = c'.length := by
        have : ¬ ((i : Int) < ((List.length c' : Nat) : Int)) := by simpa using hc
        omega
      subst this
      rw [List.take_length] at e5 e6
      refine Ok.mk ?_
      unfold good
      rw [hk]
      simp [okk]
      omega
  · rintro (y | b) hr
    · exact Ok.mk hr.symm
    · obtain ⟨rfl, hk⟩ := hr
      exact Ok.mk hk.symm
end Go.V.G

set_option linter.unusedVariables false
set_option linter.unusedSimpArgs false
set_option maxRecDepth 100000
namespace Go.V.G
open Go.V
inductive Atom where
  | ins (b : UInt8)
  | keep
  | drop
  deriving DecidableEq
def mk (f : Bool) : Atom := if f = true then .keep else .drop
def pa (p : Prt) : List Atom := p.2.2.map Atom.ins ++ List.replicate (p.1 + p.2.1).toNat (mk (decide (0 < p.1)))
def atoms (c : List Prt) : List Atom := c.flatMap pa
def stays : List Atom → List Bool
  | [] => []
  | .ins _ :: l => stays l
  | .keep :: l => true :: stays l
  | .drop :: l => false :: stays l
def consHead (b : UInt8) : List (List UInt8) → List (List UInt8)
  | p :: ps => (b :: p) :: ps
  | [] => [[b]]
def puts : List Atom → List (List UInt8)
  | [] => [[]]
  | .ins b :: l => consHead b (puts l)
  | .keep :: l => [] :: puts l
  | .drop :: l => [] :: puts l
theorem room1 {n b : Nat} (h : n ≤ 1099511627776) (hb : b ≤ 32) : roomFor (n + 1) b = true := by
  simp only [roomFor, decide_eq_true_eq]
  have : (n + 1) * b ≤ (1099511627776 + 1) * 32 := Nat.mul_le_mul (by omega) hb
  omega
end Go.V.G

namespace Go.V
theorem add_blk (g off n : Nat) : (⟨g, off, none⟩ : Addr).add n = ⟨g, off + n, none⟩ := by
  unfold Addr.add; split
  · subst_vars; rfl
  · rfl
theorem add_add (a : Addr) (i j : Nat) : (a.add i).add j = a.add (i + j) := by
  unfold Addr.add
  by_cases hi : i = 0
  · subst hi; simp
  · by_cases hj : j = 0
    · subst hj; simp [hi]
    · have : ¬ (i + j = 0) := by omega
      simp only [hi, hj, this, if_false]
      congr 1; omega
theorem cell_blk {w : World} {g : Nat} {cs : Array Value} {e : TypeId} {fr : Nat × Nat} (h : w.heap[g]? = some (.cells cs e fr)) (i : Nat) : w.cell? ⟨g, i, none⟩ = cs[i]? := by
  unfold World.cell?; rw [h]; rfl
theorem frozen_blk {w : World} {g : Nat} {cs : Array Value} {e : TypeId} {fr : Nat × Nat} (h : w.heap[g]? = some (.cells cs e fr)) (hf : ∀ i, i < cs.size → ¬ (fr.1 ≤ i ∧ i < fr.2)) {i : Nat} (hi : i < cs.size) : w.frozen? ⟨g, i, none⟩ = false := by
  unfold World.frozen?; rw [h]
  have := hf i hi
  simp only [Bool.and_eq_false_iff, decide_eq_false_iff_not]
  omega
theorem setCell_blk {w : World} {g : Nat} {cs : Array Value} {e : TypeId} {fr : Nat × Nat} (h : w.heap[g]? = some (.cells cs e fr)) (i : Nat) (v : Value) :
    (w.setCell ⟨g, i, none⟩ v).heap[g]? = some (.cells (cs.setIfInBounds i v) e fr) := by
  simp only [World.setCell, Array.getElem?_modify, if_true, h, Option.map_some]
  rfl
theorem lt_size {w : World} {g : Nat} {o : Obj} (h : w.heap[g]? = some o) : g < w.heap.size := (Array.getElem?_eq_some_iff.1 h).1
def RpL {α : Type} (p : α → List Value → List Nat → Prop) : List α → List Value → List Nat → Prop
  | [], vs, F => vs = [] ∧ F = []
  | x :: xs, vs, F => ∃ v1 v2 F1 F2, vs = v1 ++ v2 ∧ F = F1 ++ F2 ∧ p x v1 F1 ∧ RpL p xs v2 F2
def NF (fr : Nat × Nat) (n : Nat) : Prop := ∀ i, i < n → ¬ (fr.1 ≤ i ∧ i < fr.2)
structure NFt (r : Ty) (fr : Nat × Nat) (n : Nat) : Prop where
  nf : NF fr n
  at' : r ≠ .int .u8 → ¬ (fr.1 ≤ n ∧ n < fr.2)
  le : r = .int .i64 → n ≤ 9223372036854775807
theorem NFt.zero (r : Ty) {n : Nat} (h : r = .int .i64 → n ≤ 9223372036854775807) : NFt r (0, 0) n := ⟨fun i _ hx => by simp at hx, fun _ hx => by simp at hx, h⟩
def ErV : Bool → Value → Prop
  | false, v => v = .nilIface
  | true, v => ∃ te pe, v = .iface te pe
def Rp (w : World) (K : Nat → Prop) : (t : Ty) → t.D → List Value → List Nat → Prop
  | .int k, n, vs, F => vs = [.int k n] ∧ F = []
  | .bool, b, vs, F => vs = [.bool b] ∧ F = []
  | .str, s, vs, F => vs = [.string ⟨s.toArray⟩] ∧ F = []
  | .er, b, vs, F => ∃ v, vs = [v] ∧ F = [] ∧ ErV b v
  | .unit, _, vs, F => vs = [] ∧ F = []
  | .pair a b, x, vs, F => ∃ v1 v2 F1 F2, vs = v1 ++ v2 ∧ F = F1 ++ F2 ∧ Rp w K a x.1 v1 F1 ∧ Rp w K b x.2 v2 F2
  | .sl true e r, xs, vs, F => (xs = [] ∧ F = [] ∧ vs = [.slice none 0 0]) ∨
      ∃ g off c cs fr F', vs = [.slice (some ⟨g, off, none⟩) (List.length xs) c] ∧ F = g :: F' ∧ w.heap[g]? = some (.cells cs e fr) ∧ NFt r fr cs.size ∧
        off + c * r.size ≤ cs.size ∧ List.length xs ≤ c ∧ RpL (Rp w K r) xs ((cs.toList.drop off).take (List.length xs * r.size)) F'
  | .pt t, o, vs, F => F = [] ∧ match o with
    | none => vs = [.pointer none]
    | some x => ∃ ad ws, vs = [.pointer (some ad)] ∧ Rp w K t x ws [] ∧ K ad.block ∧ ad.block < w.heap.size ∧ ∀ j, j < ws.length → w.cell? (ad.add j) = ws[j]?
  | .sl false _ r, xs, vs, F => F = [] ∧ ∃ A c ws, vs = [.slice A (List.length xs) c] ∧ List.length xs ≤ c ∧ RpL (Rp w K r) xs ws [] ∧
      (xs = [] ∨ ∃ ad, A = some ad ∧ K ad.block ∧ ad.block < w.heap.size ∧ ∀ j, j < ws.length → w.cell? (ad.add j) = ws[j]?)
section
variable {α : Type} {p q : α → List Value → List Nat → Prop}
theorem RpL.mono (h : ∀ x vs F, p x vs F → q x vs F) : ∀ {xs : List α} {vs F}, RpL p xs vs F → RpL q xs vs F
  | [], _, _, hx => hx
  | _ :: _, _, _, ⟨v1, v2, F1, F2, e1, e2, h1, h2⟩ => ⟨v1, v2, F1, F2, e1, e2, h _ _ _ h1, RpL.mono h h2⟩
theorem RpL.len {n : Nat} (h : ∀ x vs F, p x vs F → vs.length = n) : ∀ {xs : List α} {vs F}, RpL p xs vs F → vs.length = xs.length * n
  | [], _, _, ⟨e, _⟩ => by subst e; simp
  | x :: xs, _, _, ⟨v1, v2, F1, F2, e1, _, h1, h2⟩ => by
    have a := h _ _ _ h1; have b := RpL.len h h2
    subst e1
    simp only [List.length_append, List.length_cons, a, b, Nat.succ_mul]; omega
theorem RpL.append : ∀ {xs ys : List α} {vs ws F G}, RpL p xs vs F → RpL p ys ws G → RpL p (xs ++ ys) (vs ++ ws) (F ++ G)
  | [], _, _, _, _, _, ⟨e1, e2⟩, h => by subst e1 e2; exact h
  | _ :: _, _, _, _, _, _, ⟨v1, v2, F1, F2, e1, e2, h1, h2⟩, h => by
    subst e1 e2
    exact ⟨v1, _, F1, _, List.append_assoc .., List.append_assoc .., h1, RpL.append h2 h⟩
theorem RpL.split : ∀ {xs ys : List α} {vs F}, RpL p (xs ++ ys) vs F → ∃ v1 v2 F1 F2, vs = v1 ++ v2 ∧ F = F1 ++ F2 ∧ RpL p xs v1 F1 ∧ RpL p ys v2 F2
  | [], _, vs, F, h => ⟨[], vs, [], F, rfl, rfl, ⟨rfl, rfl⟩, h⟩
  | _ :: _, _, _, _, ⟨v1, v2, F1, F2, e1, e2, h1, h2⟩ => by
    obtain ⟨a, b, c, d, e3, e4, h3, h4⟩ := RpL.split h2
    subst e1 e2 e3 e4
    exact ⟨v1 ++ a, b, F1 ++ c, d, (List.append_assoc ..).symm, (List.append_assoc ..).symm, ⟨v1, a, F1, c, rfl, rfl, h1, h3⟩, h4⟩
theorem RpL.get {n : Nat} (hn : ∀ x vs F, p x vs F → vs.length = n) : ∀ {xs : List α} {vs F} {i : Nat} {x : α}, RpL p xs vs F → xs[i]? = some x →
    ∃ v1 v v2 F1 G F2, vs = v1 ++ (v ++ v2) ∧ v1.length = i * n ∧ F = F1 ++ (G ++ F2) ∧ p x v G ∧
      RpL p (xs.take i) v1 F1 ∧ RpL p (xs.drop (i + 1)) v2 F2
  | [], _, _, i, _, _, hi => by simp at hi
  | y :: ys, _, _, 0, x, ⟨v1, v2, F1, F2, e1, e2, h1, h2⟩, hi => by
    simp only [List.getElem?_cons_zero, Option.some.injEq] at hi
    subst hi e1 e2
    exact ⟨[], v1, v2, [], F1, F2, rfl, by simp, rfl, h1, ⟨rfl, rfl⟩, h2⟩
  | y :: ys, _, _, i + 1, x, ⟨v1, v2, F1, F2, e1, e2, h1, h2⟩, hi => by
    simp only [List.getElem?_cons_succ] at hi
    obtain ⟨a, v, b, G1, G, G2, e3, hl, e4, hp, ht, hd⟩ := RpL.get hn h2 hi
    subst e1 e2 e3 e4
    refine ⟨v1 ++ a, v, b, F1 ++ G1, G, G2, by simp, ?_, by simp, hp, ⟨v1, a, F1, G1, rfl, rfl, h1, ht⟩, by simpa using hd⟩
    rw [List.length_append, hn _ _ _ h1, hl, Nat.succ_mul]; omega
theorem RpL.set {xs : List α} {i : Nat} {x y : α} (hi : xs[i]? = some x) {v1 v2 v F1 F2 G} (ht : RpL p (xs.take i) v1 F1) (hd : RpL p (xs.drop (i + 1)) v2 F2) (hy : p y v G) :
    RpL p (xs.set i y) (v1 ++ (v ++ v2)) (F1 ++ (G ++ F2)) := by
  have hlt : i < xs.length := (List.getElem?_eq_some_iff.1 hi).1
  rw [List.set_eq_take_append_cons_drop, if_pos hlt]
  exact RpL.append ht ⟨v, v2, G, F2, rfl, rfl, hy, hd⟩
end
theorem Rp.len {w : World} {K : Nat → Prop} : ∀ (t : Ty) (x : t.D) {vs F}, Rp w K t x vs F → vs.length = t.size
  | .int _, _, _, _, h => by simp only [Rp] at h; simp [h.1, Ty.size]
  | .bool, _, _, _, h => by simp only [Rp] at h; simp [h.1, Ty.size]
  | .er, _, _, _, h => by simp only [Rp] at h; obtain ⟨v, rfl, _⟩ := h; simp [Ty.size]
  | .str, _, _, _, h => by simp only [Rp] at h; simp [h.1, Ty.size]
  | .unit, _, _, _, h => by simp only [Rp] at h; simp [h.1, Ty.size]
  | .pair a b, x, _, _, h => by
    simp only [Rp] at h
    obtain ⟨v1, v2, F1, F2, rfl, _, h1, h2⟩ := h
    simp [Ty.size, Rp.len a _ h1, Rp.len b _ h2]
  | .sl true _ r, _, _, _, h => by
    simp only [Rp] at h
    rcases h with ⟨_, _, rfl⟩ | ⟨g, off, c, cs, fr, F', rfl, _⟩ <;> simp [Ty.size]
  | .sl false _ r, _, _, _, h => by
    simp only [Rp] at h
    obtain ⟨_, A, c, ws, rfl, _⟩ := h
    simp [Ty.size]
  | .pt t, o, _, _, h => by
    simp only [Rp] at h
    cases o with
    | none => simp [h.2, Ty.size]
    | some x => obtain ⟨_, ad, ws, rfl, _⟩ := h; simp [Ty.size]
def Same (w w' : World) (F : List Nat) : Prop := ∀ g ∈ F, w'.heap[g]? = w.heap[g]?
def KSame (w w' : World) (K K' : Nat → Prop) : Prop := w.heap.size ≤ w'.heap.size ∧ ∀ g, K g → g < w.heap.size → w'.heap[g]? = w.heap[g]? ∧ K' g
theorem KSame.refl (w : World) (K : Nat → Prop) : KSame w w K K := ⟨Nat.le_refl _, fun _ h _ => ⟨rfl, h⟩⟩
theorem cell_same {w w' : World} {a : Addr} (h : w'.heap[a.block]? = w.heap[a.block]?) : w'.cell? a = w.cell? a := by
  unfold World.cell?; rw [h]
theorem add_block (a : Addr) (n : Nat) : (a.add n).block = a.block := by unfold Addr.add; split <;> rfl
theorem Rp.frame {w w' : World} {K K' : Nat → Prop} (hK : KSame w w' K K') : ∀ (t : Ty) (x : t.D) {vs F}, Rp w K t x vs F → Same w w' F → Rp w' K' t x vs F
  | .int _, _, _, _, h, _ => by simp only [Rp] at h ⊢; exact h
  | .bool, _, _, _, h, _ => by simp only [Rp] at h ⊢; exact h
  | .er, _, _, _, h, _ => by simp only [Rp] at h ⊢; exact h
  | .str, _, _, _, h, _ => by simp only [Rp] at h ⊢; exact h
  | .unit, _, _, _, h, _ => by simp only [Rp] at h ⊢; exact h
  | .pair a b, x, _, _, h, hF => by
    simp only [Rp] at h ⊢
    obtain ⟨v1, v2, F1, F2, rfl, rfl, h1, h2⟩ := h
    exact ⟨v1, v2, F1, F2, rfl, rfl, Rp.frame hK a _ h1 fun g hg => hF g (by simp [hg]), Rp.frame hK b _ h2 fun g hg => hF g (by simp [hg])⟩
  | .sl true _ r, xs, _, _, h, hF => by
    simp only [Rp] at h ⊢
    rcases h with h | ⟨g, off, c, cs, fr, F', rfl, rfl, hh, hn, hc, hl, hr⟩
    · exact .inl h
    · refine .inr ⟨g, off, c, cs, fr, F', rfl, rfl, by rw [hF g (by simp)]; exact hh, hn, hc, hl, ?_⟩
      have key : ∀ (ys : List r.D) (us : List Value) (G : List Nat), Same w w' G → RpL (Rp w K r) ys us G → RpL (Rp w' K' r) ys us G := by
        intro ys
        induction ys with
        | nil => intro us G _ h; exact h
        | cons y ys ih =>
          rintro us G hG ⟨v1, v2, F1, F2, rfl, rfl, h1, h2⟩
          exact ⟨v1, v2, F1, F2, rfl, rfl, Rp.frame hK r y h1 fun g hg => hG g (by simp [hg]), ih _ _ (fun g hg => hG g (by simp [hg])) h2⟩
      exact key _ _ _ (fun g hg => hF g (by simp [hg])) hr
  | .sl false _ r, xs, _, _, h, _ => by
    simp only [Rp] at h ⊢
    obtain ⟨rfl, A, c, ws, rfl, hle, hr, hx⟩ := h
    refine ⟨rfl, A, c, ws, rfl, hle, ?_, ?_⟩
    · have key : ∀ (ys : List r.D) (us : List Value) (G : List Nat), Same w w' G → RpL (Rp w K r) ys us G → RpL (Rp w' K' r) ys us G := by
        intro ys
        induction ys with
        | nil => intro us G _ h; exact h
        | cons y ys ih =>
          rintro us G hG ⟨v1, v2, F1, F2, rfl, rfl, h1, h2⟩
          exact ⟨v1, v2, F1, F2, rfl, rfl, Rp.frame hK r y h1 fun g hg => hG g (by simp [hg]), ih _ _ (fun g hg => hG g (by simp [hg])) h2⟩
      exact key _ _ _ (fun g hg => by cases hg) hr
    · rcases hx with hx | ⟨ad, e, h1, h2, h3⟩
      · exact .inl hx
      · obtain ⟨h4, h5⟩ := hK.2 _ h1 h2
        exact .inr ⟨ad, e, h5, Nat.lt_of_lt_of_le h2 hK.1, fun j hj => (cell_same (w := w) (w' := w') (a := ad.add j) (by rw [add_block]; exact h4)).trans (h3 j hj)⟩
  | .pt t, o, _, _, h, _ => by
    simp only [Rp] at h ⊢
    refine ⟨h.1, ?_⟩
    cases o with
    | none => exact h.2
    | some x =>
      obtain ⟨ad, ws, e, h0, h1, h2, h3⟩ := h.2
      obtain ⟨h4, h5⟩ := hK.2 _ h1 h2
      exact ⟨ad, ws, e, Rp.frame hK t x h0 (fun g hg => by cases hg), h5, Nat.lt_of_lt_of_le h2 hK.1, fun j hj => (cell_same (w := w) (w' := w') (a := ad.add j) (by rw [add_block]; exact h4)).trans (h3 j hj)⟩
theorem RpL.frame {w w' : World} {K K' : Nat → Prop} (hK : KSame w w' K K') (r : Ty) : ∀ (ys : List r.D) (us : List Value) (G : List Nat), Same w w' G → RpL (Rp w K r) ys us G → RpL (Rp w' K' r) ys us G := by
  intro ys
  induction ys with
  | nil => intro us G _ h; exact h
  | cons y ys ih =>
    rintro us G hG ⟨v1, v2, F1, F2, rfl, rfl, h1, h2⟩
    exact ⟨v1, v2, F1, F2, rfl, rfl, Rp.frame hK r y h1 fun g hg => hG g (by simp [hg]), ih _ _ (fun g hg => hG g (by simp [hg])) h2⟩
theorem leaf_cell {w : World} {K : Nat → Prop} {t : Ty} {x : t.D} {vs F} (hs : t.size = 1) (h : Rp w K t x vs F) : ∃ v, vs = [v] := by
  have := Rp.len t x h
  rw [hs] at this
  match vs, this with
  | [v], _ => exact ⟨v, rfl⟩
theorem setCell_leaf {t : Ty} {x z : t.D} (hp : ∀ a b, t ≠ .pair a b) (hu : t ≠ .unit) {u : Ty} {zz : u.D} {y : t.D} (h : setCell t x 0 u zz = some y) : ∃ e : u = t, y = e ▸ zz := by
  cases t with
  | pair a b => exact absurd rfl (hp a b)
  | unit => exact absurd rfl hu
  | _ => simp only [setCell] at h; split at h <;> simp_all
theorem Rp.cell {w : World} {K : Nat → Prop} : ∀ (t : Ty) (x : t.D) (j : Nat) {c : (u : Ty) × u.D} {vs F}, Rp w K t x vs F → cellAt t x j = some c →
    ∃ pre v post Fa G Fb, vs = pre ++ ([v] ++ post) ∧ pre.length = j ∧ F = Fa ++ (G ++ Fb) ∧ Rp w K c.1 c.2 [v] G ∧
      ∀ (w' : World) (K' : Nat → Prop) (y : c.1.D) (v' : Value) (G' : List Nat) (x' : t.D), setCell t x j c.1 y = some x' → Rp w' K' c.1 y [v'] G' → KSame w w' K K' →
        Same w w' Fa → Same w w' Fb → Rp w' K' t x' (pre ++ ([v'] ++ post)) (Fa ++ (G' ++ Fb))
  | .pair a b, (x, y), j, c, vs, F, h, hc => by
    simp only [Rp] at h
    obtain ⟨v1, v2, F1, F2, rfl, rfl, h1, h2⟩ := h
    have l1 := Rp.len a _ h1
    simp only [cellAt] at hc
    split at hc
    · rename_i hj
      obtain ⟨pre, v, post, Fa, G, Fb, rfl, hl, rfl, hv, hset⟩ := Rp.cell a x j h1 hc
      refine ⟨pre, v, post ++ v2, Fa, G, Fb ++ F2, by simp, hl, by simp, hv, ?_⟩
      intro w' K' z v' G' x' hs hz hK sa sb
      simp only [setCell, if_pos hj, Option.map_eq_some_iff] at hs
      obtain ⟨xa, hxa, rfl⟩ := hs
      simp only [Rp]
      refine ⟨pre ++ ([v'] ++ post), v2, Fa ++ (G' ++ Fb), F2, by simp, by simp, hset w' K' z v' G' xa hxa hz hK sa (fun g hg => sb g (by simp [hg])), ?_⟩
      exact Rp.frame hK b _ h2 fun g hg => sb g (by simp [hg])
    · rename_i hj
      obtain ⟨pre, v, post, Fa, G, Fb, rfl, hl, rfl, hv, hset⟩ := Rp.cell b y _ h2 hc
      refine ⟨v1 ++ pre, v, post, F1 ++ Fa, G, Fb, by simp, by rw [List.length_append]; omega, by simp, hv, ?_⟩
      intro w' K' z v' G' x' hs hz hK sa sb
      simp only [setCell, if_neg hj, Option.map_eq_some_iff] at hs
      obtain ⟨xb, hxb, rfl⟩ := hs
      simp only [Rp]
      refine ⟨v1, pre ++ ([v'] ++ post), F1, Fa ++ (G' ++ Fb), by simp, by simp, ?_, hset w' K' z v' G' xb hxb hz hK (fun g hg => sa g (by simp [hg])) sb⟩
      exact Rp.frame hK a _ h1 fun g hg => sa g (by simp [hg])
  | .unit, _, _, _, _, _, _, hc => by simp [cellAt] at hc
  | .int k, x, j, c, vs, F, h, hc => leafCase (fun _ _ => by simp) (by simp) rfl h hc (by cases j <;> simp [cellAt] at hc ⊢)
  | .bool, x, j, c, vs, F, h, hc => leafCase (fun _ _ => by simp) (by simp) rfl h hc (by cases j <;> simp [cellAt] at hc ⊢)
  | .er, x, j, c, vs, F, h, hc => leafCase (fun _ _ => by simp) (by simp) rfl h hc (by cases j <;> simp [cellAt] at hc ⊢)
  | .pt t, x, j, c, vs, F, h, hc => leafCase (fun _ _ => by simp) (by simp) rfl h hc (by cases j <;> simp [cellAt] at hc ⊢)
  | .str, x, j, c, vs, F, h, hc => leafCase (fun _ _ => by simp) (by simp) rfl h hc (by cases j <;> simp [cellAt] at hc ⊢)
  | .sl o e r, x, j, c, vs, F, h, hc => leafCase (fun _ _ => by simp) (by simp) rfl h hc (by cases j <;> simp [cellAt] at hc ⊢)
where
  leafCase {w : World} {K : Nat → Prop} {t : Ty} {x : t.D} {j : Nat} {c : (u : Ty) × u.D} {vs F} (hp : ∀ a b, t ≠ .pair a b) (hu : t ≠ .unit) (hs : t.size = 1)
      (h : Rp w K t x vs F) (hc : cellAt t x j = some c) (hj : j = 0) :
      ∃ pre v post Fa G Fb, vs = pre ++ ([v] ++ post) ∧ pre.length = j ∧ F = Fa ++ (G ++ Fb) ∧ Rp w K c.1 c.2 [v] G ∧
        ∀ (w' : World) (K' : Nat → Prop) (y : c.1.D) (v' : Value) (G' : List Nat) (x' : t.D), setCell t x j c.1 y = some x' → Rp w' K' c.1 y [v'] G' → KSame w w' K K' →
          Same w w' Fa → Same w w' Fb → Rp w' K' t x' (pre ++ ([v'] ++ post)) (Fa ++ (G' ++ Fb)) := by
    subst hj
    have hct : c = ⟨t, x⟩ := by
      cases t with
      | pair a b => exact absurd rfl (hp a b)
      | unit => exact absurd rfl hu
      | _ => simp only [cellAt, Option.some.injEq] at hc; exact hc.symm
    subst hct
    obtain ⟨v, rfl⟩ := leaf_cell hs h
    refine ⟨[], v, [], [], F, [], by simp, rfl, by simp, h, ?_⟩
    intro w' K' y v' G' x' hset hy _ _ _
    obtain ⟨e, rfl⟩ := setCell_leaf (z := x) hp hu hset
    simpa using hy
def adr (w : World) (h : Value) : Ty → Steps → Option Addr
  | .sl _ _ r, (i, j) :: ps => match h with
    | .slice (some a) _ _ => match ps with
      | [] => some (a.add (i * r.size + j))
      | p :: ps => match w.cell? (a.add (i * r.size + j)), cty r j with
        | some h', some t' => adr w h' t' (p :: ps)
        | _, _ => none
    | _ => none
  | _, _ => none
where
  cty : Ty → Nat → Option Ty
    | .pair a b, j => if j < a.size then cty a j else cty b (j - a.size)
    | .unit, _ => none
    | t, 0 => some t
    | _, _ + 1 => none
def hdr (w : World) (h : Value) (t : Ty) : Steps → Option Value
  | [] => some h
  | st => match adr w h t st with
    | some a => w.cell? a
    | none => none
theorem cty_cell : ∀ (t : Ty) (x : t.D) (j : Nat) {c}, cellAt t x j = some c → adr.cty t j = some c.1
  | .pair a b, (x, y), j, c, h => by
    simp only [cellAt] at h; simp only [adr.cty]
    split at h
    · rename_i hj; rw [if_pos hj]; exact cty_cell a x j h
    · rename_i hj; rw [if_neg hj]; exact cty_cell b y _ h
  | .unit, _, _, _, h => by simp [cellAt] at h
  | .int _, _, 0, _, h => by simp only [cellAt, Option.some.injEq] at h; subst h; rfl
  | .bool, _, 0, _, h => by simp only [cellAt, Option.some.injEq] at h; subst h; rfl
  | .er, _, 0, _, h => by simp only [cellAt, Option.some.injEq] at h; subst h; rfl
  | .str, _, 0, _, h => by simp only [cellAt, Option.some.injEq] at h; subst h; rfl
  | .pt _, _, 0, _, h => by simp only [cellAt, Option.some.injEq] at h; subst h; rfl
  | .sl _ _ _, _, 0, _, h => by simp only [cellAt, Option.some.injEq] at h; subst h; rfl
  | .int _, _, _ + 1, _, h => by simp [cellAt] at h
  | .bool, _, _ + 1, _, h => by simp [cellAt] at h
  | .er, _, _ + 1, _, h => by simp [cellAt] at h
  | .str, _, _ + 1, _, h => by simp [cellAt] at h
  | .pt _, _, _ + 1, _, h => by simp [cellAt] at h
  | .sl _ _ _, _, _ + 1, _, h => by simp [cellAt] at h
theorem run_get {α β : Type} (o : Option β) (f : β → Tr α) : (Tr.get β o f).run = o.bind fun b => (f b).run := by cases o <;> rfl
theorem run_bind {α β : Type} (t : Tr α) (f : α → Tr β) : (t.bind f).run = t.run.bind fun x => (f x).run := by
  induction t with
  | ret a => rfl
  | fail => rfl
  | br c t e ih1 ih2 => simp only [Tr.bind, Tr.run]; split <;> assumption
  | get γ o g ih => cases o <;> simp [Tr.bind, Tr.run, ih]
  | alt γ δ s g h ih1 ih2 => cases s <;> simp [Tr.bind, Tr.run, ih1, ih2]
  | rdO k g ih => rfl
  | rdC k off g ih => rfl
  | rdM k g ih => rfl
theorem take_drop_mid {α : Type} (cs : List α) (off n : Nat) (a v b : List α) (h : (cs.drop off).take n = a ++ (v ++ b)) (j : Nat) (hj : j < v.length) : cs[off + a.length + j]? = v[j]? := by
  have h1 : ((cs.drop off).take n)[a.length + j]? = v[j]? := by
    rw [h, List.getElem?_append_right (by omega), List.getElem?_append_left (by omega)]
    congr 1; omega
  rw [← h1, List.getElem?_take, List.getElem?_drop]
  have : a.length + j < n := by
    have := congrArg List.length h
    simp only [List.length_take, List.length_append] at this
    have h3 : (cs.drop off).length = cs.length - off := List.length_drop ..
    rcases Nat.lt_or_ge (a.length + j) n with h4 | h4
    · exact h4
    · omega
  rw [if_pos this]; congr 1; omega
theorem Rp.elem {w : World} {K : Nat → Prop} {e : TypeId} {r : Ty} {xs : List r.D} {h : Value} {F : List Nat} (hp : Rp w K (.sl true e r) xs [h] F) {i j : Nat} {row : r.D} {c : (u : Ty) × u.D}
    (hi : xs[i]? = some row) (hc : cellAt r row j = some c) :
    ∃ (g off cap : Nat) (cs : Array Value) (fr : Nat × Nat) (v : Value) (F1 Fa G Fb F2 : List Nat), h = .slice (some ⟨g, off, none⟩) xs.length cap ∧ F = g :: (F1 ++ ((Fa ++ (G ++ Fb)) ++ F2)) ∧ w.heap[g]? = some (.cells cs e fr) ∧ NFt r fr cs.size ∧
      off + cap * r.size ≤ cs.size ∧ xs.length ≤ cap ∧
      cs[off + (i * r.size + j)]? = some v ∧ off + (i * r.size + j) < cs.size ∧ Rp w K c.1 c.2 [v] G ∧
      ∀ (w' : World) (K' : Nat → Prop) (y : c.1.D) (v' : Value) (G' : List Nat) (row' : r.D) (cs' : Array Value), setCell r row j c.1 y = some row' → Rp w' K' c.1 y [v'] G' → KSame w w' K K' →
        w'.heap[g]? = some (.cells cs' e fr) → cs' = cs.setIfInBounds (off + (i * r.size + j)) v' → Same w w' F1 → Same w w' Fa → Same w w' Fb → Same w w' F2 →
        Rp w' K' (.sl true e r) (xs.set i row') [h] (g :: (F1 ++ ((Fa ++ (G' ++ Fb)) ++ F2))) := by
  simp only [Rp] at hp
  rcases hp with ⟨rfl, _⟩ | ⟨g, off, cap, cs, fr, F', hh, rfl, hg, hn, hoff, hlen, hr⟩
  · simp at hi
  obtain ⟨v1, v, v2, F1, G0, F2, hw, hl, rfl, hrow, ht, hd⟩ := RpL.get (fun x vs F h => Rp.len r x h) hr hi
  obtain ⟨pre, u, post, Fa, G, Fb, rfl, hpl, rfl, hu, hset⟩ := Rp.cell r row j hrow hc
  have hcell : cs[off + (i * r.size + j)]? = some u := by
    have := take_drop_mid cs.toList off _ v1 (pre ++ ([u] ++ post)) v2 hw pre.length (by simp)
    rw [List.getElem?_append_right (by omega)] at this
    simp only [Nat.sub_self, List.cons_append, List.nil_append, List.getElem?_cons_zero] at this
    rw [hl, hpl] at this
    rw [← Array.getElem?_toList, ← this]; congr 1; omega
  have hlt : off + (i * r.size + j) < cs.size := (Array.getElem?_eq_some_iff.1 hcell).1
  have hil : i < xs.length := (List.getElem?_eq_some_iff.1 hi).1
  injection hh with hh _
  refine ⟨g, off, cap, cs, fr, u, F1, Fa, G, Fb, F2, hh, rfl, hg, hn, hoff, hlen, hcell, hlt, hu, ?_⟩
  intro w' K' y v' G' row' cs' hs hy hK hg' hcs s1 sa sb s2
  subst hcs
  simp only [Rp]
  refine .inr ⟨g, off, cap, _, fr, _, by rw [List.length_set, hh], rfl, hg', by simpa using hn, by simpa using hoff, by simpa using hlen, ?_⟩
  have hnew := RpL.set hi (RpL.frame hK r _ _ _ s1 ht) (RpL.frame hK r _ _ _ s2 hd) (hset w' K' y v' G' row' hs hy hK sa sb)
  rw [List.length_set]
  have : ((cs.setIfInBounds (off + (i * r.size + j)) v').toList.drop off).take (xs.length * r.size) = v1 ++ ((pre ++ ([v'] ++ post)) ++ v2) := by
    rw [Array.toList_setIfInBounds, List.drop_set, if_neg (by omega), List.take_set, hw]
    have h1 : v1 ++ ((pre ++ ([u] ++ post)) ++ v2) = (v1 ++ pre) ++ u :: (post ++ v2) := by simp
    have h2 : v1 ++ ((pre ++ ([v'] ++ post)) ++ v2) = (v1 ++ pre) ++ v' :: (post ++ v2) := by simp
    rw [h1, h2, List.set_append_right _ _ (by rw [List.length_append]; omega)]
    have h3 : off + (i * r.size + j) - off - (v1 ++ pre).length = 0 := by rw [List.length_append]; omega
    rw [h3]; rfl
  rw [this]
  exact hnew
theorem getT_run_cons {e : TypeId} {r : Ty} {xs : List r.D} {i j : Nat} {ps : Steps} {c : (u : Ty) × u.D} (h : (getT (.sl true e r) xs ((i, j) :: ps)).run = some c) :
    ∃ row d, xs[i]? = some row ∧ cellAt r row j = some d ∧ (getT d.1 d.2 ps).run = some c := by
  simp only [getT, run_get, Option.bind_eq_some_iff] at h
  obtain ⟨row, hrow, h⟩ := h
  split at h
  · rename_i d hd; exact ⟨row, d, hrow, hd, h⟩
  · simp [Tr.run] at h
theorem nodup_mid {g : Nat} {F1 Fa G Fb F2 : List Nat} (hnd : (g :: (F1 ++ ((Fa ++ (G ++ Fb)) ++ F2))).Nodup) : G.Nodup := by
  rw [List.nodup_cons] at hnd
  have h1 := hnd.2
  rw [List.nodup_append] at h1
  have h2 := h1.2.1
  rw [List.nodup_append] at h2
  have h3 := h2.1
  rw [List.nodup_append] at h3
  have h4 := h3.2.1
  rw [List.nodup_append] at h4
  exact h4.1
theorem Rp.reach {w : World} {K : Nat → Prop} : ∀ (st : Steps) (t : Ty) (x : t.D) {h : Value} {F : List Nat} {c : (u : Ty) × u.D}, Rp w K t x [h] F → (getT t x st).run = some c →
    ∃ h' F', hdr w h t st = some h' ∧ Rp w K c.1 c.2 [h'] F' ∧ (∀ g ∈ F', g ∈ F) ∧ (F.Nodup → F'.Nodup) ∧ (st ≠ [] → ∃ a, adr w h t st = some a ∧ w.cell? a = some h' ∧ a.block ∈ F ∧ a.spot = none ∧ w.frozen? a = false)
  | [], t, x, h, F, c, hp, hg => by
    simp only [getT, Tr.run, Option.some.injEq] at hg
    subst hg
    exact ⟨h, F, rfl, hp, fun _ hg => hg, fun h => h, fun hne => absurd rfl hne⟩
  | (i, j) :: ps, t, x, h, F, c, hp, hg => by
    match t, x, hp, hg with
    | .sl true e r, xs, hp, hg =>
      obtain ⟨row, d, hrow, hd, hrest⟩ := getT_run_cons hg
      obtain ⟨g, off, cap, cs, fr, v, F1, Fa, G, Fb, F2, rfl, rfl, hh, hn, _, _, hcell, hlt, hv, _⟩ := Rp.elem hp hrow hd
      have hc? : w.cell? ⟨g, off + (i * r.size + j), none⟩ = some v := by rw [cell_blk hh]; exact hcell
      obtain ⟨h', F', hhd, hp', hsub, hnod, hne⟩ := Rp.reach ps d.1 d.2 hv hrest
      refine ⟨h', F', ?_, hp', ?_, fun hx => hnod (nodup_mid hx), ?_⟩
      · cases ps with
        | nil =>
          simp only [hdr, Option.some.injEq] at hhd
          subst hhd
          simp only [hdr, adr, add_blk]; exact hc?
        | cons p ps =>
          simp only [hdr, adr, add_blk, hc?, cty_cell r row j hd]
          simpa only [hdr] using hhd
      · intro b hb
        have := hsub b hb
        simp [*]
      · intro _
        cases ps with
        | nil =>
          simp only [hdr, Option.some.injEq] at hhd
          subst hhd
          exact ⟨⟨g, off + (i * r.size + j), none⟩, by simp only [adr, add_blk], hc?, by simp, rfl, frozen_blk hh hn.nf hlt⟩
        | cons p ps =>
          obtain ⟨a, ha, h1, h2, h3, h4⟩ := hne (by simp)
          refine ⟨a, by simp only [adr, add_blk, hc?, cty_cell r row j hd]; exact ha, h1, ?_, h3, h4⟩
          simp [*]
    | .sl false _ _, _, _, hg => simp [getT, Tr.run] at hg
    | .int _, _, _, hg => simp [getT, Tr.run] at hg
    | .bool, _, _, hg => simp [getT, Tr.run] at hg
    | .er, _, _, hg => simp [getT, Tr.run] at hg
    | .str, _, _, hg => simp [getT, Tr.run] at hg
    | .unit, _, _, hg => simp [getT, Tr.run] at hg
    | .pair _ _, _, _, hg => simp [getT, Tr.run] at hg
theorem adr_one {w w' : World} {h : Value} {t : Ty} {p : Nat × Nat} : adr w' h t [p] = adr w h t [p] := by
  cases t with
  | sl o e r =>
    cases h with
    | slice A _ _ => cases A <;> rfl
    | _ => rfl
  | _ => rfl
theorem Rp.put {w : World} {K : Nat → Prop} : ∀ (st : Steps) (t : Ty) (x : t.D) {h : Value} {F : List Nat} {c : (u : Ty) × u.D} {z : c.1.D} {y : t.D}, st ≠ [] → Rp w K t x [h] F → F.Nodup → (getT t x st).run = some c → (setT t x st c.1 z).run = some y →
    ∃ a h' Fa G Fb, adr w h t st = some a ∧ w.cell? a = some h' ∧ a.spot = none ∧ F = Fa ++ (G ++ Fb) ∧ a.block ∈ Fa ∧ Rp w K c.1 c.2 [h'] G ∧ w.frozen? a = false ∧
      ∀ (w' : World) (K' : Nat → Prop) (v' : Value) (G' : List Nat), Rp w' K' c.1 z [v'] G' → KSame w w' K K' → w'.heap[a.block]? = (w.setCell a v').heap[a.block]? →
        (∀ g ∈ Fa ++ Fb, g ≠ a.block → w'.heap[g]? = w.heap[g]?) → Rp w' K' t y [h] (Fa ++ (G' ++ Fb)) ∧ ∀ n, adr w' h t (bump st n) = adr w h t (bump st n)
  | [], _, _, _, _, _, _, _, hne, _, _, _, _ => absurd rfl hne
  | (i, j) :: ps, t, x, h, F, c, z, y, _, hp, hnd, hg, hs => by
    match t, x, y, hp, hg, hs with
    | .sl true e r, xs, y, hp, hg, hs =>
      obtain ⟨row, d, hrow, hd, hrest⟩ := getT_run_cons hg
      have hs' : ∃ yy row', (setT d.1 d.2 ps c.1 z).run = some yy ∧ setCell r row j d.1 yy = some row' ∧ y = (xs : List r.D).set i row' := by
        simp only [setT, run_get, Option.bind_eq_some_iff] at hs
        obtain ⟨row2, hrow2, hs⟩ := hs
        obtain rfl : row = row2 := by rw [hrow] at hrow2; injection hrow2
        rw [hd] at hs
        simp only [run_bind, Option.bind_eq_some_iff] at hs
        obtain ⟨yy, h1, hs⟩ := hs
        split at hs
        · rename_i row' hr; simp only [Tr.run, Option.some.injEq] at hs; exact ⟨yy, row', h1, hr, hs.symm⟩
        · simp [Tr.run] at hs
      obtain ⟨yy, row', hsy, hset, rfl⟩ := hs'
      obtain ⟨g, off, cap, cs, fr, v, F1, Fa, G, Fb, F2, rfl, rfl, hh, hn, hcap, hlen, hcell, hlt, hv, hput⟩ := Rp.elem hp hrow hd
      have hc? : w.cell? ⟨g, off + (i * r.size + j), none⟩ = some v := by rw [cell_blk hh]; exact hcell
      cases ps with
      | nil =>
        simp only [getT, Tr.run, Option.some.injEq] at hrest
        subst hrest
        simp only [setT] at hsy
        split at hsy
        · simp only [Tr.run, Option.some.injEq] at hsy
          subst hsy
          refine ⟨⟨g, off + (i * r.size + j), none⟩, v, g :: (F1 ++ Fa), G, Fb ++ F2, by simp only [adr, add_blk], hc?, rfl, by simp, by simp, hv, frozen_blk hh hn.nf hlt, ?_⟩
          intro w' K' v' G' hz hK hblk hrest
          have hnd' : ∀ b, b ∈ F1 ∨ b ∈ Fa ∨ b ∈ Fb ∨ b ∈ F2 → b ≠ g := by
            rintro b hb rfl
            rw [List.nodup_cons] at hnd
            apply hnd.1
            simp only [List.mem_append]
            rcases hb with hb | hb | hb | hb <;> simp [hb]
          have hnew : w'.heap[g]? = some (.cells (cs.setIfInBounds (off + (i * r.size + j)) v') e fr) := by
            rw [hblk]; exact setCell_blk hh _ _
          have := hput w' K' z v' G' row' _ hset hz hK hnew rfl (fun b hb => hrest b (by simp [hb]) (hnd' b (by simp [hb]))) (fun b hb => hrest b (by simp [hb]) (hnd' b (by simp [hb])))
            (fun b hb => hrest b (by simp [hb]) (hnd' b (by simp [hb]))) (fun b hb => hrest b (by simp [hb]) (hnd' b (by simp [hb])))
          exact ⟨by simpa using this, fun n => adr_one⟩
        · simp [Tr.run] at hsy
      | cons p ps =>
        have hndG : G.Nodup := nodup_mid hnd
        obtain ⟨a, h', Ga, G0, Gb, ha, h1, h2, rfl, hain, hG0, h4, hset2⟩ := Rp.put (p :: ps) d.1 d.2 (by simp) hv hndG hrest hsy
        have hag : a.block ≠ g := by
          rintro rfl
          rw [List.nodup_cons] at hnd
          apply hnd.1
          simp [hain]
        have hout : ∀ b, b ∈ F1 ∨ b ∈ Fa ∨ b ∈ Fb ∨ b ∈ F2 → b ≠ a.block := by
          rintro b hb rfl
          rw [List.nodup_cons] at hnd
          have hn2 := hnd.2
          have hA : ∀ (X Y : List Nat), (X ++ Y).Nodup → ∀ q, q ∈ X → q ∈ Y → False := fun X Y hXY q hX hY => (List.nodup_append.1 hXY).2.2 q hX q hY rfl
          rcases hb with hb | hb | hb | hb
          · exact hA F1 _ hn2 a.block hb (by simp [hain])
          · have h5 := (List.nodup_append.1 hn2).2.1
            have h6 := (List.nodup_append.1 h5).1
            exact hA Fa _ h6 a.block hb (by simp [hain])
          · have h5 := (List.nodup_append.1 hn2).2.1
            have h6 := (List.nodup_append.1 h5).1
            have h7 := (List.nodup_append.1 h6).2.1
            exact hA _ Fb h7 a.block (by simp [hain]) hb
          · have h5 := (List.nodup_append.1 hn2).2.1
            exact hA _ F2 h5 a.block (by simp [hain]) hb
        refine ⟨a, h', g :: (F1 ++ (Fa ++ Ga)), G0, Gb ++ (Fb ++ F2), by simp only [adr, add_blk, hc?, cty_cell r row j hd]; exact ha, h1, h2, by simp, by simp [hain], hG0, h4, ?_⟩
        intro w' K' v' G' hz hK hblk hrest2
        obtain ⟨hinner, hadr⟩ := hset2 w' K' v' G' hz hK hblk (fun b hb hne => hrest2 b (by simp only [List.mem_append, List.mem_cons] at hb ⊢; rcases hb with hb | hb <;> simp [hb]) hne)
        have hgs : w'.heap[g]? = some (.cells cs e fr) := by rw [hrest2 g (by simp) (Ne.symm hag)]; exact hh
        have hsame : cs = cs.setIfInBounds (off + (i * r.size + j)) v := by
          apply Array.ext_getElem?
          intro m
          rw [Array.getElem?_setIfInBounds]
          split
          · subst_vars; first | exact hcell | (rw [if_pos hlt]; exact hcell)
          · rfl
        have := hput w' K' yy v (Ga ++ (G' ++ Gb)) row' cs hset hinner hK hgs hsame (fun b hb => hrest2 b (by simp [hb]) (hout b (by simp [hb]))) (fun b hb => hrest2 b (by simp [hb]) (hout b (by simp [hb])))
            (fun b hb => hrest2 b (by simp [hb]) (hout b (by simp [hb]))) (fun b hb => hrest2 b (by simp [hb]) (hout b (by simp [hb])))
        refine ⟨by simpa using this, fun n => ?_⟩
        have hc2 : w'.cell? ⟨g, off + (i * r.size + j), none⟩ = some v := by rw [cell_blk hgs]; exact hcell
        have hb : bump ((i, j) :: p :: ps) n = (i, j) :: bump (p :: ps) n := rfl
        obtain ⟨q', ps', hq⟩ : ∃ q' ps', bump (p :: ps) n = q' :: ps' := by
          cases ps with
          | nil => obtain ⟨x, y⟩ := p; exact ⟨_, _, rfl⟩
          | cons q2 ps => exact ⟨_, _, rfl⟩
        have := hadr n
        rw [hb]
        rw [hq] at this ⊢
        simp only [adr, add_blk, hc?, hc2, cty_cell r row j hd]
        exact this
    | .sl false _ _, _, _, _, hg, _ => simp [getT, Tr.run] at hg
    | .int _, _, _, _, hg, _ => simp [getT, Tr.run] at hg
    | .bool, _, _, _, hg, _ => simp [getT, Tr.run] at hg
    | .er, _, _, _, hg, _ => simp [getT, Tr.run] at hg
    | .str, _, _, _, hg, _ => simp [getT, Tr.run] at hg
    | .unit, _, _, _, hg, _ => simp [getT, Tr.run] at hg
    | .pair _ _, _, _, _, hg, _ => simp [getT, Tr.run] at hg
end Go.V

namespace Go.V
def glo : Nat → Prop := fun g => g < 4
def cellsAt? (w : World) (g : Nat) : Option (Array Value) := match (w.heap[g]? : Option Obj) with | some (.cells cs _ _) => some cs | _ => none
structure GlF (w : World) : Prop where
  pow : cellsAt? w 3 = some (Lib.pow10Tab.map fun z => Value.int .u64 z).toArray
  len : ∃ m, w.cell? ⟨0, 0, none⟩ = some (.int .i64 m)
  syn : ∃ te pe, cellsAt? w 1 = some #[.iface te pe]
  ran : ∃ te pe, cellsAt? w 2 = some #[.iface te pe]
theorem cellsAt_lt {w : World} {g : Nat} {cs : Array Value} (h : cellsAt? w g = some cs) : g < w.heap.size := by
  unfold cellsAt? at h
  cases hc : w.heap[g]? with
  | none => rw [hc] at h; cases h
  | some o => exact (Array.getElem?_eq_some_iff.1 hc).1
theorem glo_lt {w : World} (h : GlF w) {g : Nat} (hg : glo g) : g < w.heap.size := by
  have := cellsAt_lt h.pow
  unfold glo at hg
  omega
theorem GlF_frame {w w' : World} (h : GlF w) (hs : ∀ g, glo g → w'.heap[g]? = w.heap[g]?) : GlF w' := by
  have e : ∀ g, g < 4 → cellsAt? w' g = cellsAt? w g := fun g hg => by unfold cellsAt?; rw [hs g hg]
  exact ⟨by rw [e 3 (by decide)]; exact h.pow, by unfold World.cell?; rw [show w'.heap[(⟨0, 0, none⟩ : Addr).block]? = w.heap[(⟨0, 0, none⟩ : Addr).block]? from hs 0 (by show 0 < 4; decide)]; exact h.len, by rw [e 1 (by decide)]; exact h.syn, by rw [e 2 (by decide)]; exact h.ran⟩
end Go.V
