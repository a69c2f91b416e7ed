import GoSem.Dispatch
import Derived.Calls
import Derived.IntWalk
namespace Go.V
inductive Ty where
  | int (k : IntKind) | bool | str | unit
  | pair (a b : Ty)
  | sl (o : Bool) (e : TypeId) (r : Ty)
  deriving DecidableEq
@[reducible] def Ty.D : Ty → Type
  | .int _ => Int
  | .bool => Bool
  | .str => List UInt8
  | .unit => Unit
  | .pair a b => a.D × b.D
  | .sl _ _ r => List r.D
def Ty.size : Ty → Nat
  | .unit => 0
  | .pair a b => a.size + b.size
  | _ => 1
def Ty.zero : (t : Ty) → t.D
  | .int _ => (0 : Int)
  | .bool => false
  | .str => ([] : List UInt8)
  | .unit => ()
  | .pair a b => (a.zero, b.zero)
  | .sl _ _ _ => []
def Ty.ro : Ty → Bool
  | .pair a b => a.ro && b.ro
  | .sl o _ _ => !o
  | _ => true
def Ty.deep : Ty → Bool
  | .pair a b => a.deep && b.deep
  | .sl o _ r => o && r.deep
  | _ => true
def Ty.frz : Ty → Ty
  | .pair a b => .pair a.frz b.frz
  | .sl _ e r => .sl false e r.frz
  | t => t
theorem Ty.frz_D : (t : Ty) → t.frz.D = t.D
  | .int _ | .bool | .str | .unit => rfl
  | .pair a b => by
    have h1 := frz_D a; have h2 := frz_D b
    show (a.frz.D × b.frz.D) = (a.D × b.D)
    rw [h1, h2]
  | .sl _ _ r => by
    have h := frz_D r
    show List r.frz.D = List r.D
    rw [h]
def toFrz (t : Ty) (x : t.D) : t.frz.D := cast (Ty.frz_D t).symm x
def cellAt : (t : Ty) → t.D → Nat → Option ((u : Ty) × u.D)
  | .pair a b, (x, y), j => if j < a.size then cellAt a x j else cellAt b y (j - a.size)
  | .unit, _, _ => none
  | t, x, 0 => some ⟨t, x⟩
  | _, _, _ + 1 => none
def setCell : (t : Ty) → t.D → Nat → (u : Ty) → u.D → Option t.D
  | .pair a b, (x, y), j, u, z =>
    if j < a.size then (setCell a x j u z).map fun x' => (x', y) else (setCell b y (j - a.size) u z).map fun y' => (x, y')
  | .unit, _, _, _, _ => none
  | t, _, 0, u, z => if h : u = t then some (h ▸ z) else none
  | _, _, _ + 1, _, _ => none
abbrev Steps := List (Nat × Nat)
structure Own where
  e : TypeId
  r : Ty
  xs : List r.D
inductive Leaf where
  | v (t : Ty) (x : t.D)
  | vw (k : Nat) (st : Steps) (win : Option (Nat × Nat))
  | qn (e : Bool)
  | nil
  | no
inductive S1 where
  | one (l : Leaf)
  | ag (ls : List Leaf)
  | pl (k off : Nat)
  | el (k : Nat) (st : Steps)
  | rp (t : Ty) (x : t.D) (off : Nat)
  | fv (f : FuncId) (cs : List (Nat × Nat))
inductive SV where
  | s (x : S1)
  | tu (xs : List S1)
  | un
  | no
structure St where
  sl : Nat → SV
  ms : Nat → Option Nat
  mc : Nat → Nat → Leaf
  ow : Nat → Option Own
inductive Kl where
  | all (k : Nat) | deep (k : Nat) | m (k : Nat)
def Kl.okV : Kl → Nat → Steps → Bool
  | .all k, k', _ => !(k' == k)
  | .deep k, k', st => !(k' == k) || st.isEmpty
  | .m _, _, _ => true
def Kl.okE : Kl → Nat → Steps → Bool
  | .all k, k', _ => !(k' == k)
  | .deep k, k', st => !(k' == k) || decide (st.length ≤ 1)
  | .m _, _, _ => true
def Kl.okM : Kl → Nat → Bool
  | .m k, k' => !(k' == k)
  | _, _ => true
def Leaf.kp (c : List Kl) : Leaf → Leaf
  | .vw k st win => if c.all (fun x => x.okV k st) then .vw k st win else .no
  | l => l
def S1.kp (c : List Kl) : S1 → S1
  | .one l => .one (l.kp c)
  | .ag ls => .ag (ls.map (Leaf.kp c))
  | .pl k off => if c.all (fun x => x.okM k) then .pl k off else .one .no
  | .el k st => if c.all (fun x => x.okE k st) then .el k st else .one .no
  | .rp t x off => .rp t x off
  | .fv f cs => if c.all (fun x => cs.all fun p => x.okM p.1) then .fv f cs else .one .no
def SV.kp (c : List Kl) : SV → SV
  | .s x => .s (x.kp c)
  | .tu xs => .tu (xs.map (S1.kp c))
  | .un => .un
  | .no => .no
def St.kp (c : List Kl) (S : St) : St :=
  match c with
  | [] => S
  | c => ⟨fun i => (S.sl i).kp c, S.ms, fun k i => (S.mc k i).kp c, S.ow⟩
inductive U where
  | ow (k : Nat) (o : Option Own)
  | mc (k off : Nat) (l : Leaf)
  | ms (k : Nat) (row : List Leaf)
def St.up (S : St) : U → St
  | .ow k o => ⟨S.sl, S.ms, S.mc, fun i => if i = k then o else S.ow i⟩
  | .mc k off l => ⟨S.sl, S.ms, fun i j => if i = k then (if j = off then l else S.mc i j) else S.mc i j, S.ow⟩
  | .ms k row => ⟨S.sl, fun i => if i = k then some row.length else S.ms i, fun i j => if i = k then row.getD j .no else S.mc i j, S.ow⟩
def St.ups (S : St) : List U → St
  | [] => S
  | u :: us => (S.up u).ups us
def St.put (S : St) (d : Nat) (x : SV) : St := ⟨fun i => if i = d then x else S.sl i, S.ms, S.mc, S.ow⟩
def St.putO (S : St) (d : Option Nat) (x : SV) : St := match d with | some d => S.put d x | none => S
structure Out where
  x : SV
  ks : List Kl
  us : List U
def St.app (S : St) (d : Option Nat) (o : Out) : St := ((S.kp o.ks).ups o.us).putO d o.x
inductive Tr (α : Type) : Type 1 where
  | ret (a : α)
  | fail
  | br (c : Bool) (t e : Tr α)
  | get (β : Type) (o : Option β) (f : β → Tr α)
  | alt (β γ : Type) (s : β ⊕ γ) (f : β → Tr α) (g : γ → Tr α)
  | rdO (k : Nat) (f : Option Own → Tr α)
  | rdC (k off : Nat) (f : Leaf → Tr α)
  | rdM (k : Nat) (f : Option Nat → Tr α)
def Tr.bind {α β : Type} : Tr α → (α → Tr β) → Tr β
  | .ret a, f => f a
  | .fail, _ => .fail
  | .br c t e, f => .br c (t.bind f) (e.bind f)
  | .get γ o g, f => .get γ o fun b => (g b).bind f
  | .alt γ δ s g h, f => .alt γ δ s (fun b => (g b).bind f) (fun b => (h b).bind f)
  | .rdO k g, f => .rdO k fun b => (g b).bind f
  | .rdC k off g, f => .rdC k off fun b => (g b).bind f
  | .rdM k g, f => .rdM k fun b => (g b).bind f
inductive Lg where
  | o (k : Nat) | c (k off : Nat) (l : Leaf) | m (k : Nat)
def Tr.at {α : Type} (S : St) : Tr α → List Lg → Tr (α × List Lg)
  | .ret a, g => .ret (a, g)
  | .fail, _ => .fail
  | .br c t e, g => .br c (t.at S g) (e.at S g)
  | .get γ o f, g => .get γ o fun b => (f b).at S g
  | .alt γ δ s f h, g => .alt γ δ s (fun b => (f b).at S g) (fun b => (h b).at S g)
  | .rdO k f, g => (f (S.ow k)).at S (.o k :: g)
  | .rdC k off f, g => (f (S.mc k off)).at S (.c k off (S.mc k off) :: g)
  | .rdM k f, g => (f (S.ms k)).at S (.m k :: g)
def Tr.run {α : Type} : Tr α → Option α
  | .ret a => some a
  | .fail => none
  | .br c t e => if c = true then t.run else e.run
  | .get _ o f => match o with
    | some b => (f b).run
    | none => none
  | .alt _ _ s f g => match s with
    | .inl b => (f b).run
    | .inr b => (g b).run
  | .rdO .. | .rdC .. | .rdM .. => none
abbrev Tr.iff {α : Type} (c : Bool) (t : Tr α) : Tr α := .br c t .fail
abbrev Tr.opt {α : Type} (o : Option α) : Tr α := match o with | some a => .ret a | none => .fail
inductive TI where
  | cell (t : Ty)
  | slice (e : TypeId) (ts : List Ty) (bytes : Nat)
  | struct (fs : List (Nat × Nat × Bool)) (row : List Ty) (eq : Bool)
  | ptr (e : TypeId)
  | other
def rowTy : List Ty → Ty
  | [] => .unit
  | [t] => t
  | t :: u :: ts => .pair t (rowTy (u :: ts))
def TI.cells : TI → Option (List Ty)
  | .cell t => some [t]
  | .slice e ts _ => some [.sl true e (rowTy ts)]
  | .struct _ row _ => some row
  | _ => none
def TI.isAgg : TI → Bool
  | .struct .. => true
  | _ => false
def getT : (t : Ty) → t.D → Steps → Tr ((u : Ty) × u.D)
  | t, x, [] => .ret ⟨t, x⟩
  | .sl true _ r, xs, (i, j) :: ps => .get r.D ((xs : List r.D)[i]?) fun row => match cellAt r row j with
      | some c => getT c.1 c.2 ps
      | none => .fail
  | _, _, _ :: _ => .fail
def setT : (t : Ty) → t.D → Steps → (u : Ty) → u.D → Tr t.D
  | t, _, [], u, z => if h : u = t then .ret (h ▸ z) else .fail
  | .sl true _ r, xs, (i, j) :: ps, u, z => .get r.D ((xs : List r.D)[i]?) fun row => match cellAt r row j with
      | some c => (setT c.1 c.2 ps u z).bind fun y => match setCell r row j c.1 y with
        | some row' => .ret ((xs : List r.D).set i row')
        | none => .fail
      | none => .fail
  | _, _, _ :: _, _, _ => .fail
def viewT (k : Nat) (st : Steps) (win : Option (Nat × Nat)) : Tr Own :=
  .rdO k fun o => match o with
    | some o => (getT (.sl true o.e o.r) o.xs st).bind fun c => match c with
      | ⟨.sl true e r, ys⟩ => match win with
        | none => .ret ⟨e, r, ys⟩
        | some (lo, n) => .ret ⟨e, r, ((ys : List r.D).drop lo).take n⟩
      | _ => .fail
    | none => .fail
def leafOf (k : Nat) (st : Steps) : (t : Ty) → t.D → Leaf
  | .sl true _ _, _ => .vw k st none
  | t, x => .v t x
def bump : Steps → Nat → Steps
  | [], _ => []
  | [(i, j)], n => [(i, j + n)]
  | p :: q :: ps, n => p :: bump (q :: ps) n
def ldCell : S1 → Nat → Tr Leaf
  | .pl k off, n => .rdM k fun m => match m with
    | some m => if off + n < m then .rdC k (off + n) fun l => match l with
      | .no => .fail
      | l => .ret l else .fail
    | none => .fail
  | .el k st, n => .rdO k fun o => match o with
    | some o => (getT (.sl true o.e o.r) o.xs (bump st n)).bind fun c => .ret (leafOf k (bump st n) c.1 c.2)
    | none => .fail
  | .rp t x off, n => match cellAt t x (off + n) with
    | some c => .ret (.v c.1 c.2)
    | none => .fail
  | _, _ => .fail
def ldCells (a : S1) : Nat → Nat → Tr (List Leaf)
  | 0, _ => .ret []
  | n + 1, i => (ldCell a i).bind fun l => (ldCells a n (i + 1)).bind fun ls => .ret (l :: ls)
def absorb (t : Ty) : Leaf → Tr (t.D × List Nat)
  | .v u x => if h : u = t then .ret (h ▸ x, []) else .fail
  | .nil => match t with
    | .sl _ _ _ => .ret ([], [])
    | _ => .fail
  | .vw k [] win => (viewT k [] win).bind fun o => if h : Ty.sl true o.e o.r = t then .ret (h ▸ o.xs, [k]) else .fail
  | _ => .fail
def absorbRow : (ts : List Ty) → List Leaf → Tr ((rowTy ts).D × List Nat)
  | [], [] => .ret ((), [])
  | [t], [l] => absorb t l
  | t :: u :: ts, l :: ls => (absorb t l).bind fun x => (absorbRow (u :: ts) ls).bind fun y => .ret ((x.1, y.1), x.2 ++ y.2)
  | _, _ => .fail
def gone (ks : List Nat) : List Kl := ks.map .all
def goneU (ks : List Nat) : List U := ks.map fun k => .ow k none
def unlike : List Nat → Bool
  | [] => true
  | k :: ks => !(ks.contains k) && unlike ks
def stEls (o : Own) (st : Steps) : List Leaf → Nat → Tr (Own × List Nat)
  | [], _ => .ret (o, [])
  | l :: ls, n => (getT (.sl true o.e o.r) o.xs (bump st n)).bind fun c => (absorb c.1 l).bind fun z =>
      (setT (.sl true o.e o.r) o.xs (bump st n) c.1 z.1).bind fun ys => (stEls ⟨o.e, o.r, ys⟩ st ls (n + 1)).bind fun r => .ret (r.1, z.2 ++ r.2)
def stPls (k : Nat) : List Leaf → Nat → List U
  | [], _ => []
  | l :: ls, n => .mc k n l :: stPls k ls (n + 1)
def stSelf (k : Nat) (st : Steps) (lo n : Nat) : Tr (List Kl × List U) := .rdO k fun o => match o with
  | some o => (getT (.sl true o.e o.r) o.xs st).bind fun c => match c with
    | ⟨.sl true e r, ys⟩ => (setT (.sl true o.e o.r) o.xs st (.sl true e r) ((List.drop lo ys).take n)).bind fun zs => .ret ([.deep k], [.ow k (some ⟨o.e, o.r, zs⟩)])
    | _ => .fail
  | none => .fail
def selfOf (k : Nat) (st : Steps) : List Leaf → Option (Nat × Nat)
  | [.vw k' st' (some w)] => if k' = k ∧ st' = st then some w else none
  | _ => none
def stCells : S1 → List Leaf → Tr (List Kl × List U)
  | .pl k off, ls => .rdM k fun m => match m with
      | some m => if off + ls.length ≤ m then .ret ([], stPls k ls off) else .fail
      | none => .fail
  | .el k st, ls => match selfOf k st ls with
    | some w => stSelf k st w.1 w.2
    | none => .rdO k fun o => match o with
      | some o => (stEls o st ls 0).bind fun r => if r.2.contains k || !unlike r.2 then .fail else
          .ret (.deep k :: gone r.2, .ow k (some r.1) :: goneU r.2)
      | none => .fail
  | _, _ => .fail
end Go.V

namespace Go.V
abbrev ALeaf := (t : Ty) × t.D
inductive A1 where
  | one (l : ALeaf)
  | ag (ls : List ALeaf)
  | pl (m off : Nat)
  | rp (t : Ty) (x : t.D) (off : Nat)
  | fv (f : FuncId) (cs : List (Nat × Nat))
structure Res where
  val : List A1
  rows : List (List ALeaf)
  lent : List ((Nat × Nat) × ALeaf)
structure Env where
  ti : TypeId → TI
  mv : FuncId → List Nat
  fr : FuncId → List (List Ty)
  fx : List Nat
  ca : FuncId → List A1 → List (List ALeaf) → Tr Res
  hn : List (Nat × List Ty)
def constSV : Value → SV
  | .int k n => .s (.one (.v (.int k) n))
  | .bool b => .s (.one (.v .bool b))
  | .string s => .s (.one (.v .str s.data.toList))
  | .slice none 0 0 => .s (.one .nil)
  | _ => .no
def opnd (S : St) : Operand → SV
  | .tmp t => S.sl t
  | .const v => constSV v
  | .func f => .s (.fv f [])
  | _ => .no
def b2 (b : Bool) : Leaf := .v .bool b
def vbin (op : BinOp) : Leaf → Leaf → Tr Leaf
  | .v (.int k) a, .v (.int k') b =>
    match op with
    | .shl => .iff (decide ((0 : Int) ≤ b)) (.ret (.v (.int k) (k.wrap ((a : Int) * 2 ^ (min (Int.toNat b) k.bits)))))
    | .shr => .iff (decide ((0 : Int) ≤ b)) (.ret (.v (.int k) (Int.fdiv a (2 ^ (min (Int.toNat b) k.bits)))))
    | op => if k = k' then match op with
      | .add => .ret (.v (.int k) (k.wrap ((a : Int) + b)))
      | .sub => .ret (.v (.int k) (k.wrap ((a : Int) - b)))
      | .mul => .ret (.v (.int k) (k.wrap ((a : Int) * b)))
      | .quo => .iff (decide (¬ (b : Int) = 0)) (.ret (.v (.int k) (k.wrap (Int.tdiv a b))))
      | .rem => .iff (decide (¬ (b : Int) = 0)) (.ret (.v (.int k) (Int.tmod a b)))
      | .and => .ret (.v (.int k) (k.wrap ((BitVec.ofInt k.bits a &&& BitVec.ofInt k.bits b).toNat : Int)))
      | .or => .ret (.v (.int k) (k.wrap ((BitVec.ofInt k.bits a ||| BitVec.ofInt k.bits b).toNat : Int)))
      | .xor => .ret (.v (.int k) (k.wrap ((BitVec.ofInt k.bits a ^^^ BitVec.ofInt k.bits b).toNat : Int)))
      | .andNot => .ret (.v (.int k) (k.wrap ((BitVec.ofInt k.bits a &&& ~~~ BitVec.ofInt k.bits b).toNat : Int)))
      | .eql => .ret (b2 (decide ((a : Int) = b)))
      | .neq => .ret (b2 (decide (¬ (a : Int) = b)))
      | .lss => .ret (b2 (decide ((a : Int) < b)))
      | .leq => .ret (b2 (decide ((a : Int) ≤ b)))
      | .gtr => .ret (b2 (decide ((b : Int) < a)))
      | .geq => .ret (b2 (decide ((b : Int) ≤ a)))
      | _ => .fail
      else .fail
  | .v .bool a, .v .bool b =>
    match op with
    | .eql => .ret (b2 ((a : Bool) == b))
    | .neq => .ret (b2 ((a : Bool) != b))
    | _ => .fail
  | .v .str a, .v .str b =>
    match op with
    | .add => .iff (decide (((a : List UInt8).length + (b : List UInt8).length : Nat) ≤ 9223372036854775807)) (.ret (.v .str ((a : List UInt8) ++ b)))
    | .eql => .ret (b2 ((a : List UInt8) == b))
    | .neq => .ret (b2 (!((a : List UInt8) == b)))
    | .lss => .ret (b2 (Op.bytesLess a b))
    | .leq => .ret (b2 (Op.bytesLess a b || ((a : List UInt8) == b)))
    | .gtr => .ret (b2 (!(Op.bytesLess a b || ((a : List UInt8) == b))))
    | .geq => .ret (b2 (!(Op.bytesLess a b)))
    | _ => .fail
  | _, _ => .fail
def nilT : Leaf → Tr Leaf
  | .nil => .ret (b2 true)
  | .v (.sl _ _ _) xs => .ret (.qn (List.isEmpty xs))
  | .vw k st win => (viewT k st win).bind fun o => .ret (.qn (List.isEmpty o.xs))
  | _ => .fail
def aggEq : List Ty → List Leaf → List Leaf → Option Bool
  | [], [], [] => some true
  | .int _ :: ts, .v (.int k) a :: x, .v (.int k') b :: y => if k = k' then (aggEq ts x y).map (fun r => decide ((a : Int) = b) && r) else none
  | .bool :: ts, .v .bool a :: x, .v .bool b :: y => (aggEq ts x y).map (fun r => ((a : Bool) == b) && r)
  | .str :: ts, .v .str a :: x, .v .str b :: y => (aggEq ts x y).map (fun r => ((a : List UInt8) == b) && r)
  | _, _, _ => none
def vun (op : UnOp) : Leaf → Tr Leaf
  | .v (.int k) a => match op with
    | .neg => .ret (.v (.int k) (k.wrap (0 - (a : Int))))
    | .xor => .ret (.v (.int k) (k.wrap ((BitVec.ofInt k.bits (if k.signed then -1 else k.max) ^^^ BitVec.ofInt k.bits a).toNat : Int)))
    | _ => .fail
  | .v .bool b => match op with
    | .not => .ret (.v .bool (!(b : Bool)))
    | _ => .fail
  | _ => .fail
def bytesOf (s : List UInt8) : List Int := s.map fun b => (b.toNat : Int)
def textOf (xs : List Int) : List UInt8 := xs.map fun n => UInt8.ofNat n.toNat
def dataT : Leaf → Tr Own
  | .v (.sl _ e r) xs => .ret ⟨e, r, xs⟩
  | .vw k st win => viewT k st win
  | _ => .fail
def TI.isStr : TI → Bool
  | .cell .str => true
  | _ => false
def TI.isSl : TI → Bool
  | .slice .. => true
  | _ => false
def TI.isSlOf (n : Nat) : TI → Bool
  | .slice _ ts _ => ts.length == n
  | _ => false
def lenT (t : TI) : Leaf → Tr Nat
  | .v .str s => if t.isStr then .ret (List.length s) else .fail
  | .v (.sl _ _ _) xs => if t.isSl then .ret (List.length xs) else .fail
  | .vw k st win => if t.isSl then (viewT k st win).bind fun o => .ret o.xs.length else .fail
  | .nil => if t.isSl then .ret 0 else .fail
  | _ => .fail
def vInt (n : Nat) : SV := .s (.one (.v (.int .i64) (n : Int)))
abbrev okOut (x : SV) : Tr Out := .ret ⟨x, [], []⟩
abbrev kd (d c : Nat) : Nat := d * 1024 + c
def cutWin (win : Option (Nat × Nat)) (lo n : Nat) : Option (Nat × Nat) :=
  match win with
  | none => some (lo, n)
  | some (l, _) => some (l + lo, n)
def winLo (win : Option (Nat × Nat)) : Nat := match win with | none => 0 | some (lo, _) => lo
def bound : Option SV → Nat → Tr Int
  | none, d => .ret d
  | some (.s (.one (.v (.int _) n))), _ => .ret n
  | _, _ => .fail
def boundsT (len : Nat) (lo hi mx : Option SV) (f : Nat → Nat → Tr SV) : Tr SV :=
  (bound lo 0).bind fun l => (bound hi len).bind fun h => (bound mx len).bind fun m =>
    .iff (mx.isNone || hi.isSome) <| .iff (decide (0 ≤ l)) <| .iff (decide (l ≤ h)) <| .iff (decide (h ≤ m)) <| .iff (decide (m ≤ (len : Int))) <| f l.toNat (h.toNat - l.toNat)
def sliceT (t : TI) (x : Leaf) (lo hi mx : Option SV) : Tr SV :=
  match x with
  | .v .str s => if t.isStr && mx.isNone then boundsT (List.length s) lo hi mx fun l n => .ret (.s (.one (.v .str (((s : List UInt8).drop l).take n)))) else .fail
  | .v (.sl false e r) xs => if t.isSlOf r.size then boundsT (List.length xs) lo hi mx fun l n => .ret (.s (.one (.v (.sl false e r) (((xs : List r.D).drop l).take n)))) else .fail
  | .vw k st win => (viewT k st win).bind fun o => if t.isSlOf o.r.size then boundsT o.xs.length lo hi mx fun l n => .ret (.s (.one (.vw k st (cutWin win l n)))) else .fail
  | .nil => if t.isSl then boundsT 0 lo hi mx fun _ _ => .ret (.s (.one .nil)) else .fail
  | _ => .fail
def roomFor (n bytes : Nat) : Bool := decide (n * bytes ≤ 140737488355328)
def moreT (ti2 : TI) (e : TypeId) (r : Ty) : Leaf → Tr (List r.D × List Nat)
  | .v .str s => if ti2.isStr then (match r with
    | .int .u8 => .ret (bytesOf s, [])
    | _ => .fail) else .fail
  | l => if ti2.isSl then (if r.ro then (match l with
    | .nil => .ret ([], [])
    | l => (dataT l).bind fun o => if h : Ty.sl true o.e o.r = .sl true e r then .ret ((h ▸ o.xs : (Ty.sl true e r).D), []) else .fail)
    else absorb (.sl true e r) l) else .fail
def moreA (ti2 : TI) (e : TypeId) (r0 r : Ty) (y : Leaf) : Tr (List r.D × List Nat) :=
  match ti2 with
  | .cell (.int .i64) => match y with
    | .v (.int .i64) n => if r = r0 then .iff (decide ((0 : Int) ≤ n)) (.ret (List.replicate (Int.toNat n) r.zero, [])) else .fail
    | _ => .fail
  | ti2 => moreT ti2 e r y
def ownOut (key : Nat) (o : Own) (given : List Nat) : Out :=
  ⟨.s (.one (.vw key [] none)), .all key :: gone given, goneU given ++ [.ow key (some o)]⟩
def rowFor (r0 : Ty) : Leaf → Leaf → Tr Ty
  | .vw k _ _, _ => .rdO k fun o => match o with
    | some o => .ret o.r
    | none => .fail
  | _, .v (.sl _ _ r) _ => .ret r
  | _, .vw k [] _ => .rdO k fun o => match o with
    | some o => .ret o.r
    | none => .fail
  | _, _ => .ret r0
def appendT (ti ti2 : TI) (d : Nat) (x y : Leaf) : Tr Out :=
  match ti with
  | .slice e ts bytes => (rowFor (rowTy ts) x y).bind fun r => if r.size = ts.length then (absorb (.sl true e r) x).bind fun b => (moreA ti2 e (rowTy ts) r y).bind fun m =>
      .iff (roomFor (List.length b.1 + List.length m.1) bytes) <|
      if unlike (b.2 ++ m.2) then .ret (ownOut (kd d 0) ⟨e, r, (show List r.D from b.1) ++ m.1⟩ (b.2 ++ m.2)) else .fail
      else .fail
  | _ => .fail
def copyT (ti ti2 : TI) (x y : Leaf) : Tr Out :=
  match x with
  | .vw k [] none => .rdO k fun o => match o with
    | some o => if ti.isSlOf o.r.size && ti2.isSl && o.r.ro then (match y with
        | .nil => .ret ⟨.s (.one (.v (.int .i64) ((0 : Nat) : Int))), [], []⟩
        | y => (dataT y).bind fun p => if h : Ty.sl true p.e p.r = Ty.sl true o.e o.r then
            .ret ⟨.s (.one (.v (.int .i64) ((Nat.min (List.length p.xs) (List.length o.xs) : Nat) : Int))), [.deep k],
              [.ow k (some ⟨o.e, o.r, (show List o.r.D from (h ▸ p.xs : (Ty.sl true o.e o.r).D)).take (List.length o.xs) ++ List.drop (List.length p.xs) o.xs⟩)]⟩ else .fail) else .fail
    | none => .fail
  | _ => .fail
def Leaf.is : Leaf → Bool
  | .no => false
  | _ => true
def leaves : SV → Option (List Leaf)
  | .s (.one l) => if l.is then some [l] else none
  | .s (.ag ls) => if ls.all Leaf.is then some ls else none
  | _ => none
def rowsT (ts : List Ty) : List (Nat × SV) → Nat → Tr (List (rowTy ts).D × List Nat)
  | [], _ => .ret ([], [])
  | (i, x) :: ps, n => if i = n then match leaves x with
      | some ls => (absorbRow ts ls).bind fun r => (rowsT ts ps (n + 1)).bind fun rs => .ret (r.1 :: rs.1, r.2 ++ rs.2)
      | none => .fail
      else .fail
def rowTys : List Ty → List Leaf → List Ty
  | _ :: ts, .v u _ :: ls => u :: rowTys ts ls
  | t :: ts, _ :: ls => t :: rowTys ts ls
  | ts, _ => ts
def hintOf (hn : List (Nat × List Ty)) (d : Nat) (ts : List Ty) : List Ty := match hn.find? (fun p => p.1 == d) with
  | some p => p.2
  | none => ts
def litTys (ts hs : List Ty) : List (Nat × SV) → List Ty
  | (_, x) :: _ => match leaves x with
    | some ls => rowTys ts ls
    | none => ts
  | [] => hs
def buildRowsT (e : TypeId) (ts : List Ty) (d len : Nat) (ps : List (Nat × SV)) : Tr Out :=
  (rowsT ts ps 0).bind fun r => if unlike r.2 && decide (ps.length = len) && decide (len * (rowTy ts).size ≤ 16777216) then
      .ret (ownOut (kd d 0) ⟨e, rowTy ts, r.1⟩ r.2) else .fail
def buildSliceT (ti : TI) (hn : List (Nat × List Ty)) (d len : Nat) (ps : List (Nat × SV)) : Tr Out :=
  match ti with
  | .slice e ts _ => if (litTys ts (hintOf hn d ts) ps).all (fun t => t.size == 1) && (litTys ts (hintOf hn d ts) ps).length == ts.length then buildRowsT e (litTys ts (hintOf hn d ts) ps) d len ps else .fail
  | _ => .fail
def makeSliceT (ti : TI) (d : Nat) (l c : SV) : Tr Out :=
  match ti, l, c with
  | .slice e ts bytes, .s (.one (.v (.int .i64) l)), .s (.one (.v (.int .i64) c)) =>
    .iff (decide ((0 : Int) ≤ l)) <| .iff (decide ((l : Int) ≤ c)) <| .iff (roomFor (Int.toNat c) bytes) <|
      .ret (ownOut (kd d 0) ⟨e, rowTy ts, List.replicate (Int.toNat l) (rowTy ts).zero⟩ [])
  | _, _, _ => .fail
def zeroLeaf : Ty → Leaf
  | .sl _ _ _ => .nil
  | t => .v t t.zero
def setMany (row : List Leaf) (off : Nat) : List Leaf → List Leaf
  | [] => row
  | l :: ls => setMany (row.set off l) (off + 1) ls
def buildT (fs : List (Nat × Nat × Bool)) : List (Nat × SV) → List Leaf → Option (List Leaf)
  | [], row => some row
  | (f, x) :: ps, row => match fs[f]?, leaves x with
    | some (off, n, _), some ls => if ls.length = n then (if off + n ≤ row.length then buildT fs ps (setMany row off ls) else none) else none
    | _, _ => none
def indexT (t : TI) (x : Leaf) (i : Int) : Tr SV :=
  .iff (decide (0 ≤ i)) <|
  match x with
  | .v (.sl false _ r) xs => if t.isSlOf r.size then .get r.D ((xs : List r.D)[i.toNat]?) fun row => .ret (.s (.rp r row 0)) else .fail
  | .vw k st win => (viewT k st win).bind fun o => if t.isSlOf o.r.size then .iff (decide (i < (o.xs.length : Int))) <|
      .ret (.s (.el k (st ++ [(winLo win + i.toNat, 0)]))) else .fail
  | _ => .fail
def convT (ti : TypeId → TI) (src dst : TI) (d : Nat) (x : Leaf) : Tr Out :=
  match src, dst, x with
  | .cell (.int _), .cell (.int k), .v (.int _) n => okOut (.s (.one (.v (.int k) (k.wrap n))))
  | .cell .str, .cell .str, .v .str s => okOut (.s (.one (.v .str s)))
  | .cell .str, .slice e _ _, .v .str s => match ti e with
    | .cell (.int .u8) => .ret (ownOut (kd d 0) ⟨e, .int .u8, bytesOf s⟩ [])
    | _ => .fail
  | .slice e _ _, .cell .str, .nil => match ti e with
    | .cell (.int .u8) => okOut (.s (.one (.v .str [])))
    | _ => .fail
  | .slice e _ _, .cell .str, x => match ti e with
    | .cell (.int .u8) => (dataT x).bind fun o => match o with
        | ⟨_, .int .u8, xs⟩ => okOut (.s (.one (.v .str (textOf xs))))
        | _ => .fail
    | _ => .fail
  | _, _, _ => .fail
structure AS where
  a : A1
  bw : List Nat     -- owners that are shown
  gv : List Nat     -- owners that are given up
def argLeaf (mv : Bool) (t : Ty) : Leaf → Tr (ALeaf × List Nat × List Nat)
  | .v u x => .ret (⟨u, x⟩, [], [])
  | .nil => match t with
    | .sl _ e r => if mv then .ret (⟨.sl true e r, []⟩, [], []) else .ret (⟨.sl false e r.frz, []⟩, [], [])
    | _ => .fail
  | .vw k st win => if mv then match st with
      | [] => (viewT k [] win).bind fun o => .ret (⟨.sl true o.e o.r, o.xs⟩, [], [k])
      | _ => .fail
    else (viewT k st win).bind fun o => .ret (⟨(Ty.sl true o.e o.r).frz, toFrz (.sl true o.e o.r) o.xs⟩, [k], [])
  | _ => .fail
def lentLeaf (t : Ty) : Leaf → Tr (ALeaf × List Nat × List Nat)
  | .vw k st none => (viewT k st none).bind fun o => .ret (⟨.sl true o.e o.r, o.xs⟩, [], [k])
  | .vw _ _ (some _) => .fail
  | l => argLeaf true t l
def modeLeaf (m : Nat) (t : Ty) (l : Leaf) : Tr (ALeaf × List Nat × List Nat) := if m = 2 then lentLeaf t l else argLeaf (m == 1) t l
def lentOf (p : Nat × Nat) : Leaf → List ((Nat × Nat) × Option (Nat × Steps))
  | .vw k st _ => [(p, some (k, st))]
  | .nil => [(p, none)]
  | _ => []
def lentsOf (i j : Nat) : List Leaf → List ((Nat × Nat) × Option (Nat × Steps))
  | [] => []
  | l :: ls => lentOf (i, j) l ++ lentsOf i (j + 1) ls
def argLeaves (m : Nat) : List Ty → List Leaf → Tr (List ALeaf × List Nat × List Nat)
  | _, [] => .ret ([], [], [])
  | ts, l :: ls => (modeLeaf m (ts.headD .unit) l).bind fun x => (argLeaves m ts.tail ls).bind fun y => .ret (x.1 :: y.1, x.2.1 ++ y.2.1, x.2.2 ++ y.2.2)
def rowLeaves (k : Nat) : List Ty → Nat → Tr (List ALeaf × List Nat)
  | [], _ => .ret ([], [])
  | t :: ts, c => .rdC k c fun l => (argLeaf true t l).bind fun x => (rowLeaves k ts (c + 1)).bind fun y => .ret (x.1 :: y.1, x.2.2 ++ y.2)
def shownRow (k : Nat) : List Ty → Nat → Tr (List ALeaf × List Nat)
  | [], _ => .ret ([], [])
  | t :: ts, c => .rdC k c fun l => (argLeaf false t l).bind fun x => (shownRow k ts (c + 1)).bind fun y => .ret (x.1 :: y.1, x.2.1 ++ y.2)
def packed : List ALeaf → ALeaf
  | [] => ⟨.unit, ()⟩
  | [l] => l
  | l :: m :: ls => ⟨.pair l.1 (packed (m :: ls)).1, (l.2, (packed (m :: ls)).2)⟩
def place (ms : List Nat) (k : Nat) : Nat := ms.findIdx (· == k)
structure AC where
  as : List A1 := []
  bw : List Nat := []
  gv : List Nat := []
  ms : List (Nat × List Ty) := []
  ln : List ((Nat × Nat) × Option (Nat × Steps)) := []
def cellsAt (ti : TypeId → TI) (t : TypeId) : Option (List Ty) := match ti t with
  | .ptr e => (ti e).cells
  | x => x.cells
def placeT (k off : Nat) (ts : Option (List Ty)) (c : AC) : Tr ((Nat × Nat) × AC) :=
  match ts with
  | some ts => if (c.ms.map (·.1)).contains k then .ret ((place (c.ms.map (·.1)) k, off), c)
    else if off = 0 then .rdM k fun n => if n = some ts.length then .ret ((c.ms.length, off), { c with ms := c.ms ++ [(k, ts)] }) else .fail
    else .fail
  | none => .fail
def capsT : List (Nat × Nat) → List (List Ty) → AC → Tr (List (Nat × Nat) × AC)
  | [], _, c => .ret ([], c)
  | p :: cs, ts, c => (placeT p.1 p.2 ts.head? c).bind fun y => (capsT cs ts.tail y.2).bind fun z => .ret (y.1 :: z.1, z.2)
def argsT (E : Env) : List Nat → List (SV × TypeId) → AC → Tr AC
  | _, [], c => .ret c
  | mv, (x, t) :: xs, c =>
    let m := mv.headD 0
    match x with
    | .s (.one l) => (modeLeaf m ((((E.ti t).cells).getD []).headD .unit) l).bind fun y => argsT E mv.tail xs { c with as := c.as ++ [.one y.1], bw := c.bw ++ y.2.1, gv := c.gv ++ y.2.2, ln := c.ln ++ (if m = 2 then lentOf (c.as.length, 0) l else []) }
    | .s (.ag ls) => (argLeaves m (((E.ti t).cells).getD []) ls).bind fun y => argsT E mv.tail xs { c with as := c.as ++ [.ag y.1], bw := c.bw ++ y.2.1, gv := c.gv ++ y.2.2, ln := c.ln ++ (if m = 2 then lentsOf c.as.length 0 ls else []) }
    | .s (.rp u x off) => argsT E mv.tail xs { c with as := c.as ++ [.rp u x off] }
    | .s (.pl k off) => if m = 3 then (match cellsAt E.ti t with
        | some ts => .rdM k fun n => if n = some ts.length then (shownRow k ts 0).bind fun y => argsT E mv.tail xs { c with as := c.as ++ [.rp (packed y.1).1 (packed y.1).2 off], bw := c.bw ++ k :: y.2 } else .fail
        | none => .fail)
      else (placeT k off (cellsAt E.ti t) c).bind fun y => argsT E mv.tail xs { y.2 with as := y.2.as ++ [.pl y.1.1 y.1.2] }
    | .s (.fv f cs) => (capsT cs (E.fr f) c).bind fun y => argsT E mv.tail xs { y.2 with as := y.2.as ++ [.fv f y.1] }
    | _ => .fail
def rowsOf : List (Nat × List Ty) → Tr (List (List ALeaf) × List Nat)
  | [] => .ret ([], [])
  | (k, ts) :: ms => (rowLeaves k ts 0).bind fun y => (rowsOf ms).bind fun ys => .ret (y.1 :: ys.1, y.2 ++ ys.2)
def Ty.hasRo : Ty → Bool
  | .pair a b => a.hasRo || b.hasRo
  | .sl o _ r => !o || r.hasRo
  | _ => false
def backLeaf (key : Nat) : ALeaf → Leaf × List (Nat × Own)
  | ⟨.sl true e r, xs⟩ => (.vw key [] none, [(key, ⟨e, r, xs⟩)])
  | ⟨t, x⟩ => (.v t x, [])
def backLeaves (key : Nat) : List ALeaf → List Leaf × List (Nat × Own)
  | [] => ([], [])
  | l :: ls => ((backLeaf key l).1 :: (backLeaves (key + 1) ls).1, (backLeaf key l).2 ++ (backLeaves (key + 1) ls).2)
def backPls (ms : List Nat) : List (Nat × Nat) → Option (List (Nat × Nat))
  | [] => some []
  | p :: ps => match ms[p.1]?, backPls ms ps with
    | some k, some l => some ((k, p.2) :: l)
    | _, _ => none
def back1 (ms : List Nat) (key : Nat) : A1 → Option (S1 × List (Nat × Own))
  | .one l => some (.one (backLeaf key l).1, (backLeaf key l).2)
  | .ag ls => some (.ag (backLeaves key ls).1, (backLeaves key ls).2)
  | .pl m off => match ms[m]? with
    | some k => some (.pl k off, [])
    | none => none
  | .rp t x off => some (.rp t x off, [])
  | .fv f cs => match backPls ms cs with
    | some l => some (.fv f l, [])
    | none => none
def backVals (ms : List Nat) (key : Nat) : List A1 → Option (List S1 × List (Nat × Own))
  | [] => some ([], [])
  | a :: as => match back1 ms key a, backVals ms (key + 64) as with
    | some x, some y => some (x.1 :: y.1, x.2 ++ y.2)
    | _, _ => none
def backRows (key : Nat) : List Nat → List (List ALeaf) → Option (List (Nat × List Leaf) × List (Nat × Own))
  | [], [] => some ([], [])
  | k :: ms, r :: rs => match backRows (key + 64) ms rs with
    | some y => some ((k, (backLeaves key r).1) :: y.1, (backLeaves key r).2 ++ y.2)
    | none => none
  | _, _ => none
def ownsU (l : List (Nat × Own)) : List U := l.map fun p => .ow p.1 (some p.2)
def rowsU : List (Nat × List Leaf) → List U
  | [] => []
  | p :: l => stPls p.1 p.2 0 ++ rowsU l
def A1.hasRo : A1 → Bool
  | .one l => l.1.hasRo
  | .ag ls => ls.any fun l => l.1.hasRo
  | .pl _ _ => false
  | .rp _ _ _ => true
  | .fv _ _ => false
def tupled : List S1 → SV
  | [v] => .s v
  | vs => .tu vs
def putBack : List ((Nat × Nat) × Option (Nat × Steps)) → List ((Nat × Nat) × ALeaf) → Tr (List (Nat × Own))
  | [], [] => .ret []
  | (p, none) :: l, (p', _) :: r => if p = p' then putBack l r else .fail
  | (p, some (k, st)) :: l, (p', a) :: r => if p = p' then .rdO k fun o => match o with
    | some o => (getT (.sl true o.e o.r) o.xs st).bind fun c => if h : a.1 = c.1 then (setT (.sl true o.e o.r) o.xs st c.1 (h ▸ a.2)).bind fun zs => (putBack l r).bind fun y => .ret ((k, ⟨o.e, o.r, zs⟩) :: y) else .fail
    | none => .fail
    else .fail
  | _, _ => .fail
def lkeys : List ((Nat × Nat) × Option (Nat × Steps)) → List Nat
  | [] => []
  | (_, none) :: l => lkeys l
  | (_, some (k, _)) :: l => k :: lkeys l
def moved (lk gv : List Nat) : List Nat := gv.filter fun k => !lk.contains k
def callT2 (E : Env) (d : Nat) (f : FuncId) (ps : List (Nat × Nat)) (c : AC) : Tr Out :=
  (rowsOf c.ms).bind fun rows =>
    if unlike (c.gv ++ rows.2) && c.bw.all (fun k => !(c.gv ++ rows.2).contains k && !(c.ms.map (·.1)).contains k) then
      (E.ca f (c.as ++ ps.map fun p => .pl p.1 p.2) rows.1).bind fun r => (putBack c.ln r.lent).bind fun lts =>
        if c.bw.isEmpty || !(r.val.any A1.hasRo || r.rows.any (fun l => l.any fun x => x.1.hasRo) || r.lent.any (fun x => x.2.1.hasRo)) then
          match backVals (c.ms.map (·.1)) (kd d 0) r.val, backRows (kd d 512) (c.ms.map (·.1)) r.rows with
          | some vs, some rs =>
            if unlike ((vs.2 ++ (rs.2 ++ lts)).map (·.1)) && decide (r.rows.map List.length = c.ms.map fun m => m.2.length) then
            .ret ⟨tupled vs.1, gone (moved (lkeys c.ln) c.gv ++ rows.2) ++ ((lkeys c.ln).map Kl.deep ++ gone ((vs.2 ++ rs.2).map (·.1))), goneU (c.gv ++ rows.2) ++ (ownsU (vs.2 ++ (rs.2 ++ lts)) ++ rowsU rs.1)⟩
            else .fail
          | _, _ => .fail
        else .fail
    else .fail
def callT (E : Env) (d : Nat) (f : FuncId) (caps : List (Nat × Nat)) (args : List (SV × TypeId)) : Tr Out :=
  (argsT E (E.mv f) args {}).bind fun c => (capsT caps (E.fr f) c).bind fun y => callT2 E d f y.1 y.2
def minmax (b : Builtin) : List SV → Tr SV
  | [.s (.one (.v (.int k) x)), .s (.one (.v (.int k') y))] => if k = k' then match b with
      | .min => .ret (.s (.one (.v (.int k) (if (y : Int) < x then y else x))))
      | .max => .ret (.s (.one (.v (.int k) (if (x : Int) < y then y else x))))
      | _ => .fail
      else .fail
  | _ => .fail
def boolOk (l : Leaf) (t : TI) : Bool :=
  match l, t with
  | .v .bool _, .cell .bool => true
  | .v .bool _, _ => false
  | _, _ => true
def plsOf : List SV → Option (List (Nat × Nat))
  | [] => some []
  | .s (.pl k off) :: xs => match plsOf xs with
    | some l => some ((k, off) :: l)
    | none => none
  | _ => none
def core (E : Env) (ρ : Operand → SV) (d : Nat) : Op → Tr Out
  | .move x | .assign x => match ρ x with
    | .no => .fail
    | .un => .fail
    | x => okOut x
  | .pick c a b => match ρ c with
    | .s (.one (.v .bool c)) => .br c (match ρ a with | .no => .fail | .un => .fail | x => okOut x) (match ρ b with | .no => .fail | .un => .fail | x => okOut x)
    | _ => .fail
  | .alloc t => match (E.ti t).cells with
    | some ts => .ret ⟨.s (.pl d 0), [.m d], [.ms d (ts.map zeroLeaf)]⟩
    | none => .fail
  | .box t x => match (E.ti t).cells, leaves (ρ x) with
    | some ts, some ls => if ls.length = ts.length then .ret ⟨.s (.pl d 0), [.m d], [.ms d ls]⟩ else .fail
    | _, _ => .fail
  | .build t ps => match E.ti t with
    | .struct fs row _ => match buildT fs (ps.toList.map fun p => (p.1, ρ p.2)) (row.map zeroLeaf) with
      | some ls => okOut (.s (.ag ls))
      | none => .fail
    | _ => .fail
  | .buildSlice t len ps => buildSliceT (E.ti t) E.hn d len (ps.toList.map fun p => (p.1, ρ p.2))
  | .load t a => match ρ a, (E.ti t).cells with
    | .s a, some ts => if ts.isEmpty then .fail else (if (E.ti t).isAgg then (ldCells a ts.length 0).bind fun ls => Tr.ret (SV.s (.ag ls)) else (ldCell a 0).bind fun l => Tr.ret (SV.s (.one l))).bind fun x => okOut x
    | _, _ => .fail
  | .store t a x => match ρ a, (E.ti t).cells, leaves (ρ x) with
    | .s a, some ts, some ls => if ls.length = ts.length then (stCells a ls).bind fun r => .ret ⟨.no, r.1, r.2⟩ else .fail
    | _, _, _ => .fail
  | .nilCheck x => match ρ x with
    | .s (.pl k off) => okOut (.s (.pl k off))
    | .s (.el k st) => okOut (.s (.el k st))
    | .s (.rp t x off) => okOut (.s (.rp t x off))
    | _ => .fail
  | .binOp op t x y _ => match ρ x, ρ y with
    | .s (.one x), .s (.one .nil) => match op with
      | .eql => if (E.ti t).isSl then (nilT x).bind fun l => okOut (.s (.one l)) else .fail
      | _ => .fail
    | .s (.one x), .s (.one y) => if boolOk x (E.ti t) then (vbin op x y).bind fun l => okOut (.s (.one l)) else .fail
    | .s (.ag xs), .s (.ag ys) => match E.ti t with
      | .struct _ row true => match op, aggEq row xs ys with
        | .eql, some r => okOut (.s (.one (b2 r)))
        | .neq, some r => okOut (.s (.one (b2 (!r))))
        | _, _ => .fail
      | _ => .fail
    | _, _ => .fail
  | .unOp op _ x => match ρ x with
    | .s (.one x) => (vun op x).bind fun l => okOut (.s (.one l))
    | _ => .fail
  | .convert s t x => match ρ x with
    | .s (.one x) => convT E.ti (E.ti s) (E.ti t) d x
    | _ => .fail
  | .makeSlice t l c => makeSliceT (E.ti t) d (ρ l) (ρ c)
  | .slice t x lo hi mx => match ρ x with
    | .s (.one x) => (sliceT (E.ti t) x (lo.map ρ) (hi.map ρ) (mx.map ρ)).bind fun x => okOut x
    | _ => .fail
  | .fieldAddr t x f => match E.ti t with
    | .struct fs _ _ => match fs[f]?, ρ x with
      | some (o, _, _), .s (.pl k off) => okOut (.s (.pl k (off + o)))
      | some (o, _, _), .s (.el k st) => okOut (.s (.el k (bump st o)))
      | some (o, _, _), .s (.rp u x off) => okOut (.s (.rp u x (off + o)))
      | _, _ => .fail
    | _ => .fail
  | .field t x f => match E.ti t, ρ x with
    | .struct fs _ _, .s (.ag ls) => match fs[f]? with
      | some (o, n, true) => okOut (.s (.ag ((ls.drop o).take n)))
      | some (o, _, false) => match ls[o]? with
        | some l => okOut (.s (.one l))
        | none => .fail
      | none => .fail
    | _, _ => .fail
  | .indexAddr t x i => match ρ x, ρ i with
    | .s (.one x), .s (.one (.v (.int _) i)) => (indexT (E.ti t) x i).bind fun x => okOut x
    | _, _ => .fail
  | .index t x i => match ρ x, ρ i with
    | .s (.one (.v .str s)), .s (.one (.v (.int _) i)) => .iff (E.ti t).isStr <| .iff (decide ((0 : Int) ≤ i)) <|
      .get UInt8 ((s : List UInt8)[Int.toNat i]?) fun b => okOut (.s (.one (.v (.int .u8) ((UInt8.toNat b : Nat) : Int))))
    | _, _ => .fail
  | .extract x i => match ρ x with
    | .tu xs => match xs[i]? with
      | some x => okOut (.s x)
      | none => .fail
    | _ => .fail
  | .call ⟨.builtin .len, as, ts⟩ => match as.toList.map ρ, ts.toList with
    | [.s (.one x)], [t] => (lenT (E.ti t) x).bind fun n => okOut (vInt n)
    | _, _ => .fail
  | .call ⟨.builtin .append, as, ts⟩ => match as.toList.map ρ, ts.toList with
    | [.s (.one x), .s (.one y)], [t, t2] => appendT (E.ti t) (E.ti t2) d x y
    | _, _ => .fail
  | .call ⟨.builtin .copy, as, ts⟩ => match as.toList.map ρ, ts.toList with
    | [.s (.one x), .s (.one y)], [t, t2] => copyT (E.ti t) (E.ti t2) x y
    | _, _ => .fail
  | .call ⟨.builtin .min, as, _⟩ => (minmax .min (as.toList.map ρ)).bind fun x => okOut x
  | .call ⟨.builtin .max, as, _⟩ => (minmax .max (as.toList.map ρ)).bind fun x => okOut x
  | .call ⟨.value v, as, ts⟩ => match ρ v with
    | .s (.fv f cs) => if as.size = ts.size then callT E d f cs ((as.toList.map ρ).zip ts.toList) else .fail
    | _ => .fail
  | .makeFunc (.func f) first cs => if first.isEmpty then match plsOf (cs.toList.map ρ) with
    | some l => okOut (.s (.fv f l))
    | none => .fail
    else .fail
  | _ => .fail
end Go.V

namespace Go.V
section loops
variable {σ τ : Type}
def loopN (f : σ → Option (σ ⊕ τ)) : Nat → σ → Option τ
  | 0, _ => none
  | n + 1, x => match f x with
    | some (.inl y) => loopN f n y
    | some (.inr z) => some z
    | none => none
open Classical in
noncomputable def loopG (f : σ → Option (σ ⊕ τ)) (x : σ) : Option τ := if h : ∃ n z, loopN f n x = some z then some h.choose_spec.choose else none
theorem loopN_mono (f : σ → Option (σ ⊕ τ)) : ∀ n m x z, loopN f n x = some z → n ≤ m → loopN f m x = some z := by
  intro n
  induction n with
  | zero => intro m x z h; simp [loopN] at h
  | succ n ih =>
    intro m x z h hm
    obtain ⟨m, rfl⟩ : ∃ k, m = k + 1 := ⟨m - 1, by omega⟩
    simp only [loopN] at h ⊢
    split at h
    · exact ih m _ z h (by omega)
    · exact h
    · cases h
theorem loopG_some (f : σ → Option (σ ⊕ τ)) (x : σ) (z : τ) : loopG f x = some z ↔ ∃ n, loopN f n x = some z := by
  unfold loopG
  constructor
  · intro h
    split at h
    · rename_i hx
      injection h with h
      exact ⟨hx.choose, h ▸ hx.choose_spec.choose_spec⟩
    · cases h
  · rintro ⟨n, hn⟩
    have hx : ∃ n z, loopN f n x = some z := ⟨n, z, hn⟩
    rw [dif_pos hx]
    have h1 := loopN_mono f _ (max n hx.choose) x _ hx.choose_spec.choose_spec (by omega)
    have h2 := loopN_mono f _ (max n hx.choose) x _ hn (by omega)
    rw [h1] at h2
    exact h2
theorem loopG_eq (f : σ → Option (σ ⊕ τ)) (x : σ) : loopG f x = match f x with
    | some (.inl y) => loopG f y
    | some (.inr z) => some z
    | none => none := by
  apply Option.ext
  intro z
  rw [loopG_some]
  constructor
  · rintro ⟨n, hn⟩
    cases n with
    | zero => simp [loopN] at hn
    | succ n =>
      simp only [loopN] at hn
      split at hn
      · rename_i y _
        exact (loopG_some f y z).2 ⟨n, hn⟩
      · exact hn
      · cases hn
  · intro h
    split at h
    · rename_i y hy
      obtain ⟨n, hn⟩ := (loopG_some f y z).1 h
      exact ⟨n + 1, by simp only [loopN, hy]; exact hn⟩
    · rename_i z' hz; exact ⟨1, by simp only [loopN, hz]; exact h⟩
    · cases h
end loops
inductive TL where
  | h (i : Nat) | vw (k : Nat) | nil | no | vs (k i f : Nat)
inductive TS where
  | one (l : TL) | ag (ls : List TL) | pl (k off : Nat) | fv (f : FuncId) (cs : List (Nat × Nat)) | rp (i off : Nat)
inductive Pl where
  | sl (i : Nat) | ag (i j : Nat) | mc (k c : Nat)
def leafAt (S : St) : Pl → Leaf
  | .sl i => match S.sl i with
    | .s (.one l) => l
    | _ => .no
  | .ag i j => match S.sl i with
    | .s (.ag ls) => ls.getD j .no
    | _ => .no
  | .mc k c => match S.ms k with
    | some n => if c < n then S.mc k c else .no
    | none => .no
def St.setAt (S : St) (l : Leaf) : Pl → St
  | .sl i => S.put i (.s (.one l))
  | .ag i j => match S.sl i with
    | .s (.ag ls) => S.put i (.s (.ag (ls.set j l)))
    | _ => S
  | .mc k c => S.up (.mc k c l)
def narrow1 (S : St) (p : Pl) : St :=
  match leafAt S p with
  | .vw k [] (some (lo, n)) => match S.ow k with
    | some o => ((S.kp [.all k]).up (.ow k (some ⟨o.e, o.r, (o.xs.drop lo).take n⟩))).setAt (.vw k [] none) p
    | none => S
  | _ => S
def narrow (S : St) : List Pl → St
  | [] => S
  | p :: ps => narrow (narrow1 S p) ps
def freeze1 (S : St) (p : Pl) : St :=
  match leafAt S p with
  | .vw k [] none => match S.ow k with
    | some o => ((S.kp [.all k]).up (.ow k none)).setAt (.v (Ty.sl true o.e o.r).frz (toFrz (.sl true o.e o.r) o.xs)) p
    | none => S
  | _ => S
def freeze (S : St) : List Pl → St
  | [] => S
  | p :: ps => freeze (freeze1 S p) ps
structure Tpl where
  holes : List Ty
  slots : List (Nat × TS)
  mems : List (Nat × List TL)
  owns : List (Nat × Nat)
  nw : List Pl
  fz : List Pl
@[reducible] def Tpl.D (t : Tpl) : Type := (rowTy t.holes).D
def split : (ts : List Ty) → (rowTy ts).D → List ALeaf
  | [], _ => []
  | [t], x => [⟨t, x⟩]
  | t :: u :: ts, x => ⟨t, x.1⟩ :: split (u :: ts) x.2
def find {β : Type} : List (Nat × β) → Nat → Option β
  | [], _ => none
  | (k, b) :: l, i => if i = k then some b else find l i
def ixOf : ALeaf → Option Nat
  | ⟨.int .i64, n⟩ => some (Int.toNat n)
  | _ => none
def TL.inj (hs : List ALeaf) : TL → Leaf
  | .vs k i f => match hs[i]? with
    | some c => match ixOf c with
      | some n => .vw k [(n, f)] none
      | none => .no
    | none => .no
  | .h i => match hs[i]? with
    | some c => .v c.1 c.2
    | none => .no
  | .vw k => .vw k [] none
  | .nil => .nil
  | .no => .no
def TS.inj (hs : List ALeaf) : TS → S1
  | .one l => .one (l.inj hs)
  | .ag ls => .ag (ls.map (TL.inj hs))
  | .pl k off => .pl k off
  | .fv f cs => .fv f cs
  | .rp i off => match hs[i]? with
    | some c => .rp c.1 c.2 off
    | none => .one .no
def ownOf : ALeaf → Option Own
  | ⟨.sl true e r, xs⟩ => some ⟨e, r, xs⟩
  | _ => none
def Tpl.injH (t : Tpl) (hs : List ALeaf) : St where
  sl i := match find t.slots i with
    | some s => .s (s.inj hs)
    | none => .no
  ms k := (find t.mems k).map List.length
  mc k off := match find t.mems k with
    | some row => match row[off]? with
      | some l => l.inj hs
      | none => .no
    | none => .no
  ow k := match find t.owns k with
    | some h => match hs[h]? with
      | some c => ownOf c
      | none => none
    | none => none
def Tpl.inj (t : Tpl) (x : t.D) : St := t.injH (split t.holes x)
structure Mt where
  ro : List (Nat × Nat) := []
  rm : List (Nat × Nat) := []
  nl : List Nat := []
  vs : List (Nat × ALeaf) := []
def addKey (l : List (Nat × Nat)) (a b : Nat) : Option (List (Nat × Nat)) :=
  match find l a with
  | some c => if c = b then some l else none
  | none => some ((a, b) :: l)
def TL.mt (holes : List Ty) (m : Mt) : TL → Leaf → Option Mt
  | .h i, .v t x => some { m with vs := (i, ⟨t, x⟩) :: m.vs }
  | .h i, .nil => match holes[i]? with
    | some (.sl false e r) => some { m with vs := (i, ⟨.sl false e r, []⟩) :: m.vs }
    | _ => none
  | .vw k, .vw k' [] none => match addKey m.ro k k' with
    | some l => some { m with ro := l }
    | none => none
  | .vw k, .nil => some { m with nl := k :: m.nl }
  | .vs k i f, .vw k' [(n, g)] none => if f = g then match addKey m.ro k k' with
    | some l => some { m with ro := l, vs := (i, ⟨.int .i64, ((n : Nat) : Int)⟩) :: m.vs }
    | none => none
    else none
  | .nil, .nil => some m
  | .no, _ => some m
  | _, _ => none
def TL.mts (holes : List Ty) : Mt → List TL → List Leaf → Option Mt
  | m, [], [] => some m
  | m, t :: ts, l :: ls => match t.mt holes m l with
    | some m' => TL.mts holes m' ts ls
    | none => none
  | _, _, _ => none
def TS.mt (holes : List Ty) (m : Mt) : TS → SV → Option Mt
  | .one t, .s (.one l) => t.mt holes m l
  | .ag ts, .s (.ag ls) => TL.mts holes m ts ls
  | .pl k off, .s (.pl k' off') => if off = off' then (match addKey m.rm k k' with
    | some l => some { m with rm := l }
    | none => none) else none
  | .fv f cs, .s (.fv f' cs') => if f = f' ∧ cs = cs' ∧ cs.all (fun p => find m.rm p.1 == some p.1) then some m else none
  | .rp i off, .s (.rp t x off') => if off = off' then some { m with vs := (i, ⟨t, x⟩) :: m.vs } else none
  | _, _ => none
def mtSlots (holes : List Ty) (S : St) : List (Nat × TS) → Mt → Option Mt
  | [], m => some m
  | (i, t) :: l, m => match t.mt holes m (S.sl i) with
    | some m' => mtSlots holes S l m'
    | none => none
def mtRow (holes : List Ty) (S : St) (k : Nat) : List TL → Nat → Mt → Option Mt
  | [], _, m => some m
  | t :: ts, c, m => match t.mt holes m (S.mc k c) with
    | some m' => mtRow holes S k ts (c + 1) m'
    | none => none
def mtMems (holes : List Ty) (S : St) : List (Nat × List TL) → Mt → Option Mt
  | [], m => some m
  | (κ, row) :: l, m => match find m.rm κ with
    | some k => if S.ms k = some row.length then match mtRow holes S k row 0 m with
      | some m' => mtMems holes S l m'
      | none => none
      else none
    | none => none
def mtOwns (holes : List Ty) (S : St) : List (Nat × Nat) → Mt → Option Mt
  | [], m => some m
  | (κ, h) :: l, m => match find m.ro κ with
    | some k => match S.ow k with
      | some o => mtOwns holes S l { m with vs := (h, ⟨.sl true o.e o.r, o.xs⟩) :: m.vs }
      | none => none
    | none => if m.nl.contains κ then match holes[h]? with
      | some (.sl true e r) => mtOwns holes S l { m with vs := (h, ⟨.sl true e r, []⟩) :: m.vs }
      | _ => none
      else none
def tuple (vs : List (Nat × ALeaf)) : (ts : List Ty) → Nat → Option (rowTy ts).D
  | [], _ => some ()
  | [t], i => match find vs i with
    | some ⟨u, x⟩ => if h : u = t then some (h ▸ x) else none
    | none => none
  | t :: u :: ts, i => match find vs i with
    | some ⟨u', x⟩ => if h : u' = t then match tuple vs (u :: ts) (i + 1) with
      | some y => some (h ▸ x, y)
      | none => none
      else none
    | none => none
def Tpl.mt (t : Tpl) (S : St) : Option Mt :=
  match mtSlots t.holes S t.slots { rm := t.mems.map fun p => (p.1, p.1) } with
  | some m => match mtMems t.holes S t.mems m with
    | some m => mtOwns t.holes S t.owns m
    | none => none
  | none => none
def Mt.fine (t : Tpl) (m : Mt) : Bool :=
  unlike (m.vs.map (·.1)) && m.vs.all (fun p => decide (p.1 < t.holes.length)) && unlike (m.ro.map (·.1)) && unlike (m.ro.map (·.2)) && unlike (m.rm.map (·.1)) && unlike (m.rm.map (·.2)) &&
  m.nl.all (fun k => !(m.ro.map (·.1)).contains k && (find t.owns k).isSome) && m.ro.all (fun p => (find t.owns p.1).isSome) && m.rm.all (fun p => (find t.mems p.1).isSome) && m.rm.all (fun p => p.1 == p.2)
def Tpl.prj0 (t : Tpl) (S : St) : Option t.D :=
  match t.mt S with
  | some m => if m.fine t then tuple m.vs t.holes 0 else none
  | none => none
def Tpl.prj (t : Tpl) (S : St) : Option t.D := t.prj0 (freeze (narrow S t.nw) t.fz)
inductive Ex where
  | n | x (id : Nat) | r
  deriving DecidableEq
abbrev Joins := List (Ex × Tpl)
@[reducible] def Joins.D : Joins → Type
  | [] => Empty
  | [a] => a.2.D
  | a :: b :: l => a.2.D ⊕ Joins.D (b :: l)
def Joins.prj : (J : Joins) → Ex → St → Option J.D
  | [], _, _ => none
  | [a], e, S => if e = a.1 then a.2.prj S else none
  | a :: b :: l, e, S => if e = a.1 then (match a.2.prj S with | some x => some (.inl x) | none => none)
    else match Joins.prj (b :: l) e S with | some x => some (.inr x) | none => none
def Joins.inj : (J : Joins) → J.D → Tr (Ex × St)
  | [], x => nomatch x
  | [a], x => .ret (a.1, a.2.inj x)
  | a :: b :: l, s => .alt a.2.D (Joins.D (b :: l)) s (fun x => .ret (a.1, a.2.inj x)) (fun y => Joins.inj (b :: l) y)
def joined (J : Joins) (t : Tr (Ex × St)) : Tr (Ex × St) :=
  match J with
  | [] => t
  | a :: l => .get (Joins.D (a :: l)) (t.bind fun r => Tr.opt (Joins.prj (a :: l) r.1 r.2)).run (Joins.inj (a :: l))
inductive Ann where
  | nil
  | seq (a b : Ann)
  | cond (J : Joins) (a b : Ann)
  | block (J : Joins) (a : Ann)
  | loop (t : Tpl) (J : Joins) (a : Ann)
  | reg (J : Joins)
  | both (J : Joins) (r a b y z : Ann)
def gslot (ops : Array Oper) (j : Nat) : Option Nat := (ops[j]?).bind (·.dst)
structure Rec where
  o : Oper
  ins : List SV
  out : Out
  lg : List Lg
def dstOk (E : Env) (N : Nat) (o : Oper) : Bool := match o.dst with
  | some d => decide (d < N) && !E.fx.contains d
  | none => true
def runOp (E : Env) (N : Nat) (o : Oper) (S : St) : Tr (Out × List Lg) := (core E (opnd S) (o.dst.getD N) o.op).at S []
def noOut : Out := ⟨.un, [], []⟩
def recOf (o : Oper) (S : St) (r : Out × List Lg) : Rec := ⟨o, o.op.operands.toList.map (opnd S), r.1, r.2⟩
def skipRec (o : Oper) : Rec := ⟨o, [], noOut, []⟩
def yesT (E : Env) (N : Nat) (o : Oper) (S : St) : Tr (St × Rec) := (runOp E N o S).bind fun r => .ret (S.app o.dst r.1, recOf o S r)
def nayT (o : Oper) (S : St) : Tr (St × Rec) := .ret (S.app o.dst noOut, skipRec o)
def stepT (E : Env) (N : Nat) (ops : Array Oper) (o : Oper) (S : St) : Tr (St × Rec) :=
  if dstOk E N o then match o.guard with
    | none => yesT E N o S
    | some (j, want) => match gslot ops j with
      | some g => match S.sl g with
        | .s (.one (.v .bool b)) =>
          .br b (if want then yesT E N o (S.put g (.s (.one (.v .bool true)))) else nayT o (S.put g (.s (.one (.v .bool true)))))
            (if want then nayT o (S.put g (.s (.one (.v .bool false)))) else yesT E N o (S.put g (.s (.one (.v .bool false)))))
        | .un => nayT o S
        | _ => .fail
      | none => .fail
    else .fail
def regT (E : Env) (N : Nat) (ops : Array Oper) : List Oper → St → Tr St
  | [], S => .ret S
  | o :: os, S => (stepT E N ops o S).bind fun r => regT E N ops os r.1
def regR (E : Env) (N : Nat) (ops : Array Oper) : List Oper → St → List Rec → Tr (St × List Rec)
  | [], S, l => .ret (S, l.reverse)
  | o :: os, S, l => (stepT E N ops o S).bind fun r => regR E N ops os r.1 (r.2 :: l)
def Leaf.safe (c : List Kl) : Leaf → Bool
  | .vw k st _ => c.all (fun x => x.okV k st)
  | _ => true
def S1.safe (c : List Kl) : S1 → Bool
  | .one l => l.safe c
  | .ag ls => ls.all (Leaf.safe c)
  | .pl k _ => c.all (fun x => x.okM k)
  | .el k st => c.all (fun x => x.okE k st)
  | .rp .. => true
  | .fv _ cs => c.all (fun x => cs.all fun p => x.okM p.1)
def SV.safe (c : List Kl) : SV → Bool
  | .s x => x.safe c
  | .tu xs => xs.all (S1.safe c)
  | .un => true
  | .no => true
def U.safe (c : List Kl) : U → Bool
  | .mc _ _ l => l.safe c
  | .ms _ row => row.all (Leaf.safe c)
  | .ow .. => true
def Lg.safe (c : List Kl) : Lg → Bool
  | .c _ _ l => l.safe c
  | _ => true
def U.hits : U → Lg → Bool
  | .ow k _, .o k' => k == k'
  | .mc k off _, .c k' off' _ => k == k' && off == off'
  | .ms k _, .c k' _ _ => k == k'
  | .ms k _, .m k' => k == k'
  | _, _ => false
def U.meets : U → U → Bool
  | .ow k _, .ow k' _ => k == k'
  | .mc k off _, .mc k' off' _ => k == k' && off == off'
  | .ms k _, .mc k' _ _ => k == k'
  | .mc k _ _, .ms k' _ => k == k'
  | .ms k _, .ms k' _ => k == k'
  | _, _ => false
def Leaf.whole : Leaf → Bool
  | .no => false
  | _ => true
def S1.whole : S1 → Bool
  | .one l => l.whole
  | .ag ls => ls.all Leaf.whole
  | _ => true
def SV.whole : SV → Bool
  | .s x => x.whole
  | .tu xs => xs.all S1.whole
  | .un => true
  | .no => false
def Lg.whole : Lg → Bool
  | .c _ _ l => l.whole
  | _ => true
def Rec.past (a b : Rec) : Bool :=
  (b.out.ks.isEmpty || (a.ins.all SV.whole && a.lg.all Lg.whole)) &&
  a.ins.all (SV.safe b.out.ks) && a.out.x.safe b.out.ks && a.lg.all (Lg.safe b.out.ks) && a.out.us.all (U.safe b.out.ks) &&
  a.lg.all (fun l => b.out.us.all fun u => !u.hits l)
def Rec.apart (a b : Rec) : Bool :=
  a.past b && b.past a && a.out.us.all (fun u => b.out.us.all fun u' => !u.meets u')
def aheadOf (acc : List Nat) (o : Oper) : Nat := o.after.toList.foldl (fun m e => if Region.binds .any e then m ||| ((1 <<< e.on) ||| acc.getD e.on 0) else m) 0
def ahead : List Oper → List Nat → List Nat
  | [], acc => acc
  | o :: os, acc => ahead os (acc ++ [aheadOf acc o])
def backward : List Oper → Nat → Bool
  | [], _ => true
  | o :: os, n => o.after.toList.all (fun e => !Region.binds .any e || decide (e.on < n)) && backward os (n + 1)
def slotsOf (ops : Array Oper) (o : Oper) : List Nat :=
  o.op.operands.toList.filterMap (fun | .tmp t => some t | _ => none) ++ (match o.guard with | some (j, _) => (gslot ops j).toList | none => [])
def slotApart (ops : Array Oper) (a b : Oper) : Bool :=
  (match a.dst with | some d => !(slotsOf ops b).contains d && !(b.dst == some d) | none => true) &&
  (match b.dst with | some d => !(slotsOf ops a).contains d | none => true)
def pairsOk (ops : Array Oper) (b : List Nat) : List (Nat × Rec) → Bool
  | [] => true
  | (i, a) :: l => l.all (fun p => (b.getD p.1 0).testBit i || (slotApart ops a.o p.2.o && a.apart p.2)) && pairsOk ops b l
def numbered {β : Type} : List β → Nat → List (Nat × β)
  | [], _ => []
  | x :: l, n => (n, x) :: numbered l (n + 1)
def regionT (E : Env) (N : Nat) (ops : Array Oper) (draw : Bool) (S : St) : Tr St :=
  if draw then (regR E N ops ops.toList S []).bind fun r => if pairsOk ops (ahead ops.toList []) (numbered r.2 0) && backward ops.toList 0 then .ret r.1 else .fail
  else regT E N ops ops.toList S
open Classical in
noncomputable def bothQ {α : Type} (e : Bool) (a b : Option α) : Option α := if e = true then (if a = b then b else none) else b
noncomputable def vcode (E : Env) (N : Nat) : Ann → Code → St → Tr (Ex × St)
  | _, .skip, S => .ret (.n, S)
  | .reg J, .region _ ops draw, S => joined J ((regionT E N ops draw S).bind fun S => .ret (.n, S))
  | _, .region _ ops draw, S => (regionT E N ops draw S).bind fun S => .ret (.n, S)
  | .seq x y, .seq a b, S => (vcode E N x a S).bind fun r => match r.1 with
    | .n => vcode E N y b r.2
    | e => .ret (e, r.2)
  | .nil, .seq a b, S => (vcode E N .nil a S).bind fun r => match r.1 with
    | .n => vcode E N .nil b r.2
    | e => .ret (e, r.2)
  | .cond J x y, .cond c a b, S => match opnd S c with
    | .s (.one (.v .bool c)) => joined J (.br c (vcode E N x a S) (vcode E N y b S))
    | .s (.one (.qn e)) => .get (Joins.D J) (bothQ e ((vcode E N x a S).bind fun r => Tr.opt (Joins.prj J r.1 r.2)).run ((vcode E N y b S).bind fun r => Tr.opt (Joins.prj J r.1 r.2)).run) (Joins.inj J)
    | _ => .fail
  | .nil, .cond c a b, S => match opnd S c with
    | .s (.one (.v .bool c)) => .br c (vcode E N .nil a S) (vcode E N .nil b S)
    | _ => .fail
  | .both J xr xa xb y z, .seq (.seq r (.cond c a b)) d, S => (vcode E N xr r S).bind fun q => match q.1 with
    | .n => match opnd q.2 c with
      | .s (.one (.qn e)) => .get (Joins.D J) (bothQ e
          (((vcode E N xa a q.2).bind fun p => match p.1 with | .n => vcode E N y d p.2 | e => .ret (e, p.2)).bind fun t => Tr.opt (Joins.prj J t.1 t.2)).run
          (((vcode E N xb b q.2).bind fun p => match p.1 with | .n => vcode E N z d p.2 | e => .ret (e, p.2)).bind fun t => Tr.opt (Joins.prj J t.1 t.2)).run) (Joins.inj J)
      | _ => .fail
    | e => .ret (e, q.2)
  | .block J x, .block id a, S => joined J ((vcode E N x a S).bind fun r => .ret (if r.1 = .x id then .n else r.1, r.2))
  | .nil, .block id a, S => (vcode E N .nil a S).bind fun r => .ret (if r.1 = .x id then .n else r.1, r.2)
  | .loop t J x, .loop a, S => match t.prj S with
    | some x0 => .get (Joins.D J) (loopG (fun y : t.D => ((vcode E N x a (t.inj y)).bind fun r => match r.1 with
        | .n => Tr.opt (match t.prj r.2 with | some z => some (Sum.inl (β := Joins.D J) z) | none => none)
        | e => Tr.opt (match J.prj e r.2 with | some z => some (Sum.inr (α := t.D) z) | none => none)).run) x0) J.inj
    | none => .fail
  | _, .exit id, S => .ret (.x id, S)
  | _, .ret, S => .ret (.r, S)
  | _, _, _ => .fail
def blank : St := ⟨fun _ => .no, fun _ => none, fun _ _ => .no, fun _ => none⟩
def putSlots : List S1 → Nat → St → St
  | [], _, S => S
  | x :: xs, i, S => putSlots xs (i + 1) (S.put i (.s x))
def start (N : Nat) (as : List A1) (rows : List (List ALeaf)) : Option St :=
  match backVals ((List.range rows.length).map (N + 1 + ·)) (kd (N + 2) 0) as, backRows (kd (N + 2) 512) ((List.range rows.length).map (N + 1 + ·)) rows with
  | some vs, some rs => if unlike ((vs.2 ++ rs.2).map (·.1)) then some (putSlots vs.1 0 ((blank.ups (ownsU (vs.2 ++ rs.2))).ups (rs.1.map fun p => .ms p.1 p.2))) else none
  | _, _ => none
def outLeaf (t : Ty) : Leaf → Tr (ALeaf × List Nat)
  | .v u x => .ret (⟨u, x⟩, [])
  | .nil => match t with
    | .sl _ e r => .ret (⟨.sl true e r, []⟩, [])
    | _ => .fail
  | .vw k [] win => (viewT k [] win).bind fun o => .ret (⟨.sl true o.e o.r, o.xs⟩, [k])
  | _ => .fail
def outLeaves : List Ty → List Leaf → Tr (List ALeaf × List Nat)
  | [], [] => .ret ([], [])
  | t :: ts, l :: ls => (outLeaf t l).bind fun x => (outLeaves ts ls).bind fun y => .ret (x.1 :: y.1, x.2 ++ y.2)
  | _, _ => .fail
def outVal (E : Env) (N M : Nat) (t : TypeId) : SV → Tr (A1 × List Nat)
  | .s (.one l) => (outLeaf ((((E.ti t).cells).getD []).headD .unit) l).bind fun x => .ret (.one x.1, x.2)
  | .s (.ag ls) => (outLeaves (((E.ti t).cells).getD []) ls).bind fun x => .ret (.ag x.1, x.2)
  | .s (.pl k off) => if N + 1 ≤ k ∧ k < N + 1 + M then .ret (.pl (k - (N + 1)) off, []) else .fail
  | _ => .fail
def outVals (E : Env) (N M : Nat) (S : St) : List ResultVar → List TypeId → Tr (List A1 × List Nat)
  | [], [] => .ret ([], [])
  | .tmp s :: rs, t :: ts => (outVal E N M t (S.sl s)).bind fun x => (outVals E N M S rs ts).bind fun y => .ret (x.1 :: y.1, x.2 ++ y.2)
  | .cell s t' :: rs, t :: ts => match S.sl s, (E.ti t').cells with
    | .s a, some cs => if cs.isEmpty then .fail else (if (E.ti t').isAgg then (ldCells a cs.length 0).bind fun ls => Tr.ret (SV.s (.ag ls)) else (ldCell a 0).bind fun l => Tr.ret (SV.s (.one l))).bind fun v =>
        (outVal E N M t v).bind fun x => (outVals E N M S rs ts).bind fun y => .ret (x.1 :: y.1, x.2 ++ y.2)
    | _, _ => .fail
  | _, _ => .fail
def outRow (k : Nat) : List ALeaf → Nat → Tr (List ALeaf × List Nat)
  | [], _ => .ret ([], [])
  | r :: rs, c => .rdC k c fun l => (outLeaf r.1 l).bind fun x => (outRow k rs (c + 1)).bind fun y => .ret (x.1 :: y.1, x.2 ++ y.2)
def outRows (N : Nat) : List (List ALeaf) → Nat → Tr (List (List ALeaf) × List Nat)
  | [], _ => .ret ([], [])
  | r :: rs, m => .rdM (N + 1 + m) fun n => if n = some r.length then (outRow (N + 1 + m) r 0).bind fun x => (outRows N rs (m + 1)).bind fun y => .ret (x.1 :: y.1, x.2 ++ y.2)
    else .fail
def lentAt (S : St) (p : Nat × Nat) : Leaf := match S.sl p.1 with
  | .s (.one l) => if p.2 = 0 then l else .no
  | .s (.ag ls) => ls.getD p.2 .no
  | _ => .no
def outLents (S : St) : List (Nat × Nat) → Tr (List ((Nat × Nat) × ALeaf) × List Nat)
  | [] => .ret ([], [])
  | p :: ps => match lentAt S p with
    | .vw k [] none => (viewT k [] none).bind fun o => (outLents S ps).bind fun y => .ret ((p, ⟨.sl true o.e o.r, o.xs⟩) :: y.1, k :: y.2)
    | _ => .fail
def finish (E : Env) (N : Nat) (fn : Func) (rows : List (List ALeaf)) (ln : List (Nat × Nat)) (S : St) : Tr Res :=
  (((outVals E N rows.length S fn.results.toList fn.resultTypes.toList).bind fun v => (outRows N rows 0).bind fun r => (outLents S ln).bind fun t => Tr.ret (v, r, t)).at S []).bind fun p =>
    if unlike (p.1.1.2 ++ (p.1.2.1.2 ++ p.1.2.2.2)) then .ret ⟨p.1.1.1, p.1.2.1.1, p.1.2.2.1⟩ else .fail
noncomputable def vfun (E : Env) (fn : Func) (J : Joins) (ann : Ann) (ln : List (Nat × Nat)) (args : List A1) (rows : List (List ALeaf)) : Tr Res :=
  match fn.body with
  | some c => if (args.length = fn.params.size + fn.nfree ∧ args.length ≤ fn.ntmps) ∧ ln.all (fun p => E.fx.contains p.1 && decide (p.1 < args.length)) = true then
      match start fn.ntmps args rows with
      | some S => (joined J (vcode E fn.ntmps ann c S)).bind fun r => match r.1 with
        | .x _ => .fail
        | _ => finish E fn.ntmps fn rows ln r.2
      | none => .fail
      else .fail
  | none => .fail
end Go.V

set_option linter.unusedVariables false
set_option maxRecDepth 100000
namespace Go.V.G
noncomputable section
def s_l10New : Option ((Int × List UInt8)) :=
  some (0, [])
def s_l1Cur_next_f (x0 : List Int) (x1 : Int) (x2 : Int) : Option ((Int × (List Int × (Int × Int)))) :=
  Option.bind (α := (Int × (List Int × (Int × Int)))) (
      if (decide ((x1 : Int) < ((List.length x0 : Nat) : Int))) = true then
        if (decide ((0 : Int) ≤ x1)) = true then
        Option.bind (x0[Int.toNat x1]?) fun r1 =>
        some (IntKind.wrap .i64 r1, x0, x1, x2)
        else none
      else
        some (0, x0, x1, x2)) fun v2 =>
  if (decide ((IntKind.wrap .i64 (v2.2.2.1 + 1) : Int) ≤ ((List.length v2.2.1 : Nat) : Int))) = true then
    some (v2.1, v2.2.1, IntKind.wrap .i64 (v2.2.2.1 + 1), IntKind.wrap .u64 ((IntKind.wrap .u64 ((IntKind.wrap .u64 (v2.2.2.2 * 6364136223846793005)) + (IntKind.wrap .u64 v2.1))) + 1442695040888963407))
  else
  if (decide ((0 : Int) ≤ 40)) = true then
  some (IntKind.wrap .i64 (IntKind.wrap .u64 (((BitVec.ofInt (IntKind.bits .u64) (Int.fdiv (IntKind.wrap .u64 ((IntKind.wrap .u64 ((IntKind.wrap .u64 (v2.2.2.2 * 6364136223846793005)) + (IntKind.wrap .u64 v2.1))) + 1442695040888963407)) (2 ^ (min (Int.toNat 40) (IntKind.bits .u64)))) &&& BitVec.ofInt (IntKind.bits .u64) 255).toNat : Int))), v2.2.1, IntKind.wrap .i64 (v2.2.2.1 + 1), IntKind.wrap .u64 ((IntKind.wrap .u64 ((IntKind.wrap .u64 (v2.2.2.2 * 6364136223846793005)) + (IntKind.wrap .u64 v2.1))) + 1442695040888963407))
  else none
def s_l1Cur_pick_f (x0 : Int) (x1 : List Int) (x2 : Int) (x3 : Int) : Option ((Int × (List Int × (Int × Int)))) :=
  if (decide ((x0 : Int) ≤ 1)) = true then
    some (0, x1, x2, x3)
  else
    Option.bind (s_l1Cur_next_f x1 x2 x3) fun c1 =>
    Option.bind (α := (Int × (Int × (List Int × (Int × Int))))) (
        if (decide ((200 : Int) < x0)) = true then
          Option.bind (s_l1Cur_next_f c1.2.1 c1.2.2.1 c1.2.2.2) fun c2 =>
          some (x0, IntKind.wrap .i64 ((IntKind.wrap .i64 (c1.1 * 256)) + c2.1), c2.2.1, c2.2.2.1, c2.2.2.2)
        else
          some (x0, c1.1, c1.2.1, c1.2.2.1, c1.2.2.2)) fun v3 =>
    if (decide (¬ (v3.1 : Int) = 0)) = true then
    some (Int.tmod v3.2.1 v3.1, v3.2.2.1, v3.2.2.2.1, v3.2.2.2.2)
    else none
def s_l1Cur_one_f (x0 : Int) (x1 : List Int) (x2 : Int) (x3 : Int) : Option ((Bool × (List Int × (Int × Int)))) :=
  Option.bind (s_l1Cur_pick_f x0 x1 x2 x3) fun c1 =>
  some (decide ((c1.1 : Int) = 0), c1.2.1, c1.2.2.1, c1.2.2.2)
def s_l1Cur_textOf_f_L1 (y : (List Int × (Int × (Int × (List Int × (Int × Int)))))) : Option ((List Int × (Int × (Int × (List Int × (Int × Int))))) ⊕ (List Int × (List Int × (Int × Int)))) :=
  if (decide ((y.2.2.1 : Int) < y.2.1)) = true then
    Option.bind (s_l1Cur_pick_f 26 y.2.2.2.1 y.2.2.2.2.1 y.2.2.2.2.2) fun c1 =>
    if (decide ((0 : Int) ≤ y.2.2.1)) = true then
    if (decide ((y.2.2.1 : Int) < ((List.length y.1 : Nat) : Int))) = true then
    Option.bind (y.1[0 + Int.toNat y.2.2.1]?) fun r2 =>
    Option.bind (y.1[0 + Int.toNat y.2.2.1]?) fun r3 =>
    some (.inl (y.1.set (0 + Int.toNat y.2.2.1) (IntKind.wrap .u8 (IntKind.wrap .i64 (97 + c1.1))), y.2.1, IntKind.wrap .i64 (y.2.2.1 + 1), c1.2.1, c1.2.2.1, c1.2.2.2))
    else none
    else none
  else
    some (.inr (y.1, y.2.2.2.1, y.2.2.2.2.1, y.2.2.2.2.2))
def s_l1Cur_textOf_f (x0 : Int) (x1 : List Int) (x2 : Int) (x3 : Int) : Option ((List UInt8 × (List Int × (Int × Int)))) :=
  if (decide ((0 : Int) ≤ x0)) = true then
  if (decide ((x0 : Int) ≤ x0)) = true then
  if (roomFor (Int.toNat x0) 1) = true then
  Option.bind (loopG s_l1Cur_textOf_f_L1 (List.replicate (Int.toNat x0) (0 : Int), ((List.length (List.replicate (Int.toNat x0) (0 : Int)) : Nat) : Int), 0, x1, x2, x3)) fun v4 =>
  some (textOf v4.1, v4.2.1, v4.2.2.1, v4.2.2.2)
  else none
  else none
  else none
def s_l9Add (x0 : List (Int × Int)) (x1 : Int) (x2 : Int) : Option (List (Int × Int)) :=
  if (decide ((x2 : Int) = 0)) = true then
    some x0
  else
    Option.bind (α := (List (Int × Int) × (Int × (Bool × (Int × Int))))) (
        if (decide ((0 : Int) < ((List.length x0 : Nat) : Int))) = true then
          if (decide ((0 : Int) ≤ IntKind.wrap .i64 (((List.length x0 : Nat) : Int) - 1))) = true then
          if (decide ((IntKind.wrap .i64 (((List.length x0 : Nat) : Int) - 1) : Int) < ((List.length x0 : Nat) : Int))) = true then
          Option.bind (x0[0 + Int.toNat (IntKind.wrap .i64 (((List.length x0 : Nat) : Int) - 1))]?) fun r1 =>
          some (x0, ((List.length x0 : Nat) : Int), decide ((r1.1 : Int) = x1), x1, x2)
          else none
          else none
        else
        some (x0, ((List.length x0 : Nat) : Int), false, x1, x2)) fun v2 =>
    if v2.2.2.1 = true then
      if (decide ((0 : Int) ≤ IntKind.wrap .i64 (v2.2.1 - 1))) = true then
      if (decide ((IntKind.wrap .i64 (v2.2.1 - 1) : Int) < ((List.length v2.1 : Nat) : Int))) = true then
      Option.bind (v2.1[0 + Int.toNat (IntKind.wrap .i64 (v2.2.1 - 1))]?) fun r3 =>
      if (decide ((0 : Int) ≤ IntKind.wrap .i64 (v2.2.1 - 1))) = true then
      if (decide ((IntKind.wrap .i64 (v2.2.1 - 1) : Int) < ((List.length v2.1 : Nat) : Int))) = true then
      Option.bind (v2.1[0 + Int.toNat (IntKind.wrap .i64 (v2.2.1 - 1))]?) fun r4 =>
      Option.bind (v2.1[0 + Int.toNat (IntKind.wrap .i64 (v2.2.1 - 1))]?) fun r5 =>
      some (v2.1.set (0 + Int.toNat (IntKind.wrap .i64 (v2.2.1 - 1))) (r5.1, IntKind.wrap .i64 (r3.2 + v2.2.2.2.2)))
      else none
      else none
      else none
      else none
    else
    if (roomFor (List.length v2.1 + List.length ([(v2.2.2.2.1, v2.2.2.2.2)] : List (Int × Int))) 16) = true then
    some (v2.1 ++ ([(v2.2.2.2.1, v2.2.2.2.2)] : List (Int × Int)))
    else none
def s_l1Cur_among_f (x0 : List Int) (x1 : List Int) (x2 : Int) (x3 : Int) : Option ((Int × (List Int × (Int × Int)))) :=
  Option.bind (s_l1Cur_pick_f ((List.length x0 : Nat) : Int) x1 x2 x3) fun c1 =>
  if (decide ((0 : Int) ≤ c1.1)) = true then
  if (decide ((c1.1 : Int) < ((List.length x0 : Nat) : Int))) = true then
  Option.bind (x0[0 + Int.toNat c1.1]?) fun r2 =>
  some (r2, c1.2.1, c1.2.2.1, c1.2.2.2)
  else none
  else none
def s_l1Cur_runs_f_L1 (y : (Int × (Int × (List (Int × Int) × (List Int × (Int × Int)))))) : Option ((Int × (Int × (List (Int × Int) × (List Int × (Int × Int))))) ⊕ (List (Int × Int) × (List Int × (Int × Int)))) :=
  if (decide ((0 : Int) < y.1)) = true then
    Option.bind (s_l1Cur_pick_f 5 y.2.2.2.1 y.2.2.2.2.1 y.2.2.2.2.2) fun c5 =>
    Option.bind (α := (Int × (Int × (List (Int × Int) × (Int × (List Int × (Int × Int))))))) (
        if (decide ((y.1 : Int) < (IntKind.wrap .i64 (1 + c5.1)))) = true then
          some (y.1, y.2.1, y.2.2.1, y.1, c5.2.1, c5.2.2.1, c5.2.2.2)
        else
          some (y.1, y.2.1, y.2.2.1, IntKind.wrap .i64 (1 + c5.1), c5.2.1, c5.2.2.1, c5.2.2.2)) fun v6 =>
    Option.bind (s_l1Cur_pick_f (IntKind.wrap .i64 (v6.2.1 + 1)) v6.2.2.2.2.1 v6.2.2.2.2.2.1 v6.2.2.2.2.2.2) fun c7 =>
    Option.bind (s_l9Add v6.2.2.1 c7.1 v6.2.2.2.1) fun c8 =>
    some (.inl (IntKind.wrap .i64 (v6.1 - v6.2.2.2.1), v6.2.1, c8, c7.2.1, c7.2.2.1, c7.2.2.2))
  else
    some (.inr (y.2.2.1, y.2.2.2.1, y.2.2.2.2.1, y.2.2.2.2.2))
def s_l1Cur_runs_f (x0 : Int) (x1 : Int) (x2 : List Int) (x3 : Int) (x4 : Int) : Option ((List (Int × Int) × (List Int × (Int × Int)))) :=
  Option.bind (loopG s_l1Cur_runs_f_L1 (x0, x1, [], x2, x3, x4)) fun v9 =>
  Option.bind (s_l1Cur_pick_f 60 v9.2.1 v9.2.2.1 v9.2.2.2) fun c10 =>
  Option.bind (α := (List (Int × Int) × (List Int × (Int × Int)))) (
      if (decide ((c10.1 : Int) = 0)) = true then
        Option.bind (s_l1Cur_among_f [(-1), 0, 61] c10.2.1 c10.2.2.1 c10.2.2.2) fun c11 =>
        Option.bind (s_l1Cur_among_f [0, 1, (-1), 9223372036854775807] c11.2.1 c11.2.2.1 c11.2.2.2) fun c12 =>
        if (roomFor (List.length v9.1 + List.length ([(c11.1, c12.1)] : List (Int × Int))) 16) = true then
        some (v9.1 ++ ([(c11.1, c12.1)] : List (Int × Int)), c12.2.1, c12.2.2.1, c12.2.2.2)
        else none
      else
        Option.bind (α := (List (Int × Int) × (List Int × (Int × Int)))) (
            if (decide ((c10.1 : Int) = 1)) = true then
              Option.bind (α := (List (Int × Int) × (List Int × (Int × Int)))) (
                  if (decide ((0 : Int) < ((List.length v9.1 : Nat) : Int))) = true then
                    if (decide ((0 : Int) ≤ IntKind.wrap .i64 (((List.length v9.1 : Nat) : Int) - 1))) = true then
                    if (decide ((IntKind.wrap .i64 (((List.length v9.1 : Nat) : Int) - 1) : Int) < ((List.length v9.1 : Nat) : Int))) = true then
                    Option.bind (v9.1[0 + Int.toNat (IntKind.wrap .i64 (((List.length v9.1 : Nat) : Int) - 1))]?) fun r13 =>
                    Option.bind (v9.1[0 + Int.toNat (IntKind.wrap .i64 (((List.length v9.1 : Nat) : Int) - 1))]?) fun r14 =>
                    if (roomFor (List.length v9.1 + List.length ([(r13.1, r14.2)] : List (Int × Int))) 16) = true then
                    some (v9.1 ++ ([(r13.1, r14.2)] : List (Int × Int)), c10.2.1, c10.2.2.1, c10.2.2.2)
                    else none
                    else none
                    else none
                  else
                    some (v9.1, c10.2.1, c10.2.2.1, c10.2.2.2)) fun v15 =>
              some (v15.1, v15.2.1, v15.2.2.1, v15.2.2.2)
            else
              some (v9.1, c10.2.1, c10.2.2.1, c10.2.2.2)) fun v16 =>
        some (v16.1, v16.2.1, v16.2.2.1, v16.2.2.2)) fun v17 =>
  some (v17.1, v17.2.1, v17.2.2.1, v17.2.2.2)
def s_l1In (x0 : Int) (x1 : Int) (x2 : Int) : Option (Bool) :=
  Option.bind (α := Bool) (
      if (decide ((x1 : Int) ≤ x0)) = true then
        some (decide ((x0 : Int) ≤ x2))
      else
      some false) fun v1 =>
  some v1
def s_GoodRuns_L1 (y : (List (Int × Int) × (Int × (Int × (Int × (List (Int × Int) × (Int × Int))))))) : Option ((List (Int × Int) × (Int × (Int × (Int × (List (Int × Int) × (Int × Int)))))) ⊕ ((Int × Int) ⊕ Bool)) :=
  if (decide ((y.2.2.2.2.2.2 : Int) < y.2.2.2.2.2.1)) = true then
    if (decide ((0 : Int) ≤ y.2.2.2.2.2.2)) = true then
    Option.bind (y.2.2.2.2.1[Int.toNat y.2.2.2.2.2.2]?) fun r4 =>
    Option.bind (α := (List (Int × Int) × (Int × (Int × (Int × (List (Int × Int) × (Int × (Int × (Bool × (Int × Int)))))))))) (
        Option.bind (s_l1In r4.1 0 y.2.2.1) fun c5 =>
        if (!c5) = true then
          some (y.1, y.2.1, y.2.2.1, y.2.2.2.1, y.2.2.2.2.1, y.2.2.2.2.2.1, y.2.2.2.2.2.2, true, r4.1, r4.2)
        else
          Option.bind (s_l1In r4.2 1 (IntKind.wrap .i64 (y.2.1 - y.2.2.2.1))) fun c6 =>
          if (!c6) = true then
            some (y.1, y.2.1, y.2.2.1, y.2.2.2.1, y.2.2.2.2.1, y.2.2.2.2.2.1, y.2.2.2.2.2.2, true, r4.1, r4.2)
          else
          if (decide ((0 : Int) < y.2.2.2.2.2.2)) = true then
            if (decide ((0 : Int) ≤ IntKind.wrap .i64 (y.2.2.2.2.2.2 - 1))) = true then
            Option.bind (y.1[Int.toNat (IntKind.wrap .i64 (y.2.2.2.2.2.2 - 1))]?) fun r7 =>
            some (y.1, y.2.1, y.2.2.1, y.2.2.2.1, y.2.2.2.2.1, y.2.2.2.2.2.1, y.2.2.2.2.2.2, decide ((r7.1 : Int) = r4.1), r4.1, r4.2)
            else none
          else
          some (y.1, y.2.1, y.2.2.1, y.2.2.2.1, y.2.2.2.2.1, y.2.2.2.2.2.1, y.2.2.2.2.2.2, false, r4.1, r4.2)) fun v8 =>
    if v8.2.2.2.2.2.2.2.1 = true then
      some (.inr (.inr false))
    else
      some (.inl (v8.1, v8.2.1, v8.2.2.1, IntKind.wrap .i64 (v8.2.2.2.1 + v8.2.2.2.2.2.2.2.2.2), v8.2.2.2.2.1, v8.2.2.2.2.2.1, IntKind.wrap .i64 (v8.2.2.2.2.2.2.1 + 1)))
    else none
  else
    some (.inr (.inl (y.2.1, y.2.2.2.1)))
def s_GoodRuns (x0 : List (Int × Int)) (x1 : Int) (x2 : Int) : Option (Bool) :=
  Option.bind (α := (List (Int × Int) × (Int × (Int × Bool)))) (
      Option.bind (s_l1In x1 0 120) fun c1 =>
      if (!c1) = true then
        some (x0, x1, x2, true)
      else
        Option.bind (s_l1In x2 0 60) fun c2 =>
        some (x0, x1, x2, (!c2))) fun v3 =>
  if v3.2.2.2 = true then
    some false
  else
    Option.bind (loopG s_GoodRuns_L1 (v3.1, v3.2.1, v3.2.2.1, 0, v3.1, ((List.length v3.1 : Nat) : Int), 0)) fun v9 =>
    match v9 with
    | .inl y10 =>
      some (decide ((y10.2 : Int) = y10.1))
    | .inr s11 =>
      some s11
def s_l1Kind (x0 : Int) (x1 : Int) (x2 : List UInt8) : Option (Int) :=
  Option.bind (α := (Bool × (Int × (Int × List UInt8)))) (
      if (decide ((0 : Int) < x0)) = true then
        if (decide ((x1 : Int) = 0)) = true then
          some (((x2 : List UInt8) == ([] : List UInt8)), x0, x1, x2)
        else
        some (false, x0, x1, x2)
      else
      some (false, x0, x1, x2)) fun v1 =>
  if v1.1 = true then
    some 1
  else
    Option.bind (α := (Bool × (Int × (Int × List UInt8)))) (
        if (decide ((v1.2.1 : Int) = 0)) = true then
          if (decide ((0 : Int) < v1.2.2.1)) = true then
            some (((v1.2.2.2 : List UInt8) == ([] : List UInt8)), v1.2.1, v1.2.2.1, v1.2.2.2)
          else
          some (false, v1.2.1, v1.2.2.1, v1.2.2.2)
        else
        some (false, v1.2.1, v1.2.2.1, v1.2.2.2)) fun v2 =>
    if v2.1 = true then
      some 2
    else
      Option.bind (α := Bool) (
          if (decide ((v2.2.1 : Int) = 0)) = true then
            if (decide ((v2.2.2.1 : Int) = 0)) = true then
              some (!((v2.2.2.2 : List UInt8) == ([] : List UInt8)))
            else
            some false
          else
          some false) fun v3 =>
      if v3 = true then
        some 3
      else
        some 0
def s_GoodChange_L1 (y : (List (Int × (Int × List UInt8)) × (Int × (Int × (List (Int × (Int × List UInt8)) × (Int × Int)))))) : Option ((List (Int × (Int × List UInt8)) × (Int × (Int × (List (Int × (Int × List UInt8)) × (Int × Int))))) ⊕ (Unit ⊕ Bool)) :=
  if (decide ((y.2.2.2.2.2 : Int) < y.2.2.2.2.1)) = true then
    if (decide ((0 : Int) ≤ y.2.2.2.2.2)) = true then
    Option.bind (y.2.2.2.1[Int.toNat y.2.2.2.2.2]?) fun r1 =>
    Option.bind (s_l1Kind r1.1 r1.2.1 r1.2.2) fun c2 =>
    Option.bind (α := (List (Int × (Int × List UInt8)) × (Int × (Int × (List (Int × (Int × List UInt8)) × (Int × (Int × (Bool × (Int × (Int × List UInt8)))))))))) (
        if (decide ((c2 : Int) = 0)) = true then
          some (y.1, y.2.1, y.2.2.1, y.2.2.2.1, y.2.2.2.2.1, y.2.2.2.2.2, true, r1.1, r1.2.1, r1.2.2)
        else
        if (decide ((0 : Int) < y.2.2.2.2.2)) = true then
          if (decide ((0 : Int) ≤ IntKind.wrap .i64 (y.2.2.2.2.2 - 1))) = true then
          Option.bind (y.1[Int.toNat (IntKind.wrap .i64 (y.2.2.2.2.2 - 1))]?) fun r3 =>
          Option.bind (s_l1Kind r3.1 r3.2.1 r3.2.2) fun c4 =>
          if (decide ((c4 : Int) = c2)) = true then
            some (y.1, y.2.1, y.2.2.1, y.2.2.2.1, y.2.2.2.2.1, y.2.2.2.2.2, true, r1.1, r1.2.1, r1.2.2)
          else
          if (decide ((120 : Int) < r1.1)) = true then
            some (y.1, y.2.1, y.2.2.1, y.2.2.2.1, y.2.2.2.2.1, y.2.2.2.2.2, true, r1.1, r1.2.1, r1.2.2)
          else
          if (decide ((120 : Int) < r1.2.1)) = true then
            some (y.1, y.2.1, y.2.2.1, y.2.2.2.1, y.2.2.2.2.1, y.2.2.2.2.2, true, r1.1, r1.2.1, r1.2.2)
          else
          some (y.1, y.2.1, y.2.2.1, y.2.2.2.1, y.2.2.2.2.1, y.2.2.2.2.2, decide ((120 : Int) < ((List.length r1.2.2 : Nat) : Int)), r1.1, r1.2.1, r1.2.2)
          else none
        else
        if (decide ((120 : Int) < r1.1)) = true then
          some (y.1, y.2.1, y.2.2.1, y.2.2.2.1, y.2.2.2.2.1, y.2.2.2.2.2, true, r1.1, r1.2.1, r1.2.2)
        else
        if (decide ((120 : Int) < r1.2.1)) = true then
          some (y.1, y.2.1, y.2.2.1, y.2.2.2.1, y.2.2.2.2.1, y.2.2.2.2.2, true, r1.1, r1.2.1, r1.2.2)
        else
        some (y.1, y.2.1, y.2.2.1, y.2.2.2.1, y.2.2.2.2.1, y.2.2.2.2.2, decide ((120 : Int) < ((List.length r1.2.2 : Nat) : Int)), r1.1, r1.2.1, r1.2.2)) fun v5 =>
    if v5.2.2.2.2.2.2.1 = true then
      some (.inr (.inr false))
    else
      Option.bind (α := (List (Int × (Int × List UInt8)) × (Int × (Int × (List (Int × (Int × List UInt8)) × (Int × (Int × Bool))))))) (
          if (decide ((120 : Int) < (IntKind.wrap .i64 (v5.2.1 + (IntKind.wrap .i64 (v5.2.2.2.2.2.2.2.1 + v5.2.2.2.2.2.2.2.2.1)))))) = true then
            some (v5.1, IntKind.wrap .i64 (v5.2.1 + (IntKind.wrap .i64 (v5.2.2.2.2.2.2.2.1 + v5.2.2.2.2.2.2.2.2.1))), IntKind.wrap .i64 (v5.2.2.1 + (IntKind.wrap .i64 (v5.2.2.2.2.2.2.2.1 + ((List.length v5.2.2.2.2.2.2.2.2.2 : Nat) : Int)))), v5.2.2.2.1, v5.2.2.2.2.1, v5.2.2.2.2.2.1, true)
          else
          some (v5.1, IntKind.wrap .i64 (v5.2.1 + (IntKind.wrap .i64 (v5.2.2.2.2.2.2.2.1 + v5.2.2.2.2.2.2.2.2.1))), IntKind.wrap .i64 (v5.2.2.1 + (IntKind.wrap .i64 (v5.2.2.2.2.2.2.2.1 + ((List.length v5.2.2.2.2.2.2.2.2.2 : Nat) : Int)))), v5.2.2.2.1, v5.2.2.2.2.1, v5.2.2.2.2.2.1, decide ((120 : Int) < (IntKind.wrap .i64 (v5.2.2.1 + (IntKind.wrap .i64 (v5.2.2.2.2.2.2.2.1 + ((List.length v5.2.2.2.2.2.2.2.2.2 : Nat) : Int)))))))) fun v6 =>
      if v6.2.2.2.2.2.2 = true then
        some (.inr (.inr false))
      else
        some (.inl (v6.1, v6.2.1, v6.2.2.1, v6.2.2.2.1, v6.2.2.2.2.1, IntKind.wrap .i64 (v6.2.2.2.2.2.1 + 1)))
    else none
  else
    some (.inr (.inl ()))
def s_GoodChange (x0 : List (Int × (Int × List UInt8))) : Option (Bool) :=
  Option.bind (loopG s_GoodChange_L1 (x0, 0, 0, x0, ((List.length x0 : Nat) : Int), 0)) fun v7 =>
  match v7 with
  | .inl y8 =>
    some true
  | .inr s9 =>
    some s9
def s_l1Source_L1 (y : (Int × (List (Int × (Int × List UInt8)) × (Int × Int)))) : Option ((Int × (List (Int × (Int × List UInt8)) × (Int × Int))) ⊕ Int) :=
  if (decide ((y.2.2.2 : Int) < y.2.2.1)) = true then
    if (decide ((0 : Int) ≤ y.2.2.2)) = true then
    Option.bind (y.2.1[Int.toNat y.2.2.2]?) fun r1 =>
    some (.inl (IntKind.wrap .i64 (y.1 + (IntKind.wrap .i64 (r1.1 + r1.2.1))), y.2.1, y.2.2.1, IntKind.wrap .i64 (y.2.2.2 + 1)))
    else none
  else
    some (.inr y.1)
def s_l1Source (x0 : List (Int × (Int × List UInt8))) : Option (Int) :=
  Option.bind (loopG s_l1Source_L1 (0, x0, ((List.length x0 : Nat) : Int), 0)) fun v2 =>
  some v2
def s_l1Target_L1 (y : (Int × (List (Int × (Int × List UInt8)) × (Int × Int)))) : Option ((Int × (List (Int × (Int × List UInt8)) × (Int × Int))) ⊕ Int) :=
  if (decide ((y.2.2.2 : Int) < y.2.2.1)) = true then
    if (decide ((0 : Int) ≤ y.2.2.2)) = true then
    Option.bind (y.2.1[Int.toNat y.2.2.2]?) fun r1 =>
    some (.inl (IntKind.wrap .i64 (y.1 + (IntKind.wrap .i64 (r1.1 + ((List.length r1.2.2 : Nat) : Int)))), y.2.1, y.2.2.1, IntKind.wrap .i64 (y.2.2.2 + 1)))
    else none
  else
    some (.inr y.1)
def s_l1Target (x0 : List (Int × (Int × List UInt8))) : Option (Int) :=
  Option.bind (loopG s_l1Target_L1 (0, x0, ((List.length x0 : Nat) : Int), 0)) fun v2 =>
  some v2
def s_GoodHistory_L1 (y : (Int × (List (List (Int × (Int × List UInt8))) × (Int × Int)))) : Option ((Int × (List (List (Int × (Int × List UInt8))) × (Int × Int))) ⊕ (Unit ⊕ Bool)) :=
  if (decide ((y.2.2.2 : Int) < y.2.2.1)) = true then
    if (decide ((0 : Int) ≤ y.2.2.2)) = true then
    Option.bind (y.2.1[Int.toNat y.2.2.2]?) fun r4 =>
    Option.bind (α := (List (List (Int × (Int × List UInt8))) × (Int × (Int × (Bool × List (Int × (Int × List UInt8))))))) (
        Option.bind (s_GoodChange r4) fun c5 =>
        if (!c5) = true then
          some (y.2.1, y.2.2.1, y.2.2.2, true, r4)
        else
          Option.bind (s_l1Source r4) fun c6 =>
          some (y.2.1, y.2.2.1, y.2.2.2, decide (¬ (c6 : Int) = y.1), r4)) fun v7 =>
    if v7.2.2.2.1 = true then
      some (.inr (.inr false))
    else
      Option.bind (s_l1Target v7.2.2.2.2) fun c8 =>
      some (.inl (c8, v7.1, v7.2.1, IntKind.wrap .i64 (v7.2.2.1 + 1)))
    else none
  else
    some (.inr (.inl ()))
def s_GoodHistory (x0 : Int) (x1 : List UInt8) (x2 : List (Int × Int)) (x3 : List (List (Int × (Int × List UInt8)))) : Option (Bool) :=
  Option.bind (α := (Bool × (Int × (List UInt8 × (List (Int × Int) × List (List (Int × (Int × List UInt8)))))))) (
      Option.bind (s_l1In x0 0 60) fun c1 =>
      if (!c1) = true then
        some (true, x0, x1, x2, x3)
      else
      if (decide ((120 : Int) < ((List.length x1 : Nat) : Int))) = true then
        some (true, x0, x1, x2, x3)
      else
        Option.bind (s_GoodRuns x2 ((List.length x1 : Nat) : Int) x0) fun c2 =>
        if (!c2) = true then
          some (true, x0, x1, x2, x3)
        else
        some (decide ((IntKind.wrap .i64 (60 - x0) : Int) < ((List.length x3 : Nat) : Int)), x0, x1, x2, x3)) fun v3 =>
  if v3.1 = true then
    some false
  else
    Option.bind (loopG s_GoodHistory_L1 (((List.length v3.2.2.1 : Nat) : Int), v3.2.2.2.2, ((List.length v3.2.2.2.2 : Nat) : Int), 0)) fun v9 =>
    match v9 with
    | .inl y10 =>
      some true
    | .inr s11 =>
      some s11
def s_l10Head (x0 : Int) (x1 : List UInt8) (x2 : List (Int × Int)) (x3 : List (List (Int × (Int × List UInt8)))) : Option (Int) :=
  some (IntKind.wrap .i64 (x0 + ((List.length x3 : Nat) : Int)))
def s_ApplyChange_L1 (y : (List UInt8 × (List UInt8 × (Int × (List (Int × (Int × List UInt8)) × (Int × Int)))))) : Option ((List UInt8 × (List UInt8 × (Int × (List (Int × (Int × List UInt8)) × (Int × Int))))) ⊕ (List UInt8)) :=
  if (decide ((y.2.2.2.2.2 : Int) < y.2.2.2.2.1)) = true then
    if (decide ((0 : Int) ≤ y.2.2.2.2.2)) = true then
    Option.bind (y.2.2.2.1[Int.toNat y.2.2.2.2.2]?) fun r4 =>
    if (decide ((0 : Int) ≤ y.2.2.1)) = true then
    if (decide ((y.2.2.1 : Int) ≤ IntKind.wrap .i64 (y.2.2.1 + r4.1))) = true then
    if (decide ((IntKind.wrap .i64 (y.2.2.1 + r4.1) : Int) ≤ ((List.length y.1 : Nat) : Int))) = true then
    if (decide ((((List.length y.1 : Nat) : Int) : Int) ≤ ((List.length y.1 : Nat) : Int))) = true then
    if (decide ((List.length (((y.1 : List UInt8).drop (Int.toNat y.2.2.1)).take (Int.toNat (IntKind.wrap .i64 (y.2.2.1 + r4.1)) - Int.toNat y.2.2.1)) + List.length r4.2.2 : Nat) ≤ 9223372036854775807)) = true then
    if (decide ((List.length y.2.1 + List.length ((((y.1 : List UInt8).drop (Int.toNat y.2.2.1)).take (Int.toNat (IntKind.wrap .i64 (y.2.2.1 + r4.1)) - Int.toNat y.2.2.1) : List UInt8) ++ r4.2.2) : Nat) ≤ 9223372036854775807)) = true then
    some (.inl (y.1, (y.2.1 : List UInt8) ++ ((((y.1 : List UInt8).drop (Int.toNat y.2.2.1)).take (Int.toNat (IntKind.wrap .i64 (y.2.2.1 + r4.1)) - Int.toNat y.2.2.1) : List UInt8) ++ r4.2.2), IntKind.wrap .i64 (y.2.2.1 + (IntKind.wrap .i64 (r4.1 + r4.2.1))), y.2.2.2.1, y.2.2.2.2.1, IntKind.wrap .i64 (y.2.2.2.2.2 + 1)))
    else none
    else none
    else none
    else none
    else none
    else none
    else none
  else
    some (.inr y.2.1)
def s_ApplyChange (x0 : List UInt8) (x1 : List (Int × (Int × List UInt8))) : Option ((List UInt8 × Bool)) :=
  Option.bind (α := (List UInt8 × (List (Int × (Int × List UInt8)) × Bool))) (
      Option.bind (s_GoodChange x1) fun c1 =>
      if (!c1) = true then
        some (x0, x1, true)
      else
        Option.bind (s_l1Source x1) fun c2 =>
        some (x0, x1, decide (¬ (c2 : Int) = ((List.length x0 : Nat) : Int)))) fun v3 =>
  if v3.2.2 = true then
    some (([] : List UInt8), false)
  else
    Option.bind (loopG s_ApplyChange_L1 (v3.1, ([] : List UInt8), 0, v3.2.1, ((List.length v3.2.1 : Nat) : Int), 0)) fun v5 =>
    some (v5, true)
def s_l10Text_L1 (y : (List UInt8 × (List (List (Int × (Int × List UInt8))) × (Int × Int)))) : Option ((List UInt8 × (List (List (Int × (Int × List UInt8))) × (Int × Int))) ⊕ (List UInt8)) :=
  if (decide ((y.2.2.2 : Int) < y.2.2.1)) = true then
    if (decide ((0 : Int) ≤ y.2.2.2)) = true then
    Option.bind (y.2.1[Int.toNat y.2.2.2]?) fun r1 =>
    Option.bind (s_ApplyChange y.1 r1) fun c2 =>
    some (.inl (c2.1, y.2.1, y.2.2.1, IntKind.wrap .i64 (y.2.2.2 + 1)))
    else none
  else
    some (.inr y.1)
def s_l10Text (x0 : Int) (x1 : List UInt8) (x2 : List (Int × Int)) (x3 : List (List (Int × (Int × List UInt8)))) (x4 : Int) : Option (List UInt8) :=
  if (decide ((0 : Int) ≤ 0)) = true then
  if (decide ((0 : Int) ≤ IntKind.wrap .i64 (x4 - x0))) = true then
  if (decide ((IntKind.wrap .i64 (x4 - x0) : Int) ≤ ((List.length x3 : Nat) : Int))) = true then
  if (decide ((((List.length x3 : Nat) : Int) : Int) ≤ ((List.length x3 : Nat) : Int))) = true then
  Option.bind (loopG s_l10Text_L1 (x1, (List.drop (Int.toNat 0) x3).take (Int.toNat (IntKind.wrap .i64 (x4 - x0)) - Int.toNat 0), ((List.length ((List.drop (Int.toNat 0) x3).take (Int.toNat (IntKind.wrap .i64 (x4 - x0)) - Int.toNat 0)) : Nat) : Int), 0)) fun v3 =>
  some v3
  else none
  else none
  else none
  else none
def s_l1Cur_of_f (x0 : List (List UInt8)) (x1 : List Int) (x2 : Int) (x3 : Int) : Option ((List UInt8 × (List Int × (Int × Int)))) :=
  Option.bind (s_l1Cur_pick_f ((List.length x0 : Nat) : Int) x1 x2 x3) fun c1 =>
  if (decide ((0 : Int) ≤ c1.1)) = true then
  if (decide ((c1.1 : Int) < ((List.length x0 : Nat) : Int))) = true then
  Option.bind (x0[0 + Int.toNat c1.1]?) fun r2 =>
  some (r2, c1.2.1, c1.2.2.1, c1.2.2.2)
  else none
  else none
def s_l1Cur_put_f (x0 : List Int) (x1 : Int) (x2 : Int) : Option ((List UInt8 × (List Int × (Int × Int)))) :=
  Option.bind (s_l1Cur_of_f [([97] : List UInt8), ([120, 121] : List UInt8), ([90, 122, 57] : List UInt8), ([0] : List UInt8), ([255, 254] : List UInt8), ([119, 111, 114, 100, 32] : List UInt8)] x0 x1 x2) fun c1 =>
  some (c1.1, c1.2.1, c1.2.2.1, c1.2.2.2)
def s_l1Add (x0 : List (Int × (Int × List UInt8))) (x1 : Int) (x2 : Int) (x3 : List UInt8) : Option (List (Int × (Int × List UInt8))) :=
  if (decide ((x1 : Int) = 0) && (decide ((x2 : Int) = 0) && (((x3 : List UInt8) == []) && true))) = true then
    some x0
  else
    Option.bind (α := (List (Int × (Int × List UInt8)) × (Int × (Bool × (Int × (Int × List UInt8)))))) (
        if (decide ((0 : Int) < ((List.length x0 : Nat) : Int))) = true then
          if (decide ((0 : Int) ≤ IntKind.wrap .i64 (((List.length x0 : Nat) : Int) - 1))) = true then
          if (decide ((IntKind.wrap .i64 (((List.length x0 : Nat) : Int) - 1) : Int) < ((List.length x0 : Nat) : Int))) = true then
          Option.bind (x0[0 + Int.toNat (IntKind.wrap .i64 (((List.length x0 : Nat) : Int) - 1))]?) fun r1 =>
          Option.bind (x0[0 + Int.toNat (IntKind.wrap .i64 (((List.length x0 : Nat) : Int) - 1))]?) fun r2 =>
          Option.bind (x0[0 + Int.toNat (IntKind.wrap .i64 (((List.length x0 : Nat) : Int) - 1))]?) fun r3 =>
          Option.bind (s_l1Kind r1.1 r2.2.1 r3.2.2) fun c4 =>
          Option.bind (s_l1Kind x1 x2 x3) fun c5 =>
          some (x0, ((List.length x0 : Nat) : Int), decide ((c4 : Int) = c5), x1, x2, x3)
          else none
          else none
        else
        some (x0, ((List.length x0 : Nat) : Int), false, x1, x2, x3)) fun v6 =>
    if v6.2.2.1 = true then
      if (decide ((0 : Int) ≤ IntKind.wrap .i64 (v6.2.1 - 1))) = true then
      if (decide ((IntKind.wrap .i64 (v6.2.1 - 1) : Int) < ((List.length v6.1 : Nat) : Int))) = true then
      Option.bind (v6.1[0 + Int.toNat (IntKind.wrap .i64 (v6.2.1 - 1))]?) fun r7 =>
      if (decide ((0 : Int) ≤ IntKind.wrap .i64 (v6.2.1 - 1))) = true then
      if (decide ((IntKind.wrap .i64 (v6.2.1 - 1) : Int) < ((List.length v6.1 : Nat) : Int))) = true then
      Option.bind (v6.1[0 + Int.toNat (IntKind.wrap .i64 (v6.2.1 - 1))]?) fun r8 =>
      if (decide ((0 : Int) ≤ IntKind.wrap .i64 (v6.2.1 - 1))) = true then
      if (decide ((IntKind.wrap .i64 (v6.2.1 - 1) : Int) < ((List.length v6.1 : Nat) : Int))) = true then
      Option.bind (v6.1[0 + Int.toNat (IntKind.wrap .i64 (v6.2.1 - 1))]?) fun r9 =>
      if (decide ((List.length r9.2.2 + List.length v6.2.2.2.2.2 : Nat) ≤ 9223372036854775807)) = true then
      if (decide ((0 : Int) ≤ IntKind.wrap .i64 (v6.2.1 - 1))) = true then
      if (decide ((IntKind.wrap .i64 (v6.2.1 - 1) : Int) < ((List.length v6.1 : Nat) : Int))) = true then
      Option.bind (v6.1[0 + Int.toNat (IntKind.wrap .i64 (v6.2.1 - 1))]?) fun r10 =>
      Option.bind (v6.1[0 + Int.toNat (IntKind.wrap .i64 (v6.2.1 - 1))]?) fun r11 =>
      Option.bind ((v6.1.set (0 + Int.toNat (IntKind.wrap .i64 (v6.2.1 - 1))) (IntKind.wrap .i64 (r7.1 + v6.2.2.2.1), r11.2))[0 + Int.toNat (IntKind.wrap .i64 (v6.2.1 - 1))]?) fun r12 =>
      Option.bind ((v6.1.set (0 + Int.toNat (IntKind.wrap .i64 (v6.2.1 - 1))) (IntKind.wrap .i64 (r7.1 + v6.2.2.2.1), r11.2))[0 + Int.toNat (IntKind.wrap .i64 (v6.2.1 - 1))]?) fun r13 =>
      Option.bind (((v6.1.set (0 + Int.toNat (IntKind.wrap .i64 (v6.2.1 - 1))) (IntKind.wrap .i64 (r7.1 + v6.2.2.2.1), r11.2)).set (0 + Int.toNat (IntKind.wrap .i64 (v6.2.1 - 1))) (r13.1, (IntKind.wrap .i64 (r8.2.1 + v6.2.2.2.2.1), r13.2.2)))[0 + Int.toNat (IntKind.wrap .i64 (v6.2.1 - 1))]?) fun r14 =>
      Option.bind (((v6.1.set (0 + Int.toNat (IntKind.wrap .i64 (v6.2.1 - 1))) (IntKind.wrap .i64 (r7.1 + v6.2.2.2.1), r11.2)).set (0 + Int.toNat (IntKind.wrap .i64 (v6.2.1 - 1))) (r13.1, (IntKind.wrap .i64 (r8.2.1 + v6.2.2.2.2.1), r13.2.2)))[0 + Int.toNat (IntKind.wrap .i64 (v6.2.1 - 1))]?) fun r15 =>
      some (((v6.1.set (0 + Int.toNat (IntKind.wrap .i64 (v6.2.1 - 1))) (IntKind.wrap .i64 (r7.1 + v6.2.2.2.1), r11.2)).set (0 + Int.toNat (IntKind.wrap .i64 (v6.2.1 - 1))) (r13.1, (IntKind.wrap .i64 (r8.2.1 + v6.2.2.2.2.1), r13.2.2))).set (0 + Int.toNat (IntKind.wrap .i64 (v6.2.1 - 1))) (r15.1, (r15.2.1, (r9.2.2 : List UInt8) ++ v6.2.2.2.2.2)))
      else none
      else none
      else none
      else none
      else none
      else none
      else none
      else none
      else none
    else
    if (roomFor (List.length v6.1 + List.length ([(v6.2.2.2.1, (v6.2.2.2.2.1, v6.2.2.2.2.2))] : List (Int × (Int × List UInt8)))) 32) = true then
    some (v6.1 ++ ([(v6.2.2.2.1, (v6.2.2.2.2.1, v6.2.2.2.2.2))] : List (Int × (Int × List UInt8))))
    else none
def s_l1Cur_wide_f_L1 (y : (Int × (Int × (List Int × (Int × Int))))) : Option ((Int × (Int × (List Int × (Int × Int)))) ⊕ (Int × (List Int × (Int × Int)))) :=
  if (decide ((y.2.1 : Int) < 8)) = true then
    if (decide ((0 : Int) ≤ 8)) = true then
    Option.bind (s_l1Cur_next_f y.2.2.1 y.2.2.2.1 y.2.2.2.2) fun c1 =>
    some (.inl (IntKind.wrap .i64 (((BitVec.ofInt (IntKind.bits .i64) (IntKind.wrap .i64 (y.1 * 2 ^ (min (Int.toNat 8) (IntKind.bits .i64)))) ||| BitVec.ofInt (IntKind.bits .i64) c1.1).toNat : Int)), IntKind.wrap .i64 (y.2.1 + 1), c1.2.1, c1.2.2.1, c1.2.2.2))
    else none
  else
    some (.inr (y.1, y.2.2.1, y.2.2.2.1, y.2.2.2.2))
def s_l1Cur_wide_f (x0 : List Int) (x1 : Int) (x2 : Int) : Option ((Int × (List Int × (Int × Int)))) :=
  Option.bind (loopG s_l1Cur_wide_f_L1 (0, 0, x0, x1, x2)) fun v2 =>
  some (v2.1, v2.2.1, v2.2.2.1, v2.2.2.2)
def s_l1Cur_sized_f (x0 : List Int) (x1 : Int) (x2 : Int) : Option ((Int × (List Int × (Int × Int)))) :=
  Option.bind (s_l1Cur_pick_f 5 x0 x1 x2) fun c1 =>
  Option.bind (s_l1Cur_pick_f 8 c1.2.1 c1.2.2.1 c1.2.2.2) fun c2 =>
  Option.bind (α := (Int × (List Int × (Int × Int)))) (
      if (decide ((c2.1 : Int) = 0)) = true then
        Option.bind (s_l1Cur_pick_f 300 c2.2.1 c2.2.2.1 c2.2.2.2) fun c3 =>
        some (c3.1, c3.2.1, c3.2.2.1, c3.2.2.2)
      else
        Option.bind (α := (Int × (List Int × (Int × Int)))) (
            if (decide ((c2.1 : Int) = 1)) = true then
              Option.bind (s_l1Cur_wide_f c2.2.1 c2.2.2.1 c2.2.2.2) fun c4 =>
              Option.bind (s_l1Cur_pick_f 64 c4.2.1 c4.2.2.1 c4.2.2.2) fun c5 =>
              if (decide ((0 : Int) ≤ IntKind.wrap .u64 c5.1)) = true then
              some (Int.fdiv c4.1 (2 ^ (min (Int.toNat (IntKind.wrap .u64 c5.1)) (IntKind.bits .i64))), c5.2.1, c5.2.2.1, c5.2.2.2)
              else none
            else
              Option.bind (α := (Int × (List Int × (Int × Int)))) (
                  if (decide ((c2.1 : Int) = 2)) = true then
                    Option.bind (s_l1Cur_pick_f 64 c2.2.1 c2.2.2.1 c2.2.2.2) fun c6 =>
                    if (decide ((0 : Int) ≤ IntKind.wrap .u64 c6.1)) = true then
                    some (IntKind.wrap .i64 (1 * 2 ^ (min (Int.toNat (IntKind.wrap .u64 c6.1)) (IntKind.bits .i64))), c6.2.1, c6.2.2.1, c6.2.2.2)
                    else none
                  else
                    Option.bind (α := (Int × (List Int × (Int × Int)))) (
                        if (decide ((c2.1 : Int) = 3)) = true then
                          Option.bind (s_l1Cur_pick_f 64 c2.2.1 c2.2.2.1 c2.2.2.2) fun c7 =>
                          if (decide ((0 : Int) ≤ IntKind.wrap .u64 c7.1)) = true then
                          some (IntKind.wrap .i64 ((IntKind.wrap .i64 (1 * 2 ^ (min (Int.toNat (IntKind.wrap .u64 c7.1)) (IntKind.bits .i64)))) - 1), c7.2.1, c7.2.2.1, c7.2.2.2)
                          else none
                        else
                          some (c1.1, c2.2.1, c2.2.2.1, c2.2.2.2)) fun v8 =>
                    some (v8.1, v8.2.1, v8.2.2.1, v8.2.2.2)) fun v9 =>
              some (v9.1, v9.2.1, v9.2.2.1, v9.2.2.2)) fun v10 =>
        some (v10.1, v10.2.1, v10.2.2.1, v10.2.2.2)) fun v11 =>
  Option.bind (s_l1Cur_one_f 3 v11.2.1 v11.2.2.1 v11.2.2.2) fun c12 =>
  Option.bind (α := (Int × (List Int × (Int × Int)))) (
      if c12.1 = true then
        some (IntKind.wrap .i64 (0 - v11.1), c12.2.1, c12.2.2.1, c12.2.2.2)
      else
        some (v11.1, c12.2.1, c12.2.2.1, c12.2.2.2)) fun v13 =>
  some (v13.1, v13.2.1, v13.2.2.1, v13.2.2.2)
def s_l1Cur_part_f (x0 : List Int) (x1 : Int) (x2 : Int) : Option ((Int × (Int × (List UInt8 × (List Int × (Int × Int)))))) :=
  Option.bind (s_l1Cur_pick_f 5 x0 x1 x2) fun c1 =>
  if (decide ((c1.1 : Int) = 0)) = true then
    some (0, 0, [], c1.2.1, c1.2.2.1, c1.2.2.2)
  else
  if (decide ((c1.1 : Int) = 1)) = true then
    Option.bind (s_l1Cur_sized_f c1.2.1 c1.2.2.1 c1.2.2.2) fun c2 =>
    some (c2.1, 0, [], c2.2.1, c2.2.2.1, c2.2.2.2)
  else
  if (decide ((c1.1 : Int) = 2)) = true then
    Option.bind (s_l1Cur_sized_f c1.2.1 c1.2.2.1 c1.2.2.2) fun c3 =>
    some (0, c3.1, [], c3.2.1, c3.2.2.1, c3.2.2.2)
  else
  if (decide ((c1.1 : Int) = 3)) = true then
    some (1, 0, ([97] : List UInt8), c1.2.1, c1.2.2.1, c1.2.2.2)
  else
    Option.bind (s_l1Cur_pick_f 2 c1.2.1 c1.2.2.1 c1.2.2.2) fun c4 =>
    if (decide ((0 : Int) ≤ IntKind.wrap .i64 (120 + c4.1))) = true then
    if (decide ((IntKind.wrap .i64 (120 + c4.1) : Int) ≤ IntKind.wrap .i64 (120 + c4.1))) = true then
    if (roomFor (Int.toNat (IntKind.wrap .i64 (120 + c4.1))) 1) = true then
    some (0, 0, textOf (List.replicate (Int.toNat (IntKind.wrap .i64 (120 + c4.1))) (0 : Int)), c4.2.1, c4.2.2.1, c4.2.2.2)
    else none
    else none
    else none
def s_l1Cur_changeOf_f_L1 (y : (Int × (List (Int × (Int × List UInt8)) × (Int × (List Int × (Int × Int)))))) : Option ((Int × (List (Int × (Int × List UInt8)) × (Int × (List Int × (Int × Int))))) ⊕ (List (Int × (Int × List UInt8)) × (Int × (List Int × (Int × Int))))) :=
  if (decide ((0 : Int) < y.1)) = true then
    Option.bind (s_l1Cur_put_f y.2.2.2.1 y.2.2.2.2.1 y.2.2.2.2.2) fun c14 =>
    Option.bind (α := (Int × (List (Int × (Int × List UInt8)) × (Int × (List UInt8 × (Bool × (List Int × (Int × Int)))))))) (
        Option.bind (s_l1Cur_one_f 3 c14.2.1 c14.2.2.1 c14.2.2.2) fun c15 =>
        if c15.1 = true then
          some (y.1, y.2.1, y.2.2.1, c14.1, decide ((((List.length c14.1 : Nat) : Int) : Int) ≤ y.2.2.1), c15.2.1, c15.2.2.1, c15.2.2.2)
        else
        some (y.1, y.2.1, y.2.2.1, c14.1, false, c15.2.1, c15.2.2.1, c15.2.2.2)) fun v16 =>
    Option.bind (α := (Int × (List (Int × (Int × List UInt8)) × (Int × (List Int × (Int × Int)))))) (
        if v16.2.2.2.2.1 = true then
          Option.bind (s_l1Add v16.2.1 0 0 v16.2.2.2.1) fun c17 =>
          some (v16.1, c17, IntKind.wrap .i64 (v16.2.2.1 - ((List.length v16.2.2.2.1 : Nat) : Int)), v16.2.2.2.2.2.1, v16.2.2.2.2.2.2.1, v16.2.2.2.2.2.2.2)
        else
          some (v16.1, v16.2.1, v16.2.2.1, v16.2.2.2.2.2.1, v16.2.2.2.2.2.2.1, v16.2.2.2.2.2.2.2)) fun v18 =>
    Option.bind (s_l1Cur_pick_f 6 v18.2.2.2.1 v18.2.2.2.2.1 v18.2.2.2.2.2) fun c19 =>
    Option.bind (s_l1Cur_one_f 6 c19.2.1 c19.2.2.1 c19.2.2.2) fun c20 =>
    Option.bind (α := (Int × (List (Int × (Int × List UInt8)) × (Int × (Int × (List Int × (Int × Int))))))) (
        if c20.1 = true then
          some (v18.1, v18.2.1, v18.2.2.1, v18.1, c20.2.1, c20.2.2.1, c20.2.2.2)
        else
          some (v18.1, v18.2.1, v18.2.2.1, IntKind.wrap .i64 (1 + c19.1), c20.2.1, c20.2.2.1, c20.2.2.2)) fun v21 =>
    Option.bind (α := (Int × (List (Int × (Int × List UInt8)) × (Int × (Int × (List Int × (Int × Int))))))) (
        if (decide ((v21.1 : Int) < v21.2.2.2.1)) = true then
          some (v21.1, v21.2.1, v21.2.2.1, v21.1, v21.2.2.2.2.1, v21.2.2.2.2.2.1, v21.2.2.2.2.2.2)
        else
          some (v21.1, v21.2.1, v21.2.2.1, v21.2.2.2.1, v21.2.2.2.2.1, v21.2.2.2.2.2.1, v21.2.2.2.2.2.2)) fun v22 =>
    Option.bind (s_l1Cur_one_f 3 v22.2.2.2.2.1 v22.2.2.2.2.2.1 v22.2.2.2.2.2.2) fun c23 =>
    Option.bind (α := (Int × (List (Int × (Int × List UInt8)) × (Int × (Int × (List Int × (Int × Int))))))) (
        if c23.1 = true then
          Option.bind (s_l1Add v22.2.1 0 v22.2.2.2.1 []) fun c24 =>
          some (v22.1, c24, IntKind.wrap .i64 (v22.2.2.1 + v22.2.2.2.1), v22.2.2.2.1, c23.2.1, c23.2.2.1, c23.2.2.2)
        else
          Option.bind (s_l1Add v22.2.1 v22.2.2.2.1 0 []) fun c25 =>
          some (v22.1, c25, v22.2.2.1, v22.2.2.2.1, c23.2.1, c23.2.2.1, c23.2.2.2)) fun v26 =>
    some (.inl (IntKind.wrap .i64 (v26.1 - v26.2.2.2.1), v26.2.1, v26.2.2.1, v26.2.2.2.2.1, v26.2.2.2.2.2.1, v26.2.2.2.2.2.2))
  else
    some (.inr (y.2.1, y.2.2.1, y.2.2.2.1, y.2.2.2.2.1, y.2.2.2.2.2))
def s_l1Cur_changeOf_f (x0 : Int) (x1 : List Int) (x2 : Int) (x3 : Int) : Option ((List (Int × (Int × List UInt8)) × (List Int × (Int × Int)))) :=
  Option.bind (loopG s_l1Cur_changeOf_f_L1 (x0, [], IntKind.wrap .i64 (120 - x0), x1, x2, x3)) fun v27 =>
  Option.bind (s_l1Cur_put_f v27.2.2.1 v27.2.2.2.1 v27.2.2.2.2) fun c28 =>
  Option.bind (α := (List (Int × (Int × List UInt8)) × (List UInt8 × (Bool × (List Int × (Int × Int)))))) (
      Option.bind (s_l1Cur_one_f 2 c28.2.1 c28.2.2.1 c28.2.2.2) fun c29 =>
      if c29.1 = true then
        some (v27.1, c28.1, decide ((((List.length c28.1 : Nat) : Int) : Int) ≤ v27.2.1), c29.2.1, c29.2.2.1, c29.2.2.2)
      else
      some (v27.1, c28.1, false, c29.2.1, c29.2.2.1, c29.2.2.2)) fun v30 =>
  Option.bind (α := (List (Int × (Int × List UInt8)) × (List Int × (Int × Int)))) (
      if v30.2.2.1 = true then
        Option.bind (s_l1Add v30.1 0 0 v30.2.1) fun c31 =>
        some (c31, v30.2.2.2.1, v30.2.2.2.2.1, v30.2.2.2.2.2)
      else
        some (v30.1, v30.2.2.2.1, v30.2.2.2.2.1, v30.2.2.2.2.2)) fun v32 =>
  Option.bind (s_l1Cur_one_f 60 v32.2.1 v32.2.2.1 v32.2.2.2) fun c33 =>
  Option.bind (α := (List (Int × (Int × List UInt8)) × (List Int × (Int × Int)))) (
      if c33.1 = true then
        Option.bind (s_l1Cur_part_f c33.2.1 c33.2.2.1 c33.2.2.2) fun c34 =>
        if (roomFor (List.length v32.1 + List.length ([(c34.1, (c34.2.1, c34.2.2.1))] : List (Int × (Int × List UInt8)))) 32) = true then
        some (v32.1 ++ ([(c34.1, (c34.2.1, c34.2.2.1))] : List (Int × (Int × List UInt8))), c34.2.2.2.1, c34.2.2.2.2.1, c34.2.2.2.2.2)
        else none
      else
        some (v32.1, c33.2.1, c33.2.2.1, c33.2.2.2)) fun v35 =>
  some (v35.1, v35.2.1, v35.2.2.1, v35.2.2.2)
def s_l10Range (x0 : Int) (x1 : List UInt8) (x2 : List (Int × Int)) (x3 : List (List (Int × (Int × List UInt8)))) (x4 : Int) (x5 : Int) : Option (Int) :=
  Option.bind (s_GoodHistory x0 x1 x2 x3) fun c1 =>
  if (!c1) = true then
    some 1
  else
    Option.bind (α := Bool) (
        Option.bind (s_l1In x4 x0 x5) fun c2 =>
        if (!c2) = true then
          some true
        else
          Option.bind (s_l10Head x0 x1 x2 x3) fun c3 =>
          some (decide ((c3 : Int) < x5))) fun v4 =>
    if v4 = true then
      some 2
    else
      some 0
def s_l1Open_L1 (y : (Int × (List (Int × (Int × List UInt8)) × (Int × (Int × (List Bool × (List (List UInt8) × (Int × (Int × List UInt8))))))))) : Option ((Int × (List (Int × (Int × List UInt8)) × (Int × (Int × (List Bool × (List (List UInt8) × (Int × (Int × List UInt8)))))))) ⊕ (List (Int × (Int × List UInt8)) × (Int × (Int × (List Bool × List (List UInt8)))))) :=
  if (decide ((y.1 : Int) < (IntKind.wrap .i64 (y.2.2.2.2.2.2.1 + y.2.2.2.2.2.2.2.1)))) = true then
    if (roomFor (List.length y.2.2.2.2.1 + List.length ([decide ((0 : Int) < y.2.2.2.2.2.2.1)] : List Bool)) 1) = true then
    if (roomFor (List.length y.2.2.2.2.2.1 + List.length ([([] : List UInt8)] : List (List UInt8))) 16) = true then
    some (.inl (IntKind.wrap .i64 (y.1 + 1), y.2.1, y.2.2.1, y.2.2.2.1, y.2.2.2.2.1 ++ ([decide ((0 : Int) < y.2.2.2.2.2.2.1)] : List Bool), y.2.2.2.2.2.1 ++ ([([] : List UInt8)] : List (List UInt8)), y.2.2.2.2.2.2.1, y.2.2.2.2.2.2.2.1, y.2.2.2.2.2.2.2.2))
    else none
    else none
  else
    some (.inr (y.2.1, y.2.2.1, y.2.2.2.1, y.2.2.2.2.1, y.2.2.2.2.2.1))
def s_l1Open_L2 (y : (List (Int × (Int × List UInt8)) × (Int × (Int × (List Bool × List (List UInt8)))))) : Option ((List (Int × (Int × List UInt8)) × (Int × (Int × (List Bool × List (List UInt8))))) ⊕ (List Bool × List (List UInt8))) :=
  if (decide ((y.2.2.1 : Int) < y.2.1)) = true then
    if (decide ((0 : Int) ≤ y.2.2.1)) = true then
    Option.bind (y.1[Int.toNat y.2.2.1]?) fun r6 =>
    if (decide ((0 : Int) ≤ IntKind.wrap .i64 (((List.length y.2.2.2.2 : Nat) : Int) - 1))) = true then
    if (decide ((IntKind.wrap .i64 (((List.length y.2.2.2.2 : Nat) : Int) - 1) : Int) < ((List.length y.2.2.2.2 : Nat) : Int))) = true then
    Option.bind (y.2.2.2.2[0 + Int.toNat (IntKind.wrap .i64 (((List.length y.2.2.2.2 : Nat) : Int) - 1))]?) fun r7 =>
    if (decide ((List.length r7 + List.length r6.2.2 : Nat) ≤ 9223372036854775807)) = true then
    if (decide ((0 : Int) ≤ IntKind.wrap .i64 (((List.length y.2.2.2.2 : Nat) : Int) - 1))) = true then
    if (decide ((IntKind.wrap .i64 (((List.length y.2.2.2.2 : Nat) : Int) - 1) : Int) < ((List.length y.2.2.2.2 : Nat) : Int))) = true then
    Option.bind (y.2.2.2.2[0 + Int.toNat (IntKind.wrap .i64 (((List.length y.2.2.2.2 : Nat) : Int) - 1))]?) fun r8 =>
    Option.bind (y.2.2.2.2[0 + Int.toNat (IntKind.wrap .i64 (((List.length y.2.2.2.2 : Nat) : Int) - 1))]?) fun r9 =>
    Option.bind (loopG s_l1Open_L1 (0, y.1, y.2.1, y.2.2.1, y.2.2.2.1, y.2.2.2.2.set (0 + Int.toNat (IntKind.wrap .i64 (((List.length y.2.2.2.2 : Nat) : Int) - 1))) ((r7 : List UInt8) ++ r6.2.2), r6.1, r6.2.1, r6.2.2)) fun v10 =>
    some (.inl (v10.1, v10.2.1, IntKind.wrap .i64 (v10.2.2.1 + 1), v10.2.2.2.1, v10.2.2.2.2))
    else none
    else none
    else none
    else none
    else none
    else none
  else
    some (.inr (y.2.2.2.1, y.2.2.2.2))
def s_l1Open (x0 : List (Int × (Int × List UInt8))) : Option ((List Bool × List (List UInt8))) :=
  Option.bind (loopG s_l1Open_L2 (x0, ((List.length x0 : Nat) : Int), 0, [], [([] : List UInt8)])) fun v11 =>
  some (v11.1, v11.2)
def s_l1Close_L1 (y : (List (Int × (Int × List UInt8)) × (List (List UInt8) × (Int × (Int × (List Bool × List (List UInt8))))))) : Option ((List (Int × (Int × List UInt8)) × (List (List UInt8) × (Int × (Int × (List Bool × List (List UInt8)))))) ⊕ (List (Int × (Int × List UInt8)))) :=
  if (decide ((y.2.2.2.1 : Int) < y.2.2.1)) = true then
    if (decide ((0 : Int) ≤ y.2.2.2.1)) = true then
    Option.bind (y.2.1[Int.toNat y.2.2.2.1]?) fun r8 =>
    Option.bind (s_l1Add y.1 0 0 r8) fun c9 =>
    Option.bind (α := (List (Int × (Int × List UInt8)) × (List (List UInt8) × (Int × (Int × (List Bool × List (List UInt8))))))) (
        if (decide ((y.2.2.2.1 : Int) < ((List.length y.2.2.2.2.1 : Nat) : Int))) = true then
          if (decide ((0 : Int) ≤ y.2.2.2.1)) = true then
          Option.bind (y.2.2.2.2.1[Int.toNat y.2.2.2.1]?) fun r10 =>
          Option.bind (α := (List (Int × (Int × List UInt8)) × (List (List UInt8) × (Int × (Int × (List Bool × List (List UInt8))))))) (
              if r10 = true then
                Option.bind (s_l1Add c9 1 0 []) fun c11 =>
                some (c11, y.2.1, y.2.2.1, y.2.2.2.1, y.2.2.2.2.1, y.2.2.2.2.2)
              else
                Option.bind (s_l1Add c9 0 1 []) fun c12 =>
                some (c12, y.2.1, y.2.2.1, y.2.2.2.1, y.2.2.2.2.1, y.2.2.2.2.2)) fun v13 =>
          some (v13.1, v13.2.1, v13.2.2.1, v13.2.2.2.1, v13.2.2.2.2.1, v13.2.2.2.2.2)
          else none
        else
          some (c9, y.2.1, y.2.2.1, y.2.2.2.1, y.2.2.2.2.1, y.2.2.2.2.2)) fun v14 =>
    some (.inl (v14.1, v14.2.1, v14.2.2.1, IntKind.wrap .i64 (v14.2.2.2.1 + 1), v14.2.2.2.2.1, v14.2.2.2.2.2))
    else none
  else
    some (.inr y.1)
def s_l1Close (x0 : List Bool) (x1 : List (List UInt8)) : Option (List (Int × (Int × List UInt8))) :=
  Option.bind (loopG s_l1Close_L1 ([], x1, ((List.length x1 : Nat) : Int), 0, x0, x1)) fun v15 =>
  some v15
def s_l1Compose_L1 (y : (Int × (Int × (List UInt8 × (Int × (List (List UInt8) × (Int × (Int × (List Bool × (List Bool × (List (List UInt8) × (List Bool × List (List UInt8))))))))))))) : Option ((Int × (Int × (List UInt8 × (Int × (List (List UInt8) × (Int × (Int × (List Bool × (List Bool × (List (List UInt8) × (List Bool × List (List UInt8)))))))))))) ⊕ (Int × (Int × (List (List UInt8) × (Int × (Int × (List Bool × (List Bool × (List (List UInt8) × (List Bool × List (List UInt8))))))))))) :=
  if (decide ((y.2.2.2.1 : Int) < ((List.length y.2.2.1 : Nat) : Int))) = true then
    if (decide ((0 : Int) ≤ y.1)) = true then
    if (decide ((y.1 : Int) < ((List.length y.2.2.2.2.2.2.2.2.1 : Nat) : Int))) = true then
    Option.bind (y.2.2.2.2.2.2.2.2.1[0 + Int.toNat y.1]?) fun r26 =>
    Option.bind (α := (Int × (Int × (List UInt8 × (Int × (List (List UInt8) × (Int × (Int × (List Bool × (List Bool × (List (List UInt8) × (List Bool × List (List UInt8))))))))))))) (
        if r26 = true then
          if (decide ((0 : Int) ≤ y.2.1)) = true then
          if (decide ((y.2.1 : Int) < ((List.length y.2.2.2.2.2.2.2.2.2.2.2 : Nat) : Int))) = true then
          Option.bind (y.2.2.2.2.2.2.2.2.2.2.2[0 + Int.toNat y.2.1]?) fun r27 =>
          if (decide ((0 : Int) ≤ y.2.2.2.1)) = true then
          if (decide ((y.2.2.2.1 : Int) ≤ IntKind.wrap .i64 (y.2.2.2.1 + 1))) = true then
          if (decide ((IntKind.wrap .i64 (y.2.2.2.1 + 1) : Int) ≤ ((List.length y.2.2.1 : Nat) : Int))) = true then
          if (decide ((((List.length y.2.2.1 : Nat) : Int) : Int) ≤ ((List.length y.2.2.1 : Nat) : Int))) = true then
          if (decide ((List.length r27 + List.length (((y.2.2.1 : List UInt8).drop (Int.toNat y.2.2.2.1)).take (Int.toNat (IntKind.wrap .i64 (y.2.2.2.1 + 1)) - Int.toNat y.2.2.2.1)) : Nat) ≤ 9223372036854775807)) = true then
          if (decide ((0 : Int) ≤ y.2.1)) = true then
          if (decide ((y.2.1 : Int) < ((List.length y.2.2.2.2.2.2.2.2.2.2.2 : Nat) : Int))) = true then
          Option.bind (y.2.2.2.2.2.2.2.2.2.2.2[0 + Int.toNat y.2.1]?) fun r28 =>
          Option.bind (y.2.2.2.2.2.2.2.2.2.2.2[0 + Int.toNat y.2.1]?) fun r29 =>
          some (y.1, y.2.1, y.2.2.1, y.2.2.2.1, y.2.2.2.2.1, y.2.2.2.2.2.1, y.2.2.2.2.2.2.1, y.2.2.2.2.2.2.2.1, y.2.2.2.2.2.2.2.2.1, y.2.2.2.2.2.2.2.2.2.1, y.2.2.2.2.2.2.2.2.2.2.1, y.2.2.2.2.2.2.2.2.2.2.2.set (0 + Int.toNat y.2.1) ((r27 : List UInt8) ++ (((y.2.2.1 : List UInt8).drop (Int.toNat y.2.2.2.1)).take (Int.toNat (IntKind.wrap .i64 (y.2.2.2.1 + 1)) - Int.toNat y.2.2.2.1))))
          else none
          else none
          else none
          else none
          else none
          else none
          else none
          else none
          else none
        else
          some (y.1, y.2.1, y.2.2.1, y.2.2.2.1, y.2.2.2.2.1, y.2.2.2.2.2.1, y.2.2.2.2.2.2.1, y.2.2.2.2.2.2.2.1, y.2.2.2.2.2.2.2.2.1, y.2.2.2.2.2.2.2.2.2.1, y.2.2.2.2.2.2.2.2.2.2.1, y.2.2.2.2.2.2.2.2.2.2.2)) fun v30 =>
    if (decide ((0 : Int) ≤ v30.2.1)) = true then
    if (decide ((v30.2.1 : Int) < ((List.length v30.2.2.2.2.2.2.2.2.2.2.2 : Nat) : Int))) = true then
    Option.bind (v30.2.2.2.2.2.2.2.2.2.2.2[0 + Int.toNat v30.2.1]?) fun r31 =>
    if (decide ((0 : Int) ≤ IntKind.wrap .i64 (v30.1 + 1))) = true then
    if (decide ((IntKind.wrap .i64 (v30.1 + 1) : Int) < ((List.length v30.2.2.2.2.2.2.2.2.2.1 : Nat) : Int))) = true then
    Option.bind (v30.2.2.2.2.2.2.2.2.2.1[0 + Int.toNat (IntKind.wrap .i64 (v30.1 + 1))]?) fun r32 =>
    if (decide ((List.length r31 + List.length r32 : Nat) ≤ 9223372036854775807)) = true then
    if (decide ((0 : Int) ≤ v30.2.1)) = true then
    if (decide ((v30.2.1 : Int) < ((List.length v30.2.2.2.2.2.2.2.2.2.2.2 : Nat) : Int))) = true then
    Option.bind (v30.2.2.2.2.2.2.2.2.2.2.2[0 + Int.toNat v30.2.1]?) fun r33 =>
    Option.bind (v30.2.2.2.2.2.2.2.2.2.2.2[0 + Int.toNat v30.2.1]?) fun r34 =>
    some (.inl (IntKind.wrap .i64 (v30.1 + 1), v30.2.1, v30.2.2.1, IntKind.wrap .i64 (v30.2.2.2.1 + 1), v30.2.2.2.2.1, v30.2.2.2.2.2.1, v30.2.2.2.2.2.2.1, v30.2.2.2.2.2.2.2.1, v30.2.2.2.2.2.2.2.2.1, v30.2.2.2.2.2.2.2.2.2.1, v30.2.2.2.2.2.2.2.2.2.2.1, v30.2.2.2.2.2.2.2.2.2.2.2.set (0 + Int.toNat v30.2.1) ((r31 : List UInt8) ++ r32)))
    else none
    else none
    else none
    else none
    else none
    else none
    else none
    else none
    else none
  else
    some (.inr (y.1, y.2.1, y.2.2.2.2.1, y.2.2.2.2.2.1, y.2.2.2.2.2.2.1, y.2.2.2.2.2.2.2.1, y.2.2.2.2.2.2.2.2.1, y.2.2.2.2.2.2.2.2.2.1, y.2.2.2.2.2.2.2.2.2.2.1, y.2.2.2.2.2.2.2.2.2.2.2))
def s_l1Compose_L2 (y : (Int × (List (List UInt8) × (Int × (Int × (List Bool × (List Bool × (List (List UInt8) × (List Bool × List (List UInt8)))))))))) : Option ((Int × (List (List UInt8) × (Int × (Int × (List Bool × (List Bool × (List (List UInt8) × (List Bool × List (List UInt8))))))))) ⊕ (List Bool × List (List UInt8))) :=
  if (decide ((y.2.2.2.1 : Int) < y.2.2.1)) = true then
    Option.bind (α := (Int × (List (List UInt8) × (Int × (Int × (List Bool × (List Bool × (List (List UInt8) × (List Bool × List (List UInt8))))))))) ⊕ (List Bool × List (List UInt8))) (
        if (decide ((0 : Int) ≤ y.2.2.2.1)) = true then
        if (decide ((y.2.2.2.1 : Int) < ((List.length y.2.1 : Nat) : Int))) = true then
        Option.bind (y.2.1[0 + Int.toNat y.2.2.2.1]?) fun r25 =>
        Option.bind (loopG s_l1Compose_L1 (y.1, y.2.2.2.1, r25, 0, y.2.1, y.2.2.1, y.2.2.2.1, y.2.2.2.2.1, y.2.2.2.2.2.1, y.2.2.2.2.2.2.1, y.2.2.2.2.2.2.2.1, y.2.2.2.2.2.2.2.2)) fun v35 =>
        if (decide ((v35.2.1 : Int) = ((List.length v35.2.2.2.2.2.1 : Nat) : Int))) = true then
          some (.inr (v35.2.2.2.2.2.2.2.2.1, v35.2.2.2.2.2.2.2.2.2))
        else
        if (decide ((0 : Int) ≤ v35.2.1)) = true then
        if (decide ((v35.2.1 : Int) < ((List.length v35.2.2.2.2.2.1 : Nat) : Int))) = true then
        Option.bind (v35.2.2.2.2.2.1[0 + Int.toNat v35.2.1]?) fun r36 =>
        if (!r36) = true then
          if (roomFor (List.length v35.2.2.2.2.2.2.2.2.1 + List.length ([false] : List Bool)) 1) = true then
          some (.inl (v35.1, v35.2.2.1, v35.2.2.2.1, v35.2.2.2.2.1, v35.2.2.2.2.2.1, v35.2.2.2.2.2.2.1, v35.2.2.2.2.2.2.2.1, v35.2.2.2.2.2.2.2.2.1 ++ ([false] : List Bool), v35.2.2.2.2.2.2.2.2.2))
          else none
        else
        if (decide ((0 : Int) ≤ v35.1)) = true then
        if (decide ((v35.1 : Int) < ((List.length v35.2.2.2.2.2.2.1 : Nat) : Int))) = true then
        Option.bind (v35.2.2.2.2.2.2.1[0 + Int.toNat v35.1]?) fun r37 =>
        if (roomFor (List.length v35.2.2.2.2.2.2.2.2.1 + List.length ([r37] : List Bool)) 1) = true then
        if (decide ((0 : Int) ≤ IntKind.wrap .i64 (v35.1 + 1))) = true then
        if (decide ((IntKind.wrap .i64 (v35.1 + 1) : Int) < ((List.length v35.2.2.2.2.2.2.2.1 : Nat) : Int))) = true then
        Option.bind (v35.2.2.2.2.2.2.2.1[0 + Int.toNat (IntKind.wrap .i64 (v35.1 + 1))]?) fun r38 =>
        if (decide ((0 : Int) ≤ IntKind.wrap .i64 (v35.2.1 + 1))) = true then
        if (decide ((IntKind.wrap .i64 (v35.2.1 + 1) : Int) < ((List.length v35.2.2.2.2.2.2.2.2.2 : Nat) : Int))) = true then
        Option.bind (v35.2.2.2.2.2.2.2.2.2[0 + Int.toNat (IntKind.wrap .i64 (v35.2.1 + 1))]?) fun r39 =>
        Option.bind (v35.2.2.2.2.2.2.2.2.2[0 + Int.toNat (IntKind.wrap .i64 (v35.2.1 + 1))]?) fun r40 =>
        some (.inl (IntKind.wrap .i64 (v35.1 + 1), v35.2.2.1, v35.2.2.2.1, v35.2.2.2.2.1, v35.2.2.2.2.2.1, v35.2.2.2.2.2.2.1, v35.2.2.2.2.2.2.2.1, v35.2.2.2.2.2.2.2.2.1 ++ ([r37] : List Bool), v35.2.2.2.2.2.2.2.2.2.set (0 + Int.toNat (IntKind.wrap .i64 (v35.2.1 + 1))) r38))
        else none
        else none
        else none
        else none
        else none
        else none
        else none
        else none
        else none
        else none
        else none) fun v41 =>
    match v41 with
    | .inl y42 =>
      some (.inl (y42.1, y42.2.1, y42.2.2.1, IntKind.wrap .i64 (y42.2.2.2.1 + 1), y42.2.2.2.2.1, y42.2.2.2.2.2.1, y42.2.2.2.2.2.2.1, y42.2.2.2.2.2.2.2.1, y42.2.2.2.2.2.2.2.2))
    | .inr s43 =>
      some (.inr (s43.1, s43.2))
  else
    some (.inr (y.2.2.2.2.2.2.2.1, y.2.2.2.2.2.2.2.2))
def s_l1Compose (x0 : List (Int × (Int × List UInt8))) (x1 : List (Int × (Int × List UInt8))) : Option (List (Int × (Int × List UInt8))) :=
  Option.bind (s_l1Open x0) fun c1 =>
  Option.bind (s_l1Open x1) fun c2 =>
  if (decide ((0 : Int) ≤ ((List.length c1.2 : Nat) : Int))) = true then
  if (decide ((((List.length c1.2 : Nat) : Int) : Int) ≤ ((List.length c1.2 : Nat) : Int))) = true then
  if (roomFor (Int.toNat ((List.length c1.2 : Nat) : Int)) 16) = true then
  if (decide ((0 : Int) ≤ 0)) = true then
  if (decide ((0 : Int) < ((List.length c2.2 : Nat) : Int))) = true then
  Option.bind (c2.2[0 + Int.toNat 0]?) fun r3 =>
  if (decide ((0 : Int) ≤ 0)) = true then
  if (decide ((0 : Int) < ((List.length (List.replicate (Int.toNat ((List.length c1.2 : Nat) : Int)) ([] : List UInt8)) : Nat) : Int))) = true then
  Option.bind ((List.replicate (Int.toNat ((List.length c1.2 : Nat) : Int)) ([] : List UInt8))[0 + Int.toNat 0]?) fun r4 =>
  Option.bind ((List.replicate (Int.toNat ((List.length c1.2 : Nat) : Int)) ([] : List UInt8))[0 + Int.toNat 0]?) fun r5 =>
  Option.bind (loopG s_l1Compose_L2 (0, c1.2, ((List.length c1.2 : Nat) : Int), 0, c1.1, c2.1, c2.2, [], (List.replicate (Int.toNat ((List.length c1.2 : Nat) : Int)) ([] : List UInt8)).set (0 + Int.toNat 0) r3)) fun v44 =>
  Option.bind (s_l1Close v44.1 v44.2) fun c45 =>
  some c45
  else none
  else none
  else none
  else none
  else none
  else none
  else none
def s_l10Between_L1 (y : (List (Int × (Int × List UInt8)) × (List (List (Int × (Int × List UInt8))) × (Int × Int)))) : Option ((List (Int × (Int × List UInt8)) × (List (List (Int × (Int × List UInt8))) × (Int × Int))) ⊕ (List (Int × (Int × List UInt8)))) :=
  if (decide ((y.2.2.2 : Int) < y.2.2.1)) = true then
    if (decide ((0 : Int) ≤ y.2.2.2)) = true then
    Option.bind (y.2.1[Int.toNat y.2.2.2]?) fun r3 =>
    Option.bind (s_l1Compose y.1 r3) fun c4 =>
    some (.inl (c4, y.2.1, y.2.2.1, IntKind.wrap .i64 (y.2.2.2 + 1)))
    else none
  else
    some (.inr y.1)
def s_l10Between (x0 : Int) (x1 : List UInt8) (x2 : List (Int × Int)) (x3 : List (List (Int × (Int × List UInt8)))) (x4 : Int) (x5 : Int) : Option (List (Int × (Int × List UInt8))) :=
  Option.bind (s_l10Text x0 x1 x2 x3 x4) fun c1 =>
  Option.bind (s_l1Add [] ((List.length c1 : Nat) : Int) 0 []) fun c2 =>
  if (decide ((0 : Int) ≤ IntKind.wrap .i64 (x4 - x0))) = true then
  if (decide ((IntKind.wrap .i64 (x4 - x0) : Int) ≤ IntKind.wrap .i64 (x5 - x0))) = true then
  if (decide ((IntKind.wrap .i64 (x5 - x0) : Int) ≤ ((List.length x3 : Nat) : Int))) = true then
  if (decide ((((List.length x3 : Nat) : Int) : Int) ≤ ((List.length x3 : Nat) : Int))) = true then
  Option.bind (loopG s_l10Between_L1 (c2, (List.drop (Int.toNat (IntKind.wrap .i64 (x4 - x0))) x3).take (Int.toNat (IntKind.wrap .i64 (x5 - x0)) - Int.toNat (IntKind.wrap .i64 (x4 - x0))), ((List.length ((List.drop (Int.toNat (IntKind.wrap .i64 (x4 - x0))) x3).take (Int.toNat (IntKind.wrap .i64 (x5 - x0)) - Int.toNat (IntKind.wrap .i64 (x4 - x0)))) : Nat) : Int), 0)) fun v5 =>
  some v5
  else none
  else none
  else none
  else none
def s_l1Carry_L1 (y : (Bool × (List (Int × (Int × List UInt8)) × (List (List UInt8) × (Int × (Int × (List Bool × (List Bool × List (List UInt8))))))))) : Option ((Bool × (List (Int × (Int × List UInt8)) × (List (List UInt8) × (Int × (Int × (List Bool × (List Bool × List (List UInt8)))))))) ⊕ (List (Int × (Int × List UInt8)))) :=
  if (decide ((y.2.2.2.2.1 : Int) < y.2.2.2.1)) = true then
    Option.bind (α := (Bool × (List (Int × (Int × List UInt8)) × (List (List UInt8) × (Int × (Int × (List Bool × (List Bool × List (List UInt8))))))))) (
        if (decide ((0 : Int) ≤ y.2.2.2.2.1)) = true then
        if (decide ((y.2.2.2.2.1 : Int) < ((List.length y.2.2.1 : Nat) : Int))) = true then
        Option.bind (y.2.2.1[0 + Int.toNat y.2.2.2.2.1]?) fun r17 =>
        Option.bind (α := (Bool × (List (Int × (Int × List UInt8)) × (Int × (List UInt8 × (List (List UInt8) × (Int × (Int × (List Bool × (List Bool × List (List UInt8))))))))))) (
            if y.1 = true then
              Option.bind (s_l1Add y.2.1 0 0 r17) fun c18 =>
              some (y.1, c18, y.2.2.2.2.1, r17, y.2.2.1, y.2.2.2.1, y.2.2.2.2.1, y.2.2.2.2.2.1, y.2.2.2.2.2.2.1, y.2.2.2.2.2.2.2)
            else
              some (y.1, y.2.1, y.2.2.2.2.1, r17, y.2.2.1, y.2.2.2.1, y.2.2.2.2.1, y.2.2.2.2.2.1, y.2.2.2.2.2.2.1, y.2.2.2.2.2.2.2)) fun v19 =>
        if (decide ((0 : Int) ≤ v19.2.2.1)) = true then
        if (decide ((v19.2.2.1 : Int) < ((List.length v19.2.2.2.2.2.2.2.2.2 : Nat) : Int))) = true then
        Option.bind (v19.2.2.2.2.2.2.2.2.2[0 + Int.toNat v19.2.2.1]?) fun r20 =>
        Option.bind (s_l1Add v19.2.1 ((List.length r20 : Nat) : Int) 0 []) fun c21 =>
        Option.bind (α := (Bool × (List (Int × (Int × List UInt8)) × (Int × (List (List UInt8) × (Int × (Int × (List Bool × (List Bool × List (List UInt8)))))))))) (
            if (!v19.1) = true then
              Option.bind (s_l1Add c21 0 0 v19.2.2.2.1) fun c22 =>
              some (v19.1, c22, v19.2.2.1, v19.2.2.2.2.1, v19.2.2.2.2.2.1, v19.2.2.2.2.2.2.1, v19.2.2.2.2.2.2.2.1, v19.2.2.2.2.2.2.2.2.1, v19.2.2.2.2.2.2.2.2.2)
            else
              some (v19.1, c21, v19.2.2.1, v19.2.2.2.2.1, v19.2.2.2.2.2.1, v19.2.2.2.2.2.2.1, v19.2.2.2.2.2.2.2.1, v19.2.2.2.2.2.2.2.2.1, v19.2.2.2.2.2.2.2.2.2)) fun v23 =>
        Option.bind (α := (Bool × (List (Int × (Int × List UInt8)) × (Int × (List (List UInt8) × (Int × (Int × (Bool × (List Bool × (List Bool × List (List UInt8))))))))))) (
            if (decide ((v23.2.2.1 : Int) = ((List.length v23.2.2.2.2.2.2.1 : Nat) : Int))) = true then
              some (v23.1, v23.2.1, v23.2.2.1, v23.2.2.2.1, v23.2.2.2.2.1, v23.2.2.2.2.2.1, true, v23.2.2.2.2.2.2.1, v23.2.2.2.2.2.2.2.1, v23.2.2.2.2.2.2.2.2)
            else
            if (decide ((0 : Int) ≤ v23.2.2.1)) = true then
            if (decide ((v23.2.2.1 : Int) < ((List.length v23.2.2.2.2.2.2.2.1 : Nat) : Int))) = true then
            Option.bind (v23.2.2.2.2.2.2.2.1[0 + Int.toNat v23.2.2.1]?) fun r24 =>
            some (v23.1, v23.2.1, v23.2.2.1, v23.2.2.2.1, v23.2.2.2.2.1, v23.2.2.2.2.2.1, (!r24), v23.2.2.2.2.2.2.1, v23.2.2.2.2.2.2.2.1, v23.2.2.2.2.2.2.2.2)
            else none
            else none) fun v25 =>
        if v25.2.2.2.2.2.2.1 = true then
          some (v25.1, v25.2.1, v25.2.2.2.1, v25.2.2.2.2.1, v25.2.2.2.2.2.1, v25.2.2.2.2.2.2.2.1, v25.2.2.2.2.2.2.2.2.1, v25.2.2.2.2.2.2.2.2.2)
        else
        if (decide ((0 : Int) ≤ v25.2.2.1)) = true then
        if (decide ((v25.2.2.1 : Int) < ((List.length v25.2.2.2.2.2.2.2.1 : Nat) : Int))) = true then
        Option.bind (v25.2.2.2.2.2.2.2.1[0 + Int.toNat v25.2.2.1]?) fun r26 =>
        Option.bind (α := (Bool × (List (Int × (Int × List UInt8)) × (List (List UInt8) × (Int × (Int × (List Bool × (List Bool × List (List UInt8))))))))) (
            if r26 = true then
              Option.bind (s_l1Add v25.2.1 1 0 []) fun c27 =>
              some (v25.1, c27, v25.2.2.2.1, v25.2.2.2.2.1, v25.2.2.2.2.2.1, v25.2.2.2.2.2.2.2.1, v25.2.2.2.2.2.2.2.2.1, v25.2.2.2.2.2.2.2.2.2)
            else
              Option.bind (s_l1Add v25.2.1 0 1 []) fun c28 =>
              some (v25.1, c28, v25.2.2.2.1, v25.2.2.2.2.1, v25.2.2.2.2.2.1, v25.2.2.2.2.2.2.2.1, v25.2.2.2.2.2.2.2.2.1, v25.2.2.2.2.2.2.2.2.2)) fun v29 =>
        some (v29.1, v29.2.1, v29.2.2.1, v29.2.2.2.1, v29.2.2.2.2.1, v29.2.2.2.2.2.1, v29.2.2.2.2.2.2.1, v29.2.2.2.2.2.2.2)
        else none
        else none
        else none
        else none
        else none
        else none) fun v30 =>
    some (.inl (v30.1, v30.2.1, v30.2.2.1, v30.2.2.2.1, IntKind.wrap .i64 (v30.2.2.2.2.1 + 1), v30.2.2.2.2.2.1, v30.2.2.2.2.2.2.1, v30.2.2.2.2.2.2.2))
  else
    some (.inr y.2.1)
def s_l1Carry (x0 : List (Int × (Int × List UInt8))) (x1 : List (Int × (Int × List UInt8))) (x2 : Bool) : Option (List (Int × (Int × List UInt8))) :=
  Option.bind (s_l1Open x0) fun c1 =>
  Option.bind (s_l1Open x1) fun c2 =>
  Option.bind (loopG s_l1Carry_L1 (x2, [], c1.2, ((List.length c1.2 : Nat) : Int), 0, c1.1, c2.1, c2.2)) fun v31 =>
  some v31
def s_CarryChange (x0 : List (Int × (Int × List UInt8))) (x1 : List (Int × (Int × List UInt8))) (x2 : Bool) : Option ((List (Int × (Int × List UInt8)) × Bool)) :=
  Option.bind (α := (List (Int × (Int × List UInt8)) × (List (Int × (Int × List UInt8)) × (Bool × Bool)))) (
      Option.bind (s_GoodChange x0) fun c1 =>
      if (!c1) = true then
        some (x0, x1, x2, true)
      else
        Option.bind (s_GoodChange x1) fun c2 =>
        if (!c2) = true then
          some (x0, x1, x2, true)
        else
          Option.bind (s_l1Source x0) fun c3 =>
          Option.bind (s_l1Source x1) fun c4 =>
          some (x0, x1, x2, decide (¬ (c3 : Int) = c4))) fun v5 =>
  if v5.2.2.2 = true then
    some ([], false)
  else
    Option.bind (s_l1Carry v5.1 v5.2.1 v5.2.2.1) fun c6 =>
    Option.bind (s_GoodChange c6) fun c7 =>
    if (!c7) = true then
      some ([], false)
    else
      some (c6, true)
def s_RebaseOf (x0 : Int) (x1 : List UInt8) (x2 : List (Int × Int)) (x3 : List (List (Int × (Int × List UInt8)))) (x4 : Int) (x5 : List (Int × (Int × List UInt8))) : Option ((List (Int × (Int × List UInt8)) × Int)) :=
  Option.bind (s_l10Range x0 x1 x2 x3 x4 x4) fun c1 =>
  if (decide (¬ (c1 : Int) = 0)) = true then
    some ([], c1)
  else
    Option.bind (α := (Int × (List (Int × (Int × List UInt8)) × (Bool × (Int × (List UInt8 × (List (Int × Int) × List (List (Int × (Int × List UInt8)))))))))) (
        Option.bind (s_GoodChange x5) fun c2 =>
        if (!c2) = true then
          some (x4, x5, true, x0, x1, x2, x3)
        else
          Option.bind (s_l1Source x5) fun c3 =>
          Option.bind (s_l10Text x0 x1 x2 x3 x4) fun c4 =>
          some (x4, x5, decide (¬ (c3 : Int) = ((List.length c4 : Nat) : Int)), x0, x1, x2, x3)) fun v5 =>
    if v5.2.2.1 = true then
      some ([], 3)
    else
      Option.bind (s_l10Head v5.2.2.2.1 v5.2.2.2.2.1 v5.2.2.2.2.2.1 v5.2.2.2.2.2.2) fun c6 =>
      Option.bind (s_l10Between v5.2.2.2.1 v5.2.2.2.2.1 v5.2.2.2.2.2.1 v5.2.2.2.2.2.2 v5.1 c6) fun c7 =>
      Option.bind (s_CarryChange v5.2.1 c7 false) fun c8 =>
      if (!c8.2) = true then
        some ([], 4)
      else
        some (c8.1, 0)
def s_l10Own_L1 (y : (List (List (Int × (Int × List UInt8))) × (List (List (Int × (Int × List UInt8))) × (Int × (Int × (Int × (List UInt8 × (List (Int × Int) × (List (List (Int × (Int × List UInt8))) × (Int × List UInt8)))))))))) : Option ((List (List (Int × (Int × List UInt8))) × (List (List (Int × (Int × List UInt8))) × (Int × (Int × (Int × (List UInt8 × (List (Int × Int) × (List (List (Int × (Int × List UInt8))) × (Int × List UInt8))))))))) ⊕ (List (List (Int × (Int × List UInt8))) × (Int × (List UInt8 × (List (Int × Int) × (List (List (Int × (Int × List UInt8))) × (Int × List UInt8))))))) :=
  if (decide ((y.2.2.2.1 : Int) < y.2.2.1)) = true then
    if (decide ((0 : Int) ≤ y.2.2.2.1)) = true then
    Option.bind (y.2.1[Int.toNat y.2.2.2.1]?) fun r2 =>
    if (roomFor (List.length ([] : List (Int × (Int × List UInt8))) + List.length r2) 32) = true then
    if (roomFor (List.length y.1 + List.length ([([] : List (Int × (Int × List UInt8))) ++ r2] : List (List (Int × (Int × List UInt8))))) 24) = true then
    some (.inl (y.1 ++ ([([] : List (Int × (Int × List UInt8))) ++ r2] : List (List (Int × (Int × List UInt8)))), y.2.1, y.2.2.1, IntKind.wrap .i64 (y.2.2.2.1 + 1), y.2.2.2.2.1, y.2.2.2.2.2.1, y.2.2.2.2.2.2.1, y.2.2.2.2.2.2.2.1, y.2.2.2.2.2.2.2.2.1, y.2.2.2.2.2.2.2.2.2))
    else none
    else none
    else none
  else
    some (.inr (y.1, y.2.2.2.2.1, y.2.2.2.2.2.1, y.2.2.2.2.2.2.1, y.2.2.2.2.2.2.2.1, y.2.2.2.2.2.2.2.2.1, y.2.2.2.2.2.2.2.2.2))
def s_l10Own (x0 : Int) (x1 : List UInt8) (x2 : List (Int × Int)) (x3 : List (List (Int × (Int × List UInt8)))) : Option ((Int × (List UInt8 × (List (Int × Int) × List (List (Int × (Int × List UInt8))))))) :=
  Option.bind (loopG s_l10Own_L1 ([], x3, ((List.length x3 : Nat) : Int), 0, x0, x1, x2, x3, 0, [])) fun v3 =>
  if (roomFor (List.length ([] : List (Int × Int)) + List.length v3.2.2.2.1) 16) = true then
  some (v3.2.1, v3.2.2.1, ([] : List (Int × Int)) ++ v3.2.2.2.1, v3.1)
  else none
def s_Submit (x0 : Int) (x1 : List UInt8) (x2 : List (Int × Int)) (x3 : List (List (Int × (Int × List UInt8)))) (x4 : Int) (x5 : List (Int × (Int × List UInt8))) : Option ((Int × (Int × (Int × (List UInt8 × (List (Int × Int) × List (List (Int × (Int × List UInt8))))))))) :=
  Option.bind (s_GoodHistory x0 x1 x2 x3) fun c1 =>
  if (!c1) = true then
    some (0, 1, 0, [], [], [])
  else
    Option.bind (s_RebaseOf x0 x1 x2 x3 x4 x5) fun c2 =>
    Option.bind (s_l10Own x0 x1 x2 x3) fun c3 =>
    Option.bind (α := (List (Int × (Int × List UInt8)) × (Int × (Bool × (Int × (List UInt8 × (List (Int × Int) × (List (List (Int × (Int × List UInt8))) × (Int × List UInt8))))))))) (
        if (decide ((c2.2 : Int) = 0)) = true then
          Option.bind (s_l10Head c3.1 c3.2.1 c3.2.2.1 c3.2.2.2) fun c4 =>
          some (c2.1, c2.2, decide ((c4 : Int) = 60), c3.1, c3.2.1, c3.2.2.1, c3.2.2.2, 0, [])
        else
        some (c2.1, c2.2, false, c3.1, c3.2.1, c3.2.2.1, c3.2.2.2, 0, [])) fun v5 =>
    Option.bind (α := (List (Int × (Int × List UInt8)) × (Int × (Int × (List UInt8 × (List (Int × Int) × (List (List (Int × (Int × List UInt8))) × (Int × List UInt8)))))))) (
        if v5.2.2.1 = true then
          some (v5.1, 5, v5.2.2.2.1, v5.2.2.2.2.1, v5.2.2.2.2.2.1, v5.2.2.2.2.2.2.1, v5.2.2.2.2.2.2.2.1, v5.2.2.2.2.2.2.2.2)
        else
          some (v5.1, v5.2.1, v5.2.2.2.1, v5.2.2.2.2.1, v5.2.2.2.2.2.1, v5.2.2.2.2.2.2.1, v5.2.2.2.2.2.2.2.1, v5.2.2.2.2.2.2.2.2)) fun v6 =>
    if (decide (¬ (v6.2.1 : Int) = 0)) = true then
      some (0, v6.2.1, v6.2.2.1, v6.2.2.2.1, v6.2.2.2.2.1, v6.2.2.2.2.2.1)
    else
    if (roomFor (List.length v6.2.2.2.2.2.1 + List.length ([v6.1] : List (List (Int × (Int × List UInt8))))) 24) = true then
    Option.bind (s_l10Head v6.2.2.1 v6.2.2.2.1 v6.2.2.2.2.1 (v6.2.2.2.2.2.1 ++ ([v6.1] : List (List (Int × (Int × List UInt8)))))) fun c7 =>
    some (c7, 0, v6.2.2.1, v6.2.2.2.1, v6.2.2.2.2.1, v6.2.2.2.2.2.1 ++ ([v6.1] : List (List (Int × (Int × List UInt8)))))
    else none
def s_l1Cur_history_f_L1 (y : (Int × (Int × (List UInt8 × (Int × (List UInt8 × (List (Int × Int) × (List (List (Int × (Int × List UInt8))) × (List Int × (Int × Int)))))))))) : Option ((Int × (Int × (List UInt8 × (Int × (List UInt8 × (List (Int × Int) × (List (List (Int × (Int × List UInt8))) × (List Int × (Int × Int))))))))) ⊕ (Int × (List UInt8 × (Int × (List UInt8 × (List (Int × Int) × (List (List (Int × (Int × List UInt8))) × (List Int × (Int × Int))))))))) :=
  Option.bind (α := (Int × (Bool × (Int × (List UInt8 × (Int × (List UInt8 × (List (Int × Int) × (List (List (Int × (Int × List UInt8))) × (List Int × (Int × Int))))))))))) (
      if (decide ((0 : Int) < y.1)) = true then
        Option.bind (s_GoodHistory y.2.2.2.1 y.2.2.2.2.1 y.2.2.2.2.2.1 y.2.2.2.2.2.2.1) fun c12 =>
        if c12 = true then
          Option.bind (s_l10Head y.2.2.2.1 y.2.2.2.2.1 y.2.2.2.2.2.1 y.2.2.2.2.2.2.1) fun c13 =>
          some (y.1, decide ((c13 : Int) < 60), y.2.1, y.2.2.1, y.2.2.2.1, y.2.2.2.2.1, y.2.2.2.2.2.1, y.2.2.2.2.2.2.1, y.2.2.2.2.2.2.2.1, y.2.2.2.2.2.2.2.2.1, y.2.2.2.2.2.2.2.2.2)
        else
        some (y.1, false, y.2.1, y.2.2.1, y.2.2.2.1, y.2.2.2.2.1, y.2.2.2.2.2.1, y.2.2.2.2.2.2.1, y.2.2.2.2.2.2.2.1, y.2.2.2.2.2.2.2.2.1, y.2.2.2.2.2.2.2.2.2)
      else
      some (y.1, false, y.2.1, y.2.2.1, y.2.2.2.1, y.2.2.2.2.1, y.2.2.2.2.2.1, y.2.2.2.2.2.2.1, y.2.2.2.2.2.2.2.1, y.2.2.2.2.2.2.2.2.1, y.2.2.2.2.2.2.2.2.2)) fun v14 =>
  if v14.2.1 = true then
    Option.bind (s_l10Head v14.2.2.2.2.1 v14.2.2.2.2.2.1 v14.2.2.2.2.2.2.1 v14.2.2.2.2.2.2.2.1) fun c15 =>
    Option.bind (s_l1Cur_one_f 3 v14.2.2.2.2.2.2.2.2.1 v14.2.2.2.2.2.2.2.2.2.1 v14.2.2.2.2.2.2.2.2.2.2) fun c16 =>
    Option.bind (α := (Int × (Int × (Int × (List UInt8 × (Int × (List UInt8 × (List (Int × Int) × (List (List (Int × (Int × List UInt8))) × (List Int × (Int × Int))))))))))) (
        if c16.1 = true then
          Option.bind (s_l1Cur_pick_f (IntKind.wrap .i64 (((List.length v14.2.2.2.2.2.2.2.1 : Nat) : Int) + 1)) c16.2.1 c16.2.2.1 c16.2.2.2) fun c17 =>
          some (v14.1, IntKind.wrap .i64 (v14.2.2.2.2.1 + c17.1), v14.2.2.1, v14.2.2.2.1, v14.2.2.2.2.1, v14.2.2.2.2.2.1, v14.2.2.2.2.2.2.1, v14.2.2.2.2.2.2.2.1, c17.2.1, c17.2.2.1, c17.2.2.2)
        else
          some (v14.1, c15, v14.2.2.1, v14.2.2.2.1, v14.2.2.2.2.1, v14.2.2.2.2.2.1, v14.2.2.2.2.2.2.1, v14.2.2.2.2.2.2.2.1, c16.2.1, c16.2.2.1, c16.2.2.2)) fun v18 =>
    Option.bind (s_l10Text v18.2.2.2.2.1 v18.2.2.2.2.2.1 v18.2.2.2.2.2.2.1 v18.2.2.2.2.2.2.2.1 v18.2.1) fun c19 =>
    Option.bind (s_l1Cur_changeOf_f ((List.length c19 : Nat) : Int) v18.2.2.2.2.2.2.2.2.1 v18.2.2.2.2.2.2.2.2.2.1 v18.2.2.2.2.2.2.2.2.2.2) fun c20 =>
    Option.bind (s_Submit v18.2.2.2.2.1 v18.2.2.2.2.2.1 v18.2.2.2.2.2.2.1 v18.2.2.2.2.2.2.2.1 v18.2.1 c20.1) fun c21 =>
    Option.bind (α := (Int × (Int × (List UInt8 × (Int × (List UInt8 × (List (Int × Int) × (List (List (Int × (Int × List UInt8))) × (List Int × (Int × Int)))))))))) (
        if (decide ((c21.2.1 : Int) = 0)) = true then
          some (v18.1, v18.2.2.1, v18.2.2.2.1, c21.2.2.1, c21.2.2.2.1, c21.2.2.2.2.1, c21.2.2.2.2.2, c20.2.1, c20.2.2.1, c20.2.2.2)
        else
          some (v18.1, v18.2.2.1, v18.2.2.2.1, v18.2.2.2.2.1, v18.2.2.2.2.2.1, v18.2.2.2.2.2.2.1, v18.2.2.2.2.2.2.2.1, c20.2.1, c20.2.2.1, c20.2.2.2)) fun v22 =>
    some (.inl (IntKind.wrap .i64 (v22.1 - 1), v22.2.1, v22.2.2.1, v22.2.2.2.1, v22.2.2.2.2.1, v22.2.2.2.2.2.1, v22.2.2.2.2.2.2.1, v22.2.2.2.2.2.2.2.1, v22.2.2.2.2.2.2.2.2.1, v22.2.2.2.2.2.2.2.2.2))
  else
    some (.inr (v14.2.2.1, v14.2.2.2.1, v14.2.2.2.2.1, v14.2.2.2.2.2.1, v14.2.2.2.2.2.2.1, v14.2.2.2.2.2.2.2.1, v14.2.2.2.2.2.2.2.2.1, v14.2.2.2.2.2.2.2.2.2.1, v14.2.2.2.2.2.2.2.2.2.2))
def s_l1Cur_history_f (x0 : List Int) (x1 : Int) (x2 : Int) : Option ((Int × (List UInt8 × (List (Int × Int) × (List (List (Int × (Int × List UInt8))) × (List Int × (Int × Int))))))) :=
  Option.bind (s_l10New) fun c1 =>
  Option.bind (s_l1Cur_one_f 2 x0 x1 x2) fun c2 =>
  Option.bind (α := (Int × (List UInt8 × (Int × (List UInt8 × (List (Int × Int) × (List (List (Int × (Int × List UInt8))) × (List Int × (Int × Int))))))))) (
      if c2.1 = true then
        Option.bind (s_l1Cur_pick_f 20 c2.2.1 c2.2.2.1 c2.2.2.2) fun c3 =>
        Option.bind (s_l1Cur_pick_f 12 c3.2.1 c3.2.2.1 c3.2.2.2) fun c4 =>
        Option.bind (s_l1Cur_textOf_f c4.1 c4.2.1 c4.2.2.1 c4.2.2.2) fun c5 =>
        Option.bind (s_l1Cur_runs_f c4.1 c3.1 c5.2.1 c5.2.2.1 c5.2.2.2) fun c6 =>
        some (0, [], c3.1, c5.1, c6.1, [], c6.2.1, c6.2.2.1, c6.2.2.2)
      else
        some (0, [], c1.1, c1.2, [], [], c2.2.1, c2.2.2.1, c2.2.2.2)) fun v7 =>
  Option.bind (s_l1Cur_pick_f 9 v7.2.2.2.2.2.2.1 v7.2.2.2.2.2.2.2.1 v7.2.2.2.2.2.2.2.2) fun c8 =>
  Option.bind (s_l1Cur_one_f 6 c8.2.1 c8.2.2.1 c8.2.2.2) fun c9 =>
  Option.bind (α := (Int × (Int × (List UInt8 × (Int × (List UInt8 × (List (Int × Int) × (List (List (Int × (Int × List UInt8))) × (List Int × (Int × Int)))))))))) (
      if c9.1 = true then
        Option.bind (s_l1Cur_pick_f 30 c9.2.1 c9.2.2.1 c9.2.2.2) fun c10 =>
        some (IntKind.wrap .i64 (10 + c10.1), v7.1, v7.2.1, v7.2.2.1, v7.2.2.2.1, v7.2.2.2.2.1, v7.2.2.2.2.2.1, c10.2.1, c10.2.2.1, c10.2.2.2)
      else
        some (c8.1, v7.1, v7.2.1, v7.2.2.1, v7.2.2.2.1, v7.2.2.2.2.1, v7.2.2.2.2.2.1, c9.2.1, c9.2.2.1, c9.2.2.2)) fun v11 =>
  Option.bind (loopG s_l1Cur_history_f_L1 (v11.1, v11.2.1, v11.2.2.1, v11.2.2.2.1, v11.2.2.2.2.1, v11.2.2.2.2.2.1, v11.2.2.2.2.2.2.1, v11.2.2.2.2.2.2.2.1, v11.2.2.2.2.2.2.2.2.1, v11.2.2.2.2.2.2.2.2.2)) fun v23 =>
  Option.bind (s_l1Cur_pick_f 40 v23.2.2.2.2.2.2.1 v23.2.2.2.2.2.2.2.1 v23.2.2.2.2.2.2.2.2) fun c24 =>
  Option.bind (α := (Int × (List UInt8 × (Int × (List UInt8 × (List (Int × Int) × (List (List (Int × (Int × List UInt8))) × (List Int × (Int × Int))))))))) (
      if (decide ((c24.1 : Int) = 0)) = true then
        Option.bind (s_l1Cur_among_f [(-1), 60, 61] c24.2.1 c24.2.2.1 c24.2.2.2) fun c25 =>
        some (v23.1, v23.2.1, c25.1, v23.2.2.2.1, v23.2.2.2.2.1, v23.2.2.2.2.2.1, c25.2.1, c25.2.2.1, c25.2.2.2)
      else
        Option.bind (α := (Int × (List UInt8 × (Int × (List UInt8 × (List (Int × Int) × (List (List (Int × (Int × List UInt8))) × (List Int × (Int × Int))))))))) (
            if (decide ((c24.1 : Int) = 1)) = true then
              if (decide ((List.length v23.2.2.2.1 + List.length ([120] : List UInt8) : Nat) ≤ 9223372036854775807)) = true then
              some (v23.1, v23.2.1, v23.2.2.1, (v23.2.2.2.1 : List UInt8) ++ ([120] : List UInt8), v23.2.2.2.2.1, v23.2.2.2.2.2.1, c24.2.1, c24.2.2.1, c24.2.2.2)
              else none
            else
              Option.bind (α := (Int × (List UInt8 × (Int × (List UInt8 × (List (Int × Int) × (List (List (Int × (Int × List UInt8))) × (List Int × (Int × Int))))))))) (
                  if (decide ((c24.1 : Int) = 2)) = true then
                    Option.bind (s_l1Cur_changeOf_f 3 c24.2.1 c24.2.2.1 c24.2.2.2) fun c26 =>
                    if (roomFor (List.length v23.2.2.2.2.2.1 + List.length ([c26.1] : List (List (Int × (Int × List UInt8))))) 24) = true then
                    some (v23.1, v23.2.1, v23.2.2.1, v23.2.2.2.1, v23.2.2.2.2.1, v23.2.2.2.2.2.1 ++ ([c26.1] : List (List (Int × (Int × List UInt8)))), c26.2.1, c26.2.2.1, c26.2.2.2)
                    else none
                  else
                    some (v23.1, v23.2.1, v23.2.2.1, v23.2.2.2.1, v23.2.2.2.2.1, v23.2.2.2.2.2.1, c24.2.1, c24.2.2.1, c24.2.2.2)) fun v27 =>
              some (v27.1, v27.2.1, v27.2.2.1, v27.2.2.2.1, v27.2.2.2.2.1, v27.2.2.2.2.2.1, v27.2.2.2.2.2.2.1, v27.2.2.2.2.2.2.2.1, v27.2.2.2.2.2.2.2.2)) fun v28 =>
        some (v28.1, v28.2.1, v28.2.2.1, v28.2.2.2.1, v28.2.2.2.2.1, v28.2.2.2.2.2.1, v28.2.2.2.2.2.2.1, v28.2.2.2.2.2.2.2.1, v28.2.2.2.2.2.2.2.2)) fun v29 =>
  some (v29.2.2.1, v29.2.2.2.1, v29.2.2.2.2.1, v29.2.2.2.2.2.1, v29.2.2.2.2.2.2.1, v29.2.2.2.2.2.2.2.1, v29.2.2.2.2.2.2.2.2)
def s_l1Cur_revIn_l_f (x0 : Int) (x1 : List UInt8) (x2 : List (Int × Int)) (x3 : List (List (Int × (Int × List UInt8)))) (x4 : List Int) (x5 : Int) (x6 : Int) : Option ((Int × (List UInt8 × (List (Int × Int) × (List (List (Int × (Int × List UInt8))) × (Int × (List Int × (Int × Int)))))))) :=
  Option.bind (s_l1Cur_one_f 16 x4 x5 x6) fun c1 =>
  if c1.1 = true then
    Option.bind (s_l10Head x0 x1 x2 x3) fun c2 =>
    Option.bind (s_l1Cur_among_f [(-1), IntKind.wrap .i64 (x0 - 1), IntKind.wrap .i64 (c2 + 1), 9223372036854775807] c1.2.1 c1.2.2.1 c1.2.2.2) fun c3 =>
    some (x0, x1, x2, x3, c3.1, c3.2.1, c3.2.2.1, c3.2.2.2)
  else
    Option.bind (s_l1Cur_pick_f (IntKind.wrap .i64 (((List.length x3 : Nat) : Int) + 1)) c1.2.1 c1.2.2.1 c1.2.2.2) fun c4 =>
    some (x0, x1, x2, x3, IntKind.wrap .i64 (x0 + c4.1), c4.2.1, c4.2.2.1, c4.2.2.2)
def s_l1Cur_twoIn_l_f (x0 : Int) (x1 : List UInt8) (x2 : List (Int × Int)) (x3 : List (List (Int × (Int × List UInt8)))) (x4 : List Int) (x5 : Int) (x6 : Int) : Option ((Int × (List UInt8 × (List (Int × Int) × (List (List (Int × (Int × List UInt8))) × (Int × (Int × (List Int × (Int × Int))))))))) :=
  Option.bind (s_l1Cur_revIn_l_f x0 x1 x2 x3 x4 x5 x6) fun c1 =>
  Option.bind (s_l1Cur_revIn_l_f x0 x1 c1.2.2.1 c1.2.2.2.1 c1.2.2.2.2.2.1 c1.2.2.2.2.2.2.1 c1.2.2.2.2.2.2.2) fun c2 =>
  Option.bind (α := (Int × (List UInt8 × (List (Int × Int) × (List (List (Int × (Int × List UInt8))) × (Int × (Int × (Bool × (List Int × (Int × Int)))))))))) (
      if (decide ((c2.2.2.2.2.1 : Int) < c1.2.2.2.2.1)) = true then
        Option.bind (s_l1Cur_one_f 8 c2.2.2.2.2.2.1 c2.2.2.2.2.2.2.1 c2.2.2.2.2.2.2.2) fun c3 =>
        some (x0, x1, c2.2.2.1, c2.2.2.2.1, c1.2.2.2.2.1, c2.2.2.2.2.1, (!c3.1), c3.2.1, c3.2.2.1, c3.2.2.2)
      else
      some (x0, x1, c2.2.2.1, c2.2.2.2.1, c1.2.2.2.2.1, c2.2.2.2.2.1, false, c2.2.2.2.2.2.1, c2.2.2.2.2.2.2.1, c2.2.2.2.2.2.2.2)) fun v4 =>
  if v4.2.2.2.2.2.2.1 = true then
    some (v4.1, v4.2.1, v4.2.2.1, v4.2.2.2.1, v4.2.2.2.2.2.1, v4.2.2.2.2.1, v4.2.2.2.2.2.2.2.1, v4.2.2.2.2.2.2.2.2.1, v4.2.2.2.2.2.2.2.2.2)
  else
    some (v4.1, v4.2.1, v4.2.2.1, v4.2.2.2.1, v4.2.2.2.2.1, v4.2.2.2.2.2.1, v4.2.2.2.2.2.2.2.1, v4.2.2.2.2.2.2.2.2.1, v4.2.2.2.2.2.2.2.2.2)
def s_DrawChangeBetween (x0 : List Int) : Option ((Int × (Int × (Int × (List UInt8 × (List (Int × Int) × List (List (Int × (Int × List UInt8))))))))) :=
  Option.bind (s_l1Cur_history_f x0 0 0) fun c1 =>
  Option.bind (s_l1Cur_twoIn_l_f c1.1 c1.2.1 c1.2.2.1 c1.2.2.2.1 c1.2.2.2.2.1 c1.2.2.2.2.2.1 c1.2.2.2.2.2.2) fun c2 =>
  some (c2.2.2.2.2.1, c2.2.2.2.2.2.1, c1.1, c1.2.1, c2.2.2.1, c2.2.2.2.1)
def s_DrawExportRange (x0 : List Int) : Option ((Int × (Int × (Int × (List UInt8 × (List (Int × Int) × List (List (Int × (Int × List UInt8))))))))) :=
  Option.bind (s_DrawChangeBetween x0) fun c1 =>
  some (c1.1, c1.2.1, c1.2.2.1, c1.2.2.2.1, c1.2.2.2.2.1, c1.2.2.2.2.2)
def i_within (x0 : Int) (x1 : Int) (x2 : Int) : Option (Bool) :=
  Option.bind (α := Bool) (
      if (decide ((x1 : Int) ≤ x0)) = true then
        some (decide ((x0 : Int) ≤ x2))
      else
      some false) fun v1 =>
  some v1
def i_GoodRuns_L1 (y : (List (Int × Int) × (Int × (Int × (Int × (List (Int × Int) × (Int × Int))))))) : Option ((List (Int × Int) × (Int × (Int × (Int × (List (Int × Int) × (Int × Int)))))) ⊕ ((Int × Int) ⊕ Bool)) :=
  if (decide ((y.2.2.2.2.2.2 : Int) < y.2.2.2.2.2.1)) = true then
    if (decide ((0 : Int) ≤ y.2.2.2.2.2.2)) = true then
    Option.bind (y.2.2.2.2.1[Int.toNat y.2.2.2.2.2.2]?) fun r4 =>
    Option.bind (α := (List (Int × Int) × (Int × (Int × (Int × (List (Int × Int) × (Int × (Int × (Bool × (Int × Int)))))))))) (
        Option.bind (i_within r4.1 0 y.2.2.1) fun c5 =>
        if (!c5) = true then
          some (y.1, y.2.1, y.2.2.1, y.2.2.2.1, y.2.2.2.2.1, y.2.2.2.2.2.1, y.2.2.2.2.2.2, true, r4.1, r4.2)
        else
          Option.bind (i_within r4.2 1 120) fun c6 =>
          if (!c6) = true then
            some (y.1, y.2.1, y.2.2.1, y.2.2.2.1, y.2.2.2.2.1, y.2.2.2.2.2.1, y.2.2.2.2.2.2, true, r4.1, r4.2)
          else
          if (decide ((0 : Int) < y.2.2.2.2.2.2)) = true then
            if (decide ((0 : Int) ≤ IntKind.wrap .i64 (y.2.2.2.2.2.2 - 1))) = true then
            Option.bind (y.1[Int.toNat (IntKind.wrap .i64 (y.2.2.2.2.2.2 - 1))]?) fun r7 =>
            some (y.1, y.2.1, y.2.2.1, y.2.2.2.1, y.2.2.2.2.1, y.2.2.2.2.2.1, y.2.2.2.2.2.2, decide ((r7.1 : Int) = r4.1), r4.1, r4.2)
            else none
          else
          some (y.1, y.2.1, y.2.2.1, y.2.2.2.1, y.2.2.2.2.1, y.2.2.2.2.2.1, y.2.2.2.2.2.2, false, r4.1, r4.2)) fun v8 =>
    if v8.2.2.2.2.2.2.2.1 = true then
      some (.inr (.inr false))
    else
    if (decide ((v8.2.1 : Int) < (IntKind.wrap .i64 (v8.2.2.2.1 + v8.2.2.2.2.2.2.2.2.2)))) = true then
      some (.inr (.inr false))
    else
      some (.inl (v8.1, v8.2.1, v8.2.2.1, IntKind.wrap .i64 (v8.2.2.2.1 + v8.2.2.2.2.2.2.2.2.2), v8.2.2.2.2.1, v8.2.2.2.2.2.1, IntKind.wrap .i64 (v8.2.2.2.2.2.2.1 + 1)))
    else none
  else
    some (.inr (.inl (y.2.1, y.2.2.2.1)))
def i_GoodRuns (x0 : List (Int × Int)) (x1 : Int) (x2 : Int) : Option (Bool) :=
  Option.bind (α := (List (Int × Int) × (Int × (Int × Bool)))) (
      Option.bind (i_within x1 0 120) fun c1 =>
      if (!c1) = true then
        some (x0, x1, x2, true)
      else
        Option.bind (i_within x2 0 60) fun c2 =>
        some (x0, x1, x2, (!c2))) fun v3 =>
  if v3.2.2.2 = true then
    some false
  else
    Option.bind (loopG i_GoodRuns_L1 (v3.1, v3.2.1, v3.2.2.1, 0, v3.1, ((List.length v3.1 : Nat) : Int), 0)) fun v9 =>
    match v9 with
    | .inl y10 =>
      some (decide ((y10.2 : Int) = y10.1))
    | .inr s11 =>
      some s11
def i_Part_kind (x0 : Int) (x1 : Int) (x2 : List UInt8) : Option (Int) :=
  Option.bind (α := (Bool × (Int × (Int × List UInt8)))) (
      if (decide ((0 : Int) < x0)) = true then
        if (decide ((x1 : Int) = 0)) = true then
          some (((x2 : List UInt8) == ([] : List UInt8)), x0, x1, x2)
        else
        some (false, x0, x1, x2)
      else
      some (false, x0, x1, x2)) fun v1 =>
  if v1.1 = true then
    some 1
  else
    Option.bind (α := (Bool × (Int × (Int × List UInt8)))) (
        if (decide ((0 : Int) < v1.2.2.1)) = true then
          if (decide ((v1.2.1 : Int) = 0)) = true then
            some (((v1.2.2.2 : List UInt8) == ([] : List UInt8)), v1.2.1, v1.2.2.1, v1.2.2.2)
          else
          some (false, v1.2.1, v1.2.2.1, v1.2.2.2)
        else
        some (false, v1.2.1, v1.2.2.1, v1.2.2.2)) fun v2 =>
    if v2.1 = true then
      some 2
    else
      Option.bind (α := Bool) (
          if (!((v2.2.2.2 : List UInt8) == ([] : List UInt8))) = true then
            if (decide ((v2.2.1 : Int) = 0)) = true then
              some (decide ((v2.2.2.1 : Int) = 0))
            else
            some false
          else
          some false) fun v3 =>
      if v3 = true then
        some 3
      else
        some 0
def i_lengths_L1 (y : (Int × (Int × (List (Int × (Int × List UInt8)) × (Int × Int))))) : Option ((Int × (Int × (List (Int × (Int × List UInt8)) × (Int × Int)))) ⊕ ((Int × Int) ⊕ (Int × (Int × Bool)))) :=
  if (decide ((y.2.2.2.2 : Int) < y.2.2.2.1)) = true then
    if (decide ((0 : Int) ≤ y.2.2.2.2)) = true then
    Option.bind (y.2.2.1[Int.toNat y.2.2.2.2]?) fun r1 =>
    Option.bind (α := (Int × (Int × (List (Int × (Int × List UInt8)) × (Int × (Int × (Bool × (Int × (Int × List UInt8))))))))) (
        if (decide ((120 : Int) < r1.1)) = true then
          some (y.1, y.2.1, y.2.2.1, y.2.2.2.1, y.2.2.2.2, true, r1.1, r1.2.1, r1.2.2)
        else
        some (y.1, y.2.1, y.2.2.1, y.2.2.2.1, y.2.2.2.2, decide ((120 : Int) < r1.2.1), r1.1, r1.2.1, r1.2.2)) fun v2 =>
    if v2.2.2.2.2.2.1 = true then
      some (.inr (.inr (0, 0, false)))
    else
      Option.bind (α := (Int × (Int × (List (Int × (Int × List UInt8)) × (Int × (Int × Bool)))))) (
          if (decide ((120 : Int) < (IntKind.wrap .i64 (v2.1 + (IntKind.wrap .i64 (v2.2.2.2.2.2.2.1 + v2.2.2.2.2.2.2.2.1)))))) = true then
            some (IntKind.wrap .i64 (v2.1 + (IntKind.wrap .i64 (v2.2.2.2.2.2.2.1 + v2.2.2.2.2.2.2.2.1))), IntKind.wrap .i64 (v2.2.1 + (IntKind.wrap .i64 (v2.2.2.2.2.2.2.1 + ((List.length v2.2.2.2.2.2.2.2.2 : Nat) : Int)))), v2.2.2.1, v2.2.2.2.1, v2.2.2.2.2.1, true)
          else
          some (IntKind.wrap .i64 (v2.1 + (IntKind.wrap .i64 (v2.2.2.2.2.2.2.1 + v2.2.2.2.2.2.2.2.1))), IntKind.wrap .i64 (v2.2.1 + (IntKind.wrap .i64 (v2.2.2.2.2.2.2.1 + ((List.length v2.2.2.2.2.2.2.2.2 : Nat) : Int)))), v2.2.2.1, v2.2.2.2.1, v2.2.2.2.2.1, decide ((120 : Int) < (IntKind.wrap .i64 (v2.2.1 + (IntKind.wrap .i64 (v2.2.2.2.2.2.2.1 + ((List.length v2.2.2.2.2.2.2.2.2 : Nat) : Int)))))))) fun v3 =>
      if v3.2.2.2.2.2 = true then
        some (.inr (.inr (0, 0, false)))
      else
        some (.inl (v3.1, v3.2.1, v3.2.2.1, v3.2.2.2.1, IntKind.wrap .i64 (v3.2.2.2.2.1 + 1)))
    else none
  else
    some (.inr (.inl (y.1, y.2.1)))
def i_lengths (x0 : List (Int × (Int × List UInt8))) : Option ((Int × (Int × Bool))) :=
  Option.bind (loopG i_lengths_L1 (0, 0, x0, ((List.length x0 : Nat) : Int), 0)) fun v4 =>
  match v4 with
  | .inl y5 =>
    some (y5.1, y5.2, true)
  | .inr s6 =>
    some (s6.1, s6.2.1, s6.2.2)
def i_GoodChange_L1 (y : (List (Int × (Int × List UInt8)) × (List (Int × (Int × List UInt8)) × (Int × Int)))) : Option ((List (Int × (Int × List UInt8)) × (List (Int × (Int × List UInt8)) × (Int × Int))) ⊕ (List (Int × (Int × List UInt8)) ⊕ Bool)) :=
  if (decide ((y.2.2.2 : Int) < y.2.2.1)) = true then
    if (decide ((0 : Int) ≤ y.2.2.2)) = true then
    Option.bind (y.2.1[Int.toNat y.2.2.2]?) fun r1 =>
    Option.bind (i_Part_kind r1.1 r1.2.1 r1.2.2) fun c2 =>
    Option.bind (α := (List (Int × (Int × List UInt8)) × (List (Int × (Int × List UInt8)) × (Int × (Int × Bool))))) (
        if (decide ((c2 : Int) = 0)) = true then
          some (y.1, y.2.1, y.2.2.1, y.2.2.2, true)
        else
        if (decide ((0 : Int) < y.2.2.2)) = true then
          if (decide ((0 : Int) ≤ IntKind.wrap .i64 (y.2.2.2 - 1))) = true then
          Option.bind (y.1[Int.toNat (IntKind.wrap .i64 (y.2.2.2 - 1))]?) fun r3 =>
          Option.bind (i_Part_kind r3.1 r3.2.1 r3.2.2) fun c4 =>
          some (y.1, y.2.1, y.2.2.1, y.2.2.2, decide ((c4 : Int) = c2))
          else none
        else
        some (y.1, y.2.1, y.2.2.1, y.2.2.2, false)) fun v5 =>
    if v5.2.2.2.2 = true then
      some (.inr (.inr false))
    else
      some (.inl (v5.1, v5.2.1, v5.2.2.1, IntKind.wrap .i64 (v5.2.2.2.1 + 1)))
    else none
  else
    some (.inr (.inl y.1))
def i_GoodChange (x0 : List (Int × (Int × List UInt8))) : Option (Bool) :=
  Option.bind (loopG i_GoodChange_L1 (x0, x0, ((List.length x0 : Nat) : Int), 0)) fun v6 =>
  match v6 with
  | .inl y7 =>
    Option.bind (i_lengths y7) fun c9 =>
    some c9.2.2
  | .inr s8 =>
    some s8
def i_LengthsOf (x0 : List (Int × (Int × List UInt8))) : Option ((Int × (Int × Bool))) :=
  Option.bind (i_GoodChange x0) fun c1 =>
  if (!c1) = true then
    some (0, 0, false)
  else
    Option.bind (i_lengths x0) fun c2 =>
    some (c2.1, c2.2.1, c2.2.2)
def i_chained_L1 (y : (Int × (List (List (Int × (Int × List UInt8))) × (Int × Int)))) : Option ((Int × (List (List (Int × (Int × List UInt8))) × (Int × Int))) ⊕ (Unit ⊕ Bool)) :=
  if (decide ((y.2.2.2 : Int) < y.2.2.1)) = true then
    if (decide ((0 : Int) ≤ y.2.2.2)) = true then
    Option.bind (y.2.1[Int.toNat y.2.2.2]?) fun r1 =>
    Option.bind (i_LengthsOf r1) fun c2 =>
    Option.bind (α := (Int × (List (List (Int × (Int × List UInt8))) × (Int × (Int × Bool))))) (
        if (!c2.2.2) = true then
          some (c2.2.1, y.2.1, y.2.2.1, y.2.2.2, true)
        else
        some (c2.2.1, y.2.1, y.2.2.1, y.2.2.2, decide (¬ (c2.1 : Int) = y.1))) fun v3 =>
    if v3.2.2.2.2 = true then
      some (.inr (.inr false))
    else
      some (.inl (v3.1, v3.2.1, v3.2.2.1, IntKind.wrap .i64 (v3.2.2.2.1 + 1)))
    else none
  else
    some (.inr (.inl ()))
def i_chained (x0 : Int) (x1 : List (List (Int × (Int × List UInt8)))) : Option (Bool) :=
  Option.bind (loopG i_chained_L1 (x0, x1, ((List.length x1 : Nat) : Int), 0)) fun v4 =>
  match v4 with
  | .inl y5 =>
    some true
  | .inr s6 =>
    some s6
def i_GoodHistory (x0 : Int) (x1 : List UInt8) (x2 : List (Int × Int)) (x3 : List (List (Int × (Int × List UInt8)))) : Option (Bool) :=
  Option.bind (α := Bool) (
      Option.bind (i_within x0 0 60) fun c1 =>
      if c1 = true then
        if (decide ((((List.length x1 : Nat) : Int) : Int) ≤ 120)) = true then
          Option.bind (i_GoodRuns x2 ((List.length x1 : Nat) : Int) x0) fun c2 =>
          if c2 = true then
            if (decide ((((List.length x3 : Nat) : Int) : Int) ≤ (IntKind.wrap .i64 (60 - x0)))) = true then
              Option.bind (i_chained ((List.length x1 : Nat) : Int) x3) fun c3 =>
              some c3
            else
            some false
          else
          some false
        else
        some false
      else
      some false) fun v4 =>
  some v4
def i_History_head (x0 : Int) (x1 : List UInt8) (x2 : List (Int × Int)) (x3 : List (List (Int × (Int × List UInt8)))) : Option (Int) :=
  some (IntKind.wrap .i64 (x0 + ((List.length x3 : Nat) : Int)))
def i_History_code (x0 : Int) (x1 : List UInt8) (x2 : List (Int × Int)) (x3 : List (List (Int × (Int × List UInt8)))) (x4 : Int) (x5 : Int) : Option (Int) :=
  Option.bind (i_GoodHistory x0 x1 x2 x3) fun c1 =>
  if (!c1) = true then
    some 1
  else
    Option.bind (α := Bool) (
        if (decide ((x4 : Int) < x0)) = true then
          some true
        else
        if (decide ((x5 : Int) < x4)) = true then
          some true
        else
          Option.bind (i_History_head x0 x1 x2 x3) fun c2 =>
          some (decide ((c2 : Int) < x5))) fun v3 =>
    if v3 = true then
      some 2
    else
      some 0
def i_apply_L1 (y : (List UInt8 × (List UInt8 × (Int × (List (Int × (Int × List UInt8)) × (Int × Int)))))) : Option ((List UInt8 × (List UInt8 × (Int × (List (Int × (Int × List UInt8)) × (Int × Int))))) ⊕ (List UInt8)) :=
  if (decide ((y.2.2.2.2.2 : Int) < y.2.2.2.2.1)) = true then
    if (decide ((0 : Int) ≤ y.2.2.2.2.2)) = true then
    Option.bind (y.2.2.2.1[Int.toNat y.2.2.2.2.2]?) fun r1 =>
    if (decide ((0 : Int) ≤ y.2.2.1)) = true then
    if (decide ((y.2.2.1 : Int) ≤ IntKind.wrap .i64 (y.2.2.1 + r1.1))) = true then
    if (decide ((IntKind.wrap .i64 (y.2.2.1 + r1.1) : Int) ≤ ((List.length y.1 : Nat) : Int))) = true then
    if (decide ((((List.length y.1 : Nat) : Int) : Int) ≤ ((List.length y.1 : Nat) : Int))) = true then
    if (decide ((List.length (((y.1 : List UInt8).drop (Int.toNat y.2.2.1)).take (Int.toNat (IntKind.wrap .i64 (y.2.2.1 + r1.1)) - Int.toNat y.2.2.1)) + List.length r1.2.2 : Nat) ≤ 9223372036854775807)) = true then
    if (decide ((List.length y.2.1 + List.length ((((y.1 : List UInt8).drop (Int.toNat y.2.2.1)).take (Int.toNat (IntKind.wrap .i64 (y.2.2.1 + r1.1)) - Int.toNat y.2.2.1) : List UInt8) ++ r1.2.2) : Nat) ≤ 9223372036854775807)) = true then
    some (.inl (y.1, (y.2.1 : List UInt8) ++ ((((y.1 : List UInt8).drop (Int.toNat y.2.2.1)).take (Int.toNat (IntKind.wrap .i64 (y.2.2.1 + r1.1)) - Int.toNat y.2.2.1) : List UInt8) ++ r1.2.2), IntKind.wrap .i64 (y.2.2.1 + (IntKind.wrap .i64 (r1.1 + r1.2.1))), y.2.2.2.1, y.2.2.2.2.1, IntKind.wrap .i64 (y.2.2.2.2.2 + 1)))
    else none
    else none
    else none
    else none
    else none
    else none
    else none
  else
    some (.inr y.2.1)
def i_apply (x0 : List UInt8) (x1 : List (Int × (Int × List UInt8))) : Option (List UInt8) :=
  Option.bind (loopG i_apply_L1 (x0, ([] : List UInt8), 0, x1, ((List.length x1 : Nat) : Int), 0)) fun v2 =>
  some v2
def i_History_text_L1 (y : (List UInt8 × (List (List (Int × (Int × List UInt8))) × (Int × Int)))) : Option ((List UInt8 × (List (List (Int × (Int × List UInt8))) × (Int × Int))) ⊕ (List UInt8)) :=
  if (decide ((y.2.2.2 : Int) < y.2.2.1)) = true then
    if (decide ((0 : Int) ≤ y.2.2.2)) = true then
    Option.bind (y.2.1[Int.toNat y.2.2.2]?) fun r1 =>
    Option.bind (i_apply y.1 r1) fun c2 =>
    some (.inl (c2, y.2.1, y.2.2.1, IntKind.wrap .i64 (y.2.2.2 + 1)))
    else none
  else
    some (.inr y.1)
def i_History_text (x0 : Int) (x1 : List UInt8) (x2 : List (Int × Int)) (x3 : List (List (Int × (Int × List UInt8)))) (x4 : Int) : Option (List UInt8) :=
  if (decide ((0 : Int) ≤ 0)) = true then
  if (decide ((0 : Int) ≤ IntKind.wrap .i64 (x4 - x0))) = true then
  if (decide ((IntKind.wrap .i64 (x4 - x0) : Int) ≤ ((List.length x3 : Nat) : Int))) = true then
  if (decide ((((List.length x3 : Nat) : Int) : Int) ≤ ((List.length x3 : Nat) : Int))) = true then
  Option.bind (loopG i_History_text_L1 (x1, (List.drop (Int.toNat 0) x3).take (Int.toNat (IntKind.wrap .i64 (x4 - x0)) - Int.toNat 0), ((List.length ((List.drop (Int.toNat 0) x3).take (Int.toNat (IntKind.wrap .i64 (x4 - x0)) - Int.toNat 0)) : Nat) : Int), 0)) fun v3 =>
  some v3
  else none
  else none
  else none
  else none
def slices_Clone_loop_example_g00083_impl_Run_loop_example_g00083_impl_Run (x0 : List (Int × Int)) : Option (List (Int × Int)) :=
  Option.bind (α := List (Int × Int)) (bothQ (List.isEmpty x0) (
      some []) (
      if (roomFor (List.length ([] : List (Int × Int)) + List.length x0) 16) = true then
      some (([] : List (Int × Int)) ++ x0)
      else none)) fun v1 =>
  some v1
def i_revs_L1 (y : (List Int × (List (Int × Int) × (Int × (Int × (Int × (Int × (Int × Int)))))))) : Option ((List Int × (List (Int × Int) × (Int × (Int × (Int × (Int × (Int × Int))))))) ⊕ (List Int × (List (Int × Int) × (Int × Int)))) :=
  if (decide ((y.2.2.2.2.2.1 : Int) < y.2.2.2.2.1)) = true then
    if (roomFor (List.length y.1 + List.length ([y.2.2.2.2.2.2.1] : List Int)) 8) = true then
    some (.inl (y.1 ++ ([y.2.2.2.2.2.2.1] : List Int), y.2.1, y.2.2.1, y.2.2.2.1, y.2.2.2.2.1, IntKind.wrap .i64 (y.2.2.2.2.2.1 + 1), y.2.2.2.2.2.2.1, y.2.2.2.2.2.2.2))
    else none
  else
    some (.inr (y.1, y.2.1, y.2.2.1, y.2.2.2.1))
def i_revs_L2 (y : (List Int × (List (Int × Int) × (Int × Int)))) : Option ((List Int × (List (Int × Int) × (Int × Int))) ⊕ (List Int)) :=
  if (decide ((y.2.2.2 : Int) < y.2.2.1)) = true then
    if (decide ((0 : Int) ≤ y.2.2.2)) = true then
    Option.bind (y.2.1[Int.toNat y.2.2.2]?) fun r1 =>
    Option.bind (loopG i_revs_L1 (y.1, y.2.1, y.2.2.1, y.2.2.2, r1.2, 0, r1.1, r1.2)) fun v2 =>
    some (.inl (v2.1, v2.2.1, v2.2.2.1, IntKind.wrap .i64 (v2.2.2.2 + 1)))
    else none
  else
    some (.inr y.1)
def i_revs (x0 : List (Int × Int)) : Option (List Int) :=
  Option.bind (loopG i_revs_L2 ([], x0, ((List.length x0 : Nat) : Int), 0)) fun v3 =>
  some v3
def i_runs_L1 (y : (List (Int × Int) × (List Int × (Int × Int)))) : Option ((List (Int × Int) × (List Int × (Int × Int))) ⊕ (List (Int × Int))) :=
  if (decide ((y.2.2.2 : Int) < y.2.2.1)) = true then
    if (decide ((0 : Int) ≤ y.2.2.2)) = true then
    Option.bind (y.2.1[Int.toNat y.2.2.2]?) fun r1 =>
    Option.bind (α := (List (Int × Int) × (Int × (Int × (List Int × (Int × (Int × Bool))))))) (
        if (decide ((0 : Int) < ((List.length y.1 : Nat) : Int))) = true then
          if (decide ((0 : Int) ≤ IntKind.wrap .i64 (((List.length y.1 : Nat) : Int) - 1))) = true then
          if (decide ((IntKind.wrap .i64 (((List.length y.1 : Nat) : Int) - 1) : Int) < ((List.length y.1 : Nat) : Int))) = true then
          Option.bind (y.1[0 + Int.toNat (IntKind.wrap .i64 (((List.length y.1 : Nat) : Int) - 1))]?) fun r2 =>
          some (y.1, r1, ((List.length y.1 : Nat) : Int), y.2.1, y.2.2.1, y.2.2.2, decide ((r2.1 : Int) = r1))
          else none
          else none
        else
        some (y.1, r1, ((List.length y.1 : Nat) : Int), y.2.1, y.2.2.1, y.2.2.2, false)) fun v3 =>
    Option.bind (α := (List (Int × Int) × (List Int × (Int × Int)))) (
        if v3.2.2.2.2.2.2 = true then
          if (decide ((0 : Int) ≤ IntKind.wrap .i64 (v3.2.2.1 - 1))) = true then
          if (decide ((IntKind.wrap .i64 (v3.2.2.1 - 1) : Int) < ((List.length v3.1 : Nat) : Int))) = true then
          Option.bind (v3.1[0 + Int.toNat (IntKind.wrap .i64 (v3.2.2.1 - 1))]?) fun r4 =>
          if (decide ((0 : Int) ≤ IntKind.wrap .i64 (v3.2.2.1 - 1))) = true then
          if (decide ((IntKind.wrap .i64 (v3.2.2.1 - 1) : Int) < ((List.length v3.1 : Nat) : Int))) = true then
          Option.bind (v3.1[0 + Int.toNat (IntKind.wrap .i64 (v3.2.2.1 - 1))]?) fun r5 =>
          Option.bind (v3.1[0 + Int.toNat (IntKind.wrap .i64 (v3.2.2.1 - 1))]?) fun r6 =>
          some (v3.1.set (0 + Int.toNat (IntKind.wrap .i64 (v3.2.2.1 - 1))) (r6.1, IntKind.wrap .i64 (r4.2 + 1)), v3.2.2.2.1, v3.2.2.2.2.1, v3.2.2.2.2.2.1)
          else none
          else none
          else none
          else none
        else
        if (roomFor (List.length v3.1 + List.length ([(v3.2.1, 1)] : List (Int × Int))) 16) = true then
        some (v3.1 ++ ([(v3.2.1, 1)] : List (Int × Int)), v3.2.2.2.1, v3.2.2.2.2.1, v3.2.2.2.2.2.1)
        else none) fun v7 =>
    some (.inl (v7.1, v7.2.1, v7.2.2.1, IntKind.wrap .i64 (v7.2.2.2 + 1)))
    else none
  else
    some (.inr y.1)
def i_runs (x0 : List Int) : Option (List (Int × Int)) :=
  Option.bind (loopG i_runs_L1 ([], x0, ((List.length x0 : Nat) : Int), 0)) fun v8 =>
  some v8
def i_carryRuns_L1 (y : (Int × (List Int × (List Int × (Int × (List (Int × (Int × List UInt8)) × (Int × (Int × (Int × Int))))))))) : Option ((Int × (List Int × (List Int × (Int × (List (Int × (Int × List UInt8)) × (Int × (Int × (Int × Int)))))))) ⊕ (Int × (List Int × (List Int × (Int × (List (Int × (Int × List UInt8)) × (Int × Int))))))) :=
  if (decide ((y.2.2.2.2.2.2.2.2 : Int) < y.2.2.2.2.2.2.2.1)) = true then
    if (roomFor (List.length y.2.2.1 + List.length ([y.1] : List Int)) 8) = true then
    some (.inl (y.1, y.2.1, y.2.2.1 ++ ([y.1] : List Int), y.2.2.2.1, y.2.2.2.2.1, y.2.2.2.2.2.1, y.2.2.2.2.2.2.1, y.2.2.2.2.2.2.2.1, IntKind.wrap .i64 (y.2.2.2.2.2.2.2.2 + 1)))
    else none
  else
    some (.inr (y.1, y.2.1, y.2.2.1, y.2.2.2.1, y.2.2.2.2.1, y.2.2.2.2.2.1, y.2.2.2.2.2.2.1))
def i_carryRuns_L2 (y : (Int × (List Int × (List Int × (Int × (List (Int × (Int × List UInt8)) × (Int × Int))))))) : Option ((Int × (List Int × (List Int × (Int × (List (Int × (Int × List UInt8)) × (Int × Int)))))) ⊕ (List Int)) :=
  if (decide ((y.2.2.2.2.2.2 : Int) < y.2.2.2.2.2.1)) = true then
    if (decide ((0 : Int) ≤ y.2.2.2.2.2.2)) = true then
    Option.bind (y.2.2.2.2.1[Int.toNat y.2.2.2.2.2.2]?) fun r2 =>
    if (decide ((0 : Int) ≤ y.2.2.2.1)) = true then
    if (decide ((y.2.2.2.1 : Int) ≤ IntKind.wrap .i64 (y.2.2.2.1 + r2.1))) = true then
    if (decide ((IntKind.wrap .i64 (y.2.2.2.1 + r2.1) : Int) ≤ ((List.length y.2.1 : Nat) : Int))) = true then
    if (decide ((((List.length y.2.1 : Nat) : Int) : Int) ≤ ((List.length y.2.1 : Nat) : Int))) = true then
    if (roomFor (List.length y.2.2.1 + List.length ((y.2.1.drop (Int.toNat y.2.2.2.1)).take (Int.toNat (IntKind.wrap .i64 (y.2.2.2.1 + r2.1)) - Int.toNat y.2.2.2.1))) 8) = true then
    Option.bind (loopG i_carryRuns_L1 (y.1, y.2.1, y.2.2.1 ++ ((y.2.1.drop (Int.toNat y.2.2.2.1)).take (Int.toNat (IntKind.wrap .i64 (y.2.2.2.1 + r2.1)) - Int.toNat y.2.2.2.1)), IntKind.wrap .i64 (y.2.2.2.1 + (IntKind.wrap .i64 (r2.1 + r2.2.1))), y.2.2.2.2.1, y.2.2.2.2.2.1, y.2.2.2.2.2.2, ((List.length r2.2.2 : Nat) : Int), 0)) fun v3 =>
    some (.inl (v3.1, v3.2.1, v3.2.2.1, v3.2.2.2.1, v3.2.2.2.2.1, v3.2.2.2.2.2.1, IntKind.wrap .i64 (v3.2.2.2.2.2.2 + 1)))
    else none
    else none
    else none
    else none
    else none
    else none
  else
    some (.inr y.2.2.1)
def i_carryRuns (x0 : List (Int × Int)) (x1 : List (Int × (Int × List UInt8))) (x2 : Int) : Option (List (Int × Int)) :=
  Option.bind (i_revs x0) fun c1 =>
  Option.bind (loopG i_carryRuns_L2 (x2, c1, [], 0, x1, ((List.length x1 : Nat) : Int), 0)) fun v4 =>
  Option.bind (i_runs v4) fun c5 =>
  some c5
def i_History_blame_L1 (y : (List (Int × Int) × (List (List (Int × (Int × List UInt8))) × (Int × (Int × (Int × (List UInt8 × (List (Int × Int) × List (List (Int × (Int × List UInt8))))))))))) : Option ((List (Int × Int) × (List (List (Int × (Int × List UInt8))) × (Int × (Int × (Int × (List UInt8 × (List (Int × Int) × List (List (Int × (Int × List UInt8)))))))))) ⊕ (List (Int × Int))) :=
  if (decide ((y.2.2.2.1 : Int) < y.2.2.1)) = true then
    if (decide ((0 : Int) ≤ y.2.2.2.1)) = true then
    Option.bind (y.2.1[Int.toNat y.2.2.2.1]?) fun r2 =>
    Option.bind (i_carryRuns y.1 r2 (IntKind.wrap .i64 ((IntKind.wrap .i64 (y.2.2.2.2.1 + y.2.2.2.1)) + 1))) fun c3 =>
    some (.inl (c3, y.2.1, y.2.2.1, IntKind.wrap .i64 (y.2.2.2.1 + 1), y.2.2.2.2.1, y.2.2.2.2.2.1, y.2.2.2.2.2.2.1, y.2.2.2.2.2.2.2))
    else none
  else
    some (.inr y.1)
def i_History_blame (x0 : Int) (x1 : List UInt8) (x2 : List (Int × Int)) (x3 : List (List (Int × (Int × List UInt8)))) (x4 : Int) : Option (List (Int × Int)) :=
  Option.bind (slices_Clone_loop_example_g00083_impl_Run_loop_example_g00083_impl_Run x2) fun c1 =>
  if (decide ((0 : Int) ≤ 0)) = true then
  if (decide ((0 : Int) ≤ IntKind.wrap .i64 (x4 - x0))) = true then
  if (decide ((IntKind.wrap .i64 (x4 - x0) : Int) ≤ ((List.length x3 : Nat) : Int))) = true then
  if (decide ((((List.length x3 : Nat) : Int) : Int) ≤ ((List.length x3 : Nat) : Int))) = true then
  Option.bind (loopG i_History_blame_L1 (c1, (List.drop (Int.toNat 0) x3).take (Int.toNat (IntKind.wrap .i64 (x4 - x0)) - Int.toNat 0), ((List.length ((List.drop (Int.toNat 0) x3).take (Int.toNat (IntKind.wrap .i64 (x4 - x0)) - Int.toNat 0)) : Nat) : Int), 0, x0, x1, x2, x3)) fun v4 =>
  some v4
  else none
  else none
  else none
  else none
def i_writeRuns_L1 (y : (List Int × (List (Int × Int) × (Int × Int)))) : Option ((List Int × (List (Int × Int) × (Int × Int))) ⊕ (List Int)) :=
  if (decide ((y.2.2.2 : Int) < y.2.2.1)) = true then
    if (decide ((0 : Int) ≤ y.2.2.2)) = true then
    Option.bind (y.2.1[Int.toNat y.2.2.2]?) fun r1 =>
    if (roomFor (List.length y.1 + List.length ([IntKind.wrap .u8 r1.1, IntKind.wrap .u8 r1.2] : List Int)) 1) = true then
    some (.inl (y.1 ++ ([IntKind.wrap .u8 r1.1, IntKind.wrap .u8 r1.2] : List Int), y.2.1, y.2.2.1, IntKind.wrap .i64 (y.2.2.2 + 1)))
    else none
    else none
  else
    some (.inr y.1)
def i_writeRuns (x0 : List (Int × Int)) : Option (List Int) :=
  Option.bind (loopG i_writeRuns_L1 ([], x0, ((List.length x0 : Nat) : Int), 0)) fun v2 =>
  some v2
def i_two (x0 : Int) : Option (List Int) :=
  if (decide ((0 : Int) ≤ 8)) = true then
  some [IntKind.wrap .u8 (Int.fdiv x0 (2 ^ (min (Int.toNat 8) (IntKind.bits .i64)))), IntKind.wrap .u8 x0]
  else none
def i_writeChange_L1 (y : (List Int × (List (Int × (Int × List UInt8)) × (Int × Int)))) : Option ((List Int × (List (Int × (Int × List UInt8)) × (Int × Int))) ⊕ (List Int)) :=
  if (decide ((y.2.2.2 : Int) < y.2.2.1)) = true then
    if (decide ((0 : Int) ≤ y.2.2.2)) = true then
    Option.bind (y.2.1[Int.toNat y.2.2.2]?) fun r1 =>
    Option.bind (i_Part_kind r1.1 r1.2.1 r1.2.2) fun c2 =>
    if (roomFor (List.length y.1 + List.length ([IntKind.wrap .u8 c2, IntKind.wrap .u8 (IntKind.wrap .i64 ((IntKind.wrap .i64 (r1.1 + r1.2.1)) + ((List.length r1.2.2 : Nat) : Int)))] : List Int)) 1) = true then
    if (roomFor (List.length (y.1 ++ ([IntKind.wrap .u8 c2, IntKind.wrap .u8 (IntKind.wrap .i64 ((IntKind.wrap .i64 (r1.1 + r1.2.1)) + ((List.length r1.2.2 : Nat) : Int)))] : List Int)) + List.length (bytesOf r1.2.2)) 1) = true then
    some (.inl ((y.1 ++ ([IntKind.wrap .u8 c2, IntKind.wrap .u8 (IntKind.wrap .i64 ((IntKind.wrap .i64 (r1.1 + r1.2.1)) + ((List.length r1.2.2 : Nat) : Int)))] : List Int)) ++ (bytesOf r1.2.2), y.2.1, y.2.2.1, IntKind.wrap .i64 (y.2.2.2 + 1)))
    else none
    else none
    else none
  else
    some (.inr y.1)
def i_writeChange (x0 : List (Int × (Int × List UInt8))) : Option (List Int) :=
  Option.bind (loopG i_writeChange_L1 ([], x0, ((List.length x0 : Nat) : Int), 0)) fun v3 =>
  some v3
def i_digest_L1 (y : (Int × (List Int × (Int × Int)))) : Option ((Int × (List Int × (Int × Int))) ⊕ Int) :=
  if (decide ((y.2.2.2 : Int) < y.2.2.1)) = true then
    if (decide ((0 : Int) ≤ y.2.2.2)) = true then
    Option.bind (y.2.1[Int.toNat y.2.2.2]?) fun r1 =>
    some (.inl (IntKind.wrap .u32 ((IntKind.wrap .u32 (((BitVec.ofInt (IntKind.bits .u32) y.1 ^^^ BitVec.ofInt (IntKind.bits .u32) (IntKind.wrap .u32 r1)).toNat : Int))) * 16777619), y.2.1, y.2.2.1, IntKind.wrap .i64 (y.2.2.2 + 1)))
    else none
  else
    some (.inr y.1)
def i_digest (x0 : Int) (x1 : List Int) : Option (Int) :=
  Option.bind (loopG i_digest_L1 (x0, x1, ((List.length x1 : Nat) : Int), 0)) fun v2 =>
  some v2
def i_DigestOf (x0 : List Int) : Option (Int) :=
  Option.bind (i_digest 2166136261 x0) fun c1 =>
  some c1
def i_four (x0 : Int) : Option (List Int) :=
  if (decide ((0 : Int) ≤ 24)) = true then
  if (decide ((0 : Int) ≤ 16)) = true then
  if (decide ((0 : Int) ≤ 8)) = true then
  some [IntKind.wrap .u8 (Int.fdiv x0 (2 ^ (min (Int.toNat 24) (IntKind.bits .u32)))), IntKind.wrap .u8 (Int.fdiv x0 (2 ^ (min (Int.toNat 16) (IntKind.bits .u32)))), IntKind.wrap .u8 (Int.fdiv x0 (2 ^ (min (Int.toNat 8) (IntKind.bits .u32)))), IntKind.wrap .u8 x0]
  else none
  else none
  else none
def i_bundle_L1 (y : (List Int × (List (List (Int × (Int × List UInt8))) × (Int × Int)))) : Option ((List Int × (List (List (Int × (Int × List UInt8))) × (Int × Int))) ⊕ (List Int)) :=
  if (decide ((y.2.2.2 : Int) < y.2.2.1)) = true then
    if (decide ((0 : Int) ≤ y.2.2.2)) = true then
    Option.bind (y.2.1[Int.toNat y.2.2.2]?) fun r5 =>
    Option.bind (i_writeChange r5) fun c6 =>
    Option.bind (i_two ((List.length c6 : Nat) : Int)) fun c7 =>
    if (roomFor (List.length y.1 + List.length c7) 1) = true then
    if (roomFor (List.length (y.1 ++ c7) + List.length c6) 1) = true then
    some (.inl ((y.1 ++ c7) ++ c6, y.2.1, y.2.2.1, IntKind.wrap .i64 (y.2.2.2 + 1)))
    else none
    else none
    else none
  else
    some (.inr y.1)
def i_bundle (x0 : Int) (x1 : List UInt8) (x2 : List (Int × Int)) (x3 : List (List (Int × (Int × List UInt8)))) (x4 : Int) (x5 : Int) : Option (List Int) :=
  Option.bind (i_History_text x0 x1 x2 x3 x4) fun c1 =>
  Option.bind (i_History_blame x0 x1 x2 x3 x4) fun c2 =>
  Option.bind (i_writeRuns c2) fun c3 =>
  if (roomFor (List.length ([66, 78, 68, 49, IntKind.wrap .u8 x4, IntKind.wrap .u8 x5, IntKind.wrap .u8 ((List.length c1 : Nat) : Int)] : List Int) + List.length (bytesOf c1)) 1) = true then
  Option.bind (i_two ((List.length c3 : Nat) : Int)) fun c4 =>
  if (roomFor (List.length (([66, 78, 68, 49, IntKind.wrap .u8 x4, IntKind.wrap .u8 x5, IntKind.wrap .u8 ((List.length c1 : Nat) : Int)] : List Int) ++ (bytesOf c1)) + List.length c4) 1) = true then
  if (roomFor (List.length ((([66, 78, 68, 49, IntKind.wrap .u8 x4, IntKind.wrap .u8 x5, IntKind.wrap .u8 ((List.length c1 : Nat) : Int)] : List Int) ++ (bytesOf c1)) ++ c4) + List.length c3) 1) = true then
  if (decide ((0 : Int) ≤ IntKind.wrap .i64 (x4 - x0))) = true then
  if (decide ((IntKind.wrap .i64 (x4 - x0) : Int) ≤ IntKind.wrap .i64 (x5 - x0))) = true then
  if (decide ((IntKind.wrap .i64 (x5 - x0) : Int) ≤ ((List.length x3 : Nat) : Int))) = true then
  if (decide ((((List.length x3 : Nat) : Int) : Int) ≤ ((List.length x3 : Nat) : Int))) = true then
  Option.bind (loopG i_bundle_L1 (((([66, 78, 68, 49, IntKind.wrap .u8 x4, IntKind.wrap .u8 x5, IntKind.wrap .u8 ((List.length c1 : Nat) : Int)] : List Int) ++ (bytesOf c1)) ++ c4) ++ c3, (List.drop (Int.toNat (IntKind.wrap .i64 (x4 - x0))) x3).take (Int.toNat (IntKind.wrap .i64 (x5 - x0)) - Int.toNat (IntKind.wrap .i64 (x4 - x0))), ((List.length ((List.drop (Int.toNat (IntKind.wrap .i64 (x4 - x0))) x3).take (Int.toNat (IntKind.wrap .i64 (x5 - x0)) - Int.toNat (IntKind.wrap .i64 (x4 - x0)))) : Nat) : Int), 0)) fun v8 =>
  Option.bind (i_DigestOf v8) fun c9 =>
  Option.bind (i_four c9) fun c10 =>
  if (roomFor (List.length v8 + List.length c10) 1) = true then
  some (v8 ++ c10)
  else none
  else none
  else none
  else none
  else none
  else none
  else none
  else none
def i_ExportRange (x0 : Int) (x1 : List UInt8) (x2 : List (Int × Int)) (x3 : List (List (Int × (Int × List UInt8)))) (x4 : Int) (x5 : Int) : Option ((List Int × Int)) :=
  Option.bind (i_History_code x0 x1 x2 x3 x4 x5) fun c1 =>
  if (decide ((c1 : Int) = 1)) = true then
    some ([], 1)
  else
  if (decide ((c1 : Int) = 2)) = true then
    some ([], 2)
  else
    Option.bind (i_bundle x0 x1 x2 x3 x4 x5) fun c2 =>
    if (decide ((20000 : Int) < ((List.length c2 : Nat) : Int))) = true then
      some ([], 6)
    else
      some (c2, 0)
def s_l9Each_L1 (y : (List Int × (Int × (List (Int × Int) × (Int × (Int × (Int × Int))))))) : Option ((List Int × (Int × (List (Int × Int) × (Int × (Int × (Int × Int)))))) ⊕ (List Int × (List (Int × Int) × (Int × Int)))) :=
  if (decide ((y.2.1 : Int) < y.2.2.2.2.2.2)) = true then
    if (roomFor (List.length y.1 + List.length ([y.2.2.2.2.2.1] : List Int)) 8) = true then
    some (.inl (y.1 ++ ([y.2.2.2.2.2.1] : List Int), IntKind.wrap .i64 (y.2.1 + 1), y.2.2.1, y.2.2.2.1, y.2.2.2.2.1, y.2.2.2.2.2.1, y.2.2.2.2.2.2))
    else none
  else
    some (.inr (y.1, y.2.2.1, y.2.2.2.1, y.2.2.2.2.1))
def s_l9Each_L2 (y : (List Int × (List (Int × Int) × (Int × Int)))) : Option ((List Int × (List (Int × Int) × (Int × Int))) ⊕ (List Int)) :=
  if (decide ((y.2.2.2 : Int) < y.2.2.1)) = true then
    if (decide ((0 : Int) ≤ y.2.2.2)) = true then
    Option.bind (y.2.1[Int.toNat y.2.2.2]?) fun r3 =>
    Option.bind (loopG s_l9Each_L1 (y.1, 0, y.2.1, y.2.2.1, y.2.2.2, r3.1, r3.2)) fun v4 =>
    some (.inl (v4.1, v4.2.1, v4.2.2.1, IntKind.wrap .i64 (v4.2.2.2 + 1)))
    else none
  else
    some (.inr y.1)
def s_l9Each (x0 : List (Int × Int)) : Option (List Int) :=
  Option.bind (loopG s_l9Each_L2 ([], x0, ((List.length x0 : Nat) : Int), 0)) fun v5 =>
  some v5
def s_l9Carry_L1 (y : (Int × (List Int × (List (Int × Int) × (Int × (Int × (List (Int × (Int × List UInt8)) × (Int × (Int × (Int × (Int × List UInt8))))))))))) : Option ((Int × (List Int × (List (Int × Int) × (Int × (Int × (List (Int × (Int × List UInt8)) × (Int × (Int × (Int × (Int × List UInt8)))))))))) ⊕ (Int × (List Int × (List (Int × Int) × (Int × (List (Int × (Int × List UInt8)) × (Int × (Int × (Int × (Int × List UInt8)))))))))) :=
  if (decide ((y.2.2.2.2.1 : Int) < y.2.2.2.2.2.2.2.2.1)) = true then
    if (decide ((0 : Int) ≤ IntKind.wrap .i64 (y.2.2.2.1 + y.2.2.2.2.1))) = true then
    if (decide ((IntKind.wrap .i64 (y.2.2.2.1 + y.2.2.2.2.1) : Int) < ((List.length y.2.1 : Nat) : Int))) = true then
    Option.bind (y.2.1[0 + Int.toNat (IntKind.wrap .i64 (y.2.2.2.1 + y.2.2.2.2.1))]?) fun r10 =>
    Option.bind (s_l9Add y.2.2.1 r10 1) fun c11 =>
    some (.inl (y.1, y.2.1, c11, y.2.2.2.1, IntKind.wrap .i64 (y.2.2.2.2.1 + 1), y.2.2.2.2.2.1, y.2.2.2.2.2.2.1, y.2.2.2.2.2.2.2.1, y.2.2.2.2.2.2.2.2.1, y.2.2.2.2.2.2.2.2.2.1, y.2.2.2.2.2.2.2.2.2.2))
    else none
    else none
  else
    some (.inr (y.1, y.2.1, y.2.2.1, y.2.2.2.1, y.2.2.2.2.2.1, y.2.2.2.2.2.2.1, y.2.2.2.2.2.2.2.1, y.2.2.2.2.2.2.2.2.1, y.2.2.2.2.2.2.2.2.2.1, y.2.2.2.2.2.2.2.2.2.2))
def s_l9Carry_L2 (y : (Int × (List Int × (List (Int × Int) × (Int × (List (Int × (Int × List UInt8)) × (Int × Int))))))) : Option ((Int × (List Int × (List (Int × Int) × (Int × (List (Int × (Int × List UInt8)) × (Int × Int)))))) ⊕ (List (Int × Int))) :=
  if (decide ((y.2.2.2.2.2.2 : Int) < y.2.2.2.2.2.1)) = true then
    if (decide ((0 : Int) ≤ y.2.2.2.2.2.2)) = true then
    Option.bind (y.2.2.2.2.1[Int.toNat y.2.2.2.2.2.2]?) fun r9 =>
    Option.bind (loopG s_l9Carry_L1 (y.1, y.2.1, y.2.2.1, y.2.2.2.1, 0, y.2.2.2.2.1, y.2.2.2.2.2.1, y.2.2.2.2.2.2, r9.1, r9.2.1, r9.2.2)) fun v12 =>
    Option.bind (s_l9Add v12.2.2.1 v12.1 ((List.length v12.2.2.2.2.2.2.2.2.2 : Nat) : Int)) fun c13 =>
    some (.inl (v12.1, v12.2.1, c13, IntKind.wrap .i64 (v12.2.2.2.1 + (IntKind.wrap .i64 (v12.2.2.2.2.2.2.2.1 + v12.2.2.2.2.2.2.2.2.1))), v12.2.2.2.2.1, v12.2.2.2.2.2.1, IntKind.wrap .i64 (v12.2.2.2.2.2.2.1 + 1)))
    else none
  else
    some (.inr y.2.2.1)
def s_l9Carry (x0 : List (Int × Int)) (x1 : List (Int × (Int × List UInt8))) (x2 : Int) : Option (List (Int × Int)) :=
  Option.bind (s_l9Each x0) fun c1 =>
  Option.bind (loopG s_l9Carry_L2 (x2, c1, [], 0, x1, ((List.length x1 : Nat) : Int), 0)) fun v14 =>
  some v14
def s_l10Blame_L1 (y : (List (Int × Int) × (List (List (Int × (Int × List UInt8))) × (Int × (Int × (Int × (List UInt8 × (List (Int × Int) × List (List (Int × (Int × List UInt8))))))))))) : Option ((List (Int × Int) × (List (List (Int × (Int × List UInt8))) × (Int × (Int × (Int × (List UInt8 × (List (Int × Int) × List (List (Int × (Int × List UInt8)))))))))) ⊕ (List (Int × Int))) :=
  if (decide ((y.2.2.2.1 : Int) < y.2.2.1)) = true then
    if (decide ((0 : Int) ≤ y.2.2.2.1)) = true then
    Option.bind (y.2.1[Int.toNat y.2.2.2.1]?) fun r1 =>
    Option.bind (s_l9Carry y.1 r1 (IntKind.wrap .i64 ((IntKind.wrap .i64 (y.2.2.2.2.1 + y.2.2.2.1)) + 1))) fun c2 =>
    some (.inl (c2, y.2.1, y.2.2.1, IntKind.wrap .i64 (y.2.2.2.1 + 1), y.2.2.2.2.1, y.2.2.2.2.2.1, y.2.2.2.2.2.2.1, y.2.2.2.2.2.2.2))
    else none
  else
    some (.inr y.1)
def s_l10Blame (x0 : Int) (x1 : List UInt8) (x2 : List (Int × Int)) (x3 : List (List (Int × (Int × List UInt8)))) (x4 : Int) : Option (List (Int × Int)) :=
  if (roomFor (List.length ([] : List (Int × Int)) + List.length x2) 16) = true then
  if (decide ((0 : Int) ≤ 0)) = true then
  if (decide ((0 : Int) ≤ IntKind.wrap .i64 (x4 - x0))) = true then
  if (decide ((IntKind.wrap .i64 (x4 - x0) : Int) ≤ ((List.length x3 : Nat) : Int))) = true then
  if (decide ((((List.length x3 : Nat) : Int) : Int) ≤ ((List.length x3 : Nat) : Int))) = true then
  Option.bind (loopG s_l10Blame_L1 (([] : List (Int × Int)) ++ x2, (List.drop (Int.toNat 0) x3).take (Int.toNat (IntKind.wrap .i64 (x4 - x0)) - Int.toNat 0), ((List.length ((List.drop (Int.toNat 0) x3).take (Int.toNat (IntKind.wrap .i64 (x4 - x0)) - Int.toNat 0)) : Nat) : Int), 0, x0, x1, x2, x3)) fun v3 =>
  some v3
  else none
  else none
  else none
  else none
  else none
def s_l9Write_L1 (y : (List Int × (List (Int × Int) × (Int × Int)))) : Option ((List Int × (List (Int × Int) × (Int × Int))) ⊕ (List Int)) :=
  if (decide ((y.2.2.2 : Int) < y.2.2.1)) = true then
    if (decide ((0 : Int) ≤ y.2.2.2)) = true then
    Option.bind (y.2.1[Int.toNat y.2.2.2]?) fun r2 =>
    if (roomFor (List.length y.1 + List.length ([IntKind.wrap .u8 r2.1, IntKind.wrap .u8 r2.2] : List Int)) 1) = true then
    some (.inl (y.1 ++ ([IntKind.wrap .u8 r2.1, IntKind.wrap .u8 r2.2] : List Int), y.2.1, y.2.2.1, IntKind.wrap .i64 (y.2.2.2 + 1)))
    else none
    else none
  else
    some (.inr y.1)
def s_l9Write (x0 : List (Int × Int)) : Option (List Int) :=
  Option.bind (loopG s_l9Write_L1 ([], x0, ((List.length x0 : Nat) : Int), 0)) fun v3 =>
  some v3
def s_l1Write_L1 (y : (List Int × (List (Int × (Int × List UInt8)) × (Int × Int)))) : Option ((List Int × (List (Int × (Int × List UInt8)) × (Int × Int))) ⊕ (List Int)) :=
  if (decide ((y.2.2.2 : Int) < y.2.2.1)) = true then
    if (decide ((0 : Int) ≤ y.2.2.2)) = true then
    Option.bind (y.2.1[Int.toNat y.2.2.2]?) fun r3 =>
    Option.bind (s_l1Kind r3.1 r3.2.1 r3.2.2) fun c4 =>
    if (roomFor (List.length y.1 + List.length ([IntKind.wrap .u8 c4, IntKind.wrap .u8 (IntKind.wrap .i64 ((IntKind.wrap .i64 (r3.1 + r3.2.1)) + ((List.length r3.2.2 : Nat) : Int)))] : List Int)) 1) = true then
    if (roomFor (List.length (y.1 ++ ([IntKind.wrap .u8 c4, IntKind.wrap .u8 (IntKind.wrap .i64 ((IntKind.wrap .i64 (r3.1 + r3.2.1)) + ((List.length r3.2.2 : Nat) : Int)))] : List Int)) + List.length (bytesOf r3.2.2)) 1) = true then
    some (.inl ((y.1 ++ ([IntKind.wrap .u8 c4, IntKind.wrap .u8 (IntKind.wrap .i64 ((IntKind.wrap .i64 (r3.1 + r3.2.1)) + ((List.length r3.2.2 : Nat) : Int)))] : List Int)) ++ (bytesOf r3.2.2), y.2.1, y.2.2.1, IntKind.wrap .i64 (y.2.2.2 + 1)))
    else none
    else none
    else none
  else
    some (.inr y.1)
def s_l1Write (x0 : List (Int × (Int × List UInt8))) : Option (List Int) :=
  Option.bind (loopG s_l1Write_L1 ([], x0, ((List.length x0 : Nat) : Int), 0)) fun v5 =>
  some v5
def s_DigestOf_L1 (y : (Int × (List Int × (Int × Int)))) : Option ((Int × (List Int × (Int × Int))) ⊕ Int) :=
  if (decide ((y.2.2.2 : Int) < y.2.2.1)) = true then
    if (decide ((0 : Int) ≤ y.2.2.2)) = true then
    Option.bind (y.2.1[Int.toNat y.2.2.2]?) fun r1 =>
    if (decide (¬ (4294967296 : Int) = 0)) = true then
    some (.inl (Int.tmod (IntKind.wrap .u64 ((IntKind.wrap .u64 (((BitVec.ofInt (IntKind.bits .u64) y.1 ^^^ BitVec.ofInt (IntKind.bits .u64) (IntKind.wrap .u64 r1)).toNat : Int))) * 16777619)) 4294967296, y.2.1, y.2.2.1, IntKind.wrap .i64 (y.2.2.2 + 1)))
    else none
    else none
  else
    some (.inr y.1)
def s_DigestOf (x0 : List Int) : Option (Int) :=
  Option.bind (loopG s_DigestOf_L1 (2166136261, x0, ((List.length x0 : Nat) : Int), 0)) fun v2 =>
  some (IntKind.wrap .u32 v2)
def s_ExportRange_L1 (y : (List Int × (List (List (Int × (Int × List UInt8))) × (Int × Int)))) : Option ((List Int × (List (List (Int × (Int × List UInt8))) × (Int × Int))) ⊕ (List Int)) :=
  if (decide ((y.2.2.2 : Int) < y.2.2.1)) = true then
    if (decide ((0 : Int) ≤ y.2.2.2)) = true then
    Option.bind (y.2.1[Int.toNat y.2.2.2]?) fun r5 =>
    Option.bind (s_l1Write r5) fun c6 =>
    if (decide (¬ (256 : Int) = 0)) = true then
    if (roomFor (List.length y.1 + List.length ([IntKind.wrap .u8 (IntKind.wrap .i64 (Int.tdiv ((List.length c6 : Nat) : Int) 256)), IntKind.wrap .u8 ((List.length c6 : Nat) : Int)] : List Int)) 1) = true then
    if (roomFor (List.length (y.1 ++ ([IntKind.wrap .u8 (IntKind.wrap .i64 (Int.tdiv ((List.length c6 : Nat) : Int) 256)), IntKind.wrap .u8 ((List.length c6 : Nat) : Int)] : List Int)) + List.length c6) 1) = true then
    some (.inl ((y.1 ++ ([IntKind.wrap .u8 (IntKind.wrap .i64 (Int.tdiv ((List.length c6 : Nat) : Int) 256)), IntKind.wrap .u8 ((List.length c6 : Nat) : Int)] : List Int)) ++ c6, y.2.1, y.2.2.1, IntKind.wrap .i64 (y.2.2.2 + 1)))
    else none
    else none
    else none
    else none
  else
    some (.inr y.1)
def s_ExportRange (x0 : Int) (x1 : List UInt8) (x2 : List (Int × Int)) (x3 : List (List (Int × (Int × List UInt8)))) (x4 : Int) (x5 : Int) : Option ((List Int × Int)) :=
  Option.bind (s_l10Range x0 x1 x2 x3 x4 x5) fun c1 =>
  if (decide ((c1 : Int) = 1)) = true then
    some ([], 1)
  else
  if (decide ((c1 : Int) = 2)) = true then
    some ([], 2)
  else
    Option.bind (s_l10Text x0 x1 x2 x3 x4) fun c2 =>
    Option.bind (s_l10Blame x0 x1 x2 x3 x4) fun c3 =>
    Option.bind (s_l9Write c3) fun c4 =>
    if (roomFor (List.length ([66, 78, 68, 49, IntKind.wrap .u8 x4, IntKind.wrap .u8 x5, IntKind.wrap .u8 ((List.length c2 : Nat) : Int)] : List Int) + List.length (bytesOf c2)) 1) = true then
    if (decide (¬ (256 : Int) = 0)) = true then
    if (roomFor (List.length (([66, 78, 68, 49, IntKind.wrap .u8 x4, IntKind.wrap .u8 x5, IntKind.wrap .u8 ((List.length c2 : Nat) : Int)] : List Int) ++ (bytesOf c2)) + List.length ([IntKind.wrap .u8 (IntKind.wrap .i64 (Int.tdiv ((List.length c4 : Nat) : Int) 256)), IntKind.wrap .u8 ((List.length c4 : Nat) : Int)] : List Int)) 1) = true then
    if (roomFor (List.length ((([66, 78, 68, 49, IntKind.wrap .u8 x4, IntKind.wrap .u8 x5, IntKind.wrap .u8 ((List.length c2 : Nat) : Int)] : List Int) ++ (bytesOf c2)) ++ ([IntKind.wrap .u8 (IntKind.wrap .i64 (Int.tdiv ((List.length c4 : Nat) : Int) 256)), IntKind.wrap .u8 ((List.length c4 : Nat) : Int)] : List Int)) + List.length c4) 1) = true then
    if (decide ((0 : Int) ≤ IntKind.wrap .i64 (x4 - x0))) = true then
    if (decide ((IntKind.wrap .i64 (x4 - x0) : Int) ≤ IntKind.wrap .i64 (x5 - x0))) = true then
    if (decide ((IntKind.wrap .i64 (x5 - x0) : Int) ≤ ((List.length x3 : Nat) : Int))) = true then
    if (decide ((((List.length x3 : Nat) : Int) : Int) ≤ ((List.length x3 : Nat) : Int))) = true then
    Option.bind (loopG s_ExportRange_L1 (((([66, 78, 68, 49, IntKind.wrap .u8 x4, IntKind.wrap .u8 x5, IntKind.wrap .u8 ((List.length c2 : Nat) : Int)] : List Int) ++ (bytesOf c2)) ++ ([IntKind.wrap .u8 (IntKind.wrap .i64 (Int.tdiv ((List.length c4 : Nat) : Int) 256)), IntKind.wrap .u8 ((List.length c4 : Nat) : Int)] : List Int)) ++ c4, (List.drop (Int.toNat (IntKind.wrap .i64 (x4 - x0))) x3).take (Int.toNat (IntKind.wrap .i64 (x5 - x0)) - Int.toNat (IntKind.wrap .i64 (x4 - x0))), ((List.length ((List.drop (Int.toNat (IntKind.wrap .i64 (x4 - x0))) x3).take (Int.toNat (IntKind.wrap .i64 (x5 - x0)) - Int.toNat (IntKind.wrap .i64 (x4 - x0)))) : Nat) : Int), 0)) fun v7 =>
    Option.bind (s_DigestOf v7) fun c8 =>
    if (decide ((0 : Int) ≤ 24)) = true then
    if (decide ((0 : Int) ≤ 16)) = true then
    if (decide ((0 : Int) ≤ 8)) = true then
    if (roomFor (List.length v7 + List.length ([IntKind.wrap .u8 (Int.fdiv c8 (2 ^ (min (Int.toNat 24) (IntKind.bits .u32)))), IntKind.wrap .u8 (Int.fdiv c8 (2 ^ (min (Int.toNat 16) (IntKind.bits .u32)))), IntKind.wrap .u8 (Int.fdiv c8 (2 ^ (min (Int.toNat 8) (IntKind.bits .u32)))), IntKind.wrap .u8 c8] : List Int)) 1) = true then
    if (decide ((20000 : Int) < ((List.length (v7 ++ ([IntKind.wrap .u8 (Int.fdiv c8 (2 ^ (min (Int.toNat 24) (IntKind.bits .u32)))), IntKind.wrap .u8 (Int.fdiv c8 (2 ^ (min (Int.toNat 16) (IntKind.bits .u32)))), IntKind.wrap .u8 (Int.fdiv c8 (2 ^ (min (Int.toNat 8) (IntKind.bits .u32)))), IntKind.wrap .u8 c8] : List Int)) : Nat) : Int))) = true then
      some ([], 6)
    else
      some (v7 ++ ([IntKind.wrap .u8 (Int.fdiv c8 (2 ^ (min (Int.toNat 24) (IntKind.bits .u32)))), IntKind.wrap .u8 (Int.fdiv c8 (2 ^ (min (Int.toNat 16) (IntKind.bits .u32)))), IntKind.wrap .u8 (Int.fdiv c8 (2 ^ (min (Int.toNat 8) (IntKind.bits .u32)))), IntKind.wrap .u8 c8] : List Int), 0)
    else none
    else none
    else none
    else none
    else none
    else none
    else none
    else none
    else none
    else none
    else none
    else none
def slices_Equal_byte_byte_L1 (y : (List Int × (List Int × (Int × Int)))) : Option ((List Int × (List Int × (Int × Int))) ⊕ (Unit ⊕ Bool)) :=
  if (decide ((y.2.2.2 : Int) < y.2.2.1)) = true then
    if (decide ((0 : Int) ≤ y.2.2.2)) = true then
    Option.bind (y.1[Int.toNat y.2.2.2]?) fun r1 =>
    if (decide ((0 : Int) ≤ y.2.2.2)) = true then
    Option.bind (y.2.1[Int.toNat y.2.2.2]?) fun r2 =>
    if (decide (¬ (r1 : Int) = r2)) = true then
      some (.inr (.inr false))
    else
      some (.inl (y.1, y.2.1, y.2.2.1, IntKind.wrap .i64 (y.2.2.2 + 1)))
    else none
    else none
  else
    some (.inr (.inl ()))
def slices_Equal_byte_byte (x0 : List Int) (x1 : List Int) : Option (Bool) :=
  if (decide (¬ (((List.length x0 : Nat) : Int) : Int) = ((List.length x1 : Nat) : Int))) = true then
    some false
  else
    Option.bind (loopG slices_Equal_byte_byte_L1 (x0, x1, ((List.length x0 : Nat) : Int), 0)) fun v3 =>
    match v3 with
    | .inl y4 =>
      some true
    | .inr s5 =>
      some s5
def i_taker_take_f (x0 : Int) (x1 : List Int) (x2 : Bool) : Option ((List Int × (List Int × Bool))) :=
  Option.bind (α := (Int × (List Int × Bool))) (
      if (decide ((((List.length x1 : Nat) : Int) : Int) < x0)) = true then
        some (0, x1, true)
      else
        some (x0, x1, x2)) fun v1 =>
  if (decide ((0 : Int) ≤ 0)) = true then
  if (decide ((0 : Int) ≤ v1.1)) = true then
  if (decide ((v1.1 : Int) ≤ ((List.length v1.2.1 : Nat) : Int))) = true then
  if (decide ((((List.length v1.2.1 : Nat) : Int) : Int) ≤ ((List.length v1.2.1 : Nat) : Int))) = true then
  if (decide ((0 : Int) ≤ v1.1)) = true then
  if (decide ((v1.1 : Int) ≤ ((List.length v1.2.1 : Nat) : Int))) = true then
  if (decide ((((List.length v1.2.1 : Nat) : Int) : Int) ≤ ((List.length v1.2.1 : Nat) : Int))) = true then
  if (decide ((((List.length v1.2.1 : Nat) : Int) : Int) ≤ ((List.length v1.2.1 : Nat) : Int))) = true then
  some ((List.drop (Int.toNat 0) v1.2.1).take (Int.toNat v1.1 - Int.toNat 0), (List.drop (Int.toNat v1.1) v1.2.1).take (Int.toNat ((List.length v1.2.1 : Nat) : Int) - Int.toNat v1.1), v1.2.2)
  else none
  else none
  else none
  else none
  else none
  else none
  else none
  else none
def i_taker_sized_f_L1 (y : (Int × (List Int × (Int × (Int × (List Int × Bool)))))) : Option ((Int × (List Int × (Int × (Int × (List Int × Bool))))) ⊕ (Int × (List Int × Bool))) :=
  if (decide ((y.2.2.2.1 : Int) < y.2.2.1)) = true then
    if (decide ((0 : Int) ≤ y.2.2.2.1)) = true then
    Option.bind (y.2.1[Int.toNat y.2.2.2.1]?) fun r2 =>
    if (decide ((0 : Int) ≤ 8)) = true then
    some (.inl (IntKind.wrap .i64 (((BitVec.ofInt (IntKind.bits .i64) (IntKind.wrap .i64 (y.1 * 2 ^ (min (Int.toNat 8) (IntKind.bits .i64)))) ||| BitVec.ofInt (IntKind.bits .i64) (IntKind.wrap .i64 r2)).toNat : Int)), y.2.1, y.2.2.1, IntKind.wrap .i64 (y.2.2.2.1 + 1), y.2.2.2.2.1, y.2.2.2.2.2))
    else none
    else none
  else
    some (.inr (y.1, y.2.2.2.2.1, y.2.2.2.2.2))
def i_taker_sized_f (x0 : Int) (x1 : List Int) (x2 : Bool) : Option ((List Int × (List Int × Bool))) :=
  Option.bind (i_taker_take_f x0 x1 x2) fun c1 =>
  Option.bind (loopG i_taker_sized_f_L1 (0, c1.1, ((List.length c1.1 : Nat) : Int), 0, c1.2.1, c1.2.2)) fun v3 =>
  Option.bind (i_taker_take_f v3.1 v3.2.1 v3.2.2) fun c4 =>
  some (c4.1, c4.2.1, c4.2.2)
def i_someRuns_L1 (y : (List (Int × Int) × (Int × (List (Int × Int) × (Int × Int))))) : Option ((List (Int × Int) × (Int × (List (Int × Int) × (Int × Int)))) ⊕ ((List (Int × Int) × Int) ⊕ Bool)) :=
  if (decide ((y.2.2.2.2 : Int) < y.2.2.2.1)) = true then
    if (decide ((0 : Int) ≤ y.2.2.2.2)) = true then
    Option.bind (y.2.2.1[Int.toNat y.2.2.2.2]?) fun r1 =>
    Option.bind (α := (List (Int × Int) × (Int × (List (Int × Int) × (Int × (Int × (Bool × (Int × Int)))))))) (
        Option.bind (i_within r1.2 1 120) fun c2 =>
        if (!c2) = true then
          some (y.1, y.2.1, y.2.2.1, y.2.2.2.1, y.2.2.2.2, true, r1.1, r1.2)
        else
        some (y.1, y.2.1, y.2.2.1, y.2.2.2.1, y.2.2.2.2, decide ((120 : Int) < y.2.1), r1.1, r1.2)) fun v3 =>
    if v3.2.2.2.2.2.1 = true then
      some (.inr (.inr false))
    else
      some (.inl (v3.1, IntKind.wrap .i64 (v3.2.1 + v3.2.2.2.2.2.2.2), v3.2.2.1, v3.2.2.2.1, IntKind.wrap .i64 (v3.2.2.2.2.1 + 1)))
    else none
  else
    some (.inr (.inl (y.1, y.2.1)))
def i_someRuns (x0 : List (Int × Int)) : Option (Bool) :=
  Option.bind (loopG i_someRuns_L1 (x0, 0, x0, ((List.length x0 : Nat) : Int), 0)) fun v4 =>
  match v4 with
  | .inl y5 =>
    Option.bind (i_GoodRuns y5.1 y5.2 60) fun c7 =>
    some c7
  | .inr s6 =>
    some s6
def pairs2 : List Int → List (Int × Int)
  | a :: b :: r => (a, b) :: pairs2 r
  | _ => []
def i_ReadRuns (x0 : List Int) : Option (List (Int × Int) × Bool) :=
  if x0.length ≤ 1048576 ∧ ∀ x ∈ x0, 0 ≤ x ∧ x ≤ 255 then (if x0.length % 2 = 0 then Option.bind (i_someRuns (pairs2 x0)) fun ok => some (if ok = true then (pairs2 x0, true) else ([], false)) else some ([], false)) else none
def i_ReadChange_L1 (y : (List Int × List (Int × (Int × List UInt8)))) : Option ((List Int × List (Int × (Int × List UInt8))) ⊕ (List (Int × (Int × List UInt8)) ⊕ Bool)) :=
  if (decide ((0 : Int) < ((List.length y.1 : Nat) : Int))) = true then
    if (decide ((((List.length y.1 : Nat) : Int) : Int) < 2)) = true then
      some (.inr (.inr false))
    else
    if (decide ((0 : Int) ≤ 0)) = true then
    Option.bind (y.1[Int.toNat 0]?) fun r1 =>
    if (decide ((0 : Int) ≤ 1)) = true then
    Option.bind (y.1[Int.toNat 1]?) fun r2 =>
    if (decide ((0 : Int) ≤ 2)) = true then
    if (decide ((2 : Int) ≤ ((List.length y.1 : Nat) : Int))) = true then
    if (decide ((((List.length y.1 : Nat) : Int) : Int) ≤ ((List.length y.1 : Nat) : Int))) = true then
    if (decide ((((List.length y.1 : Nat) : Int) : Int) ≤ ((List.length y.1 : Nat) : Int))) = true then
    Option.bind (α := (List Int × List (Int × (Int × List UInt8))) ⊕ Bool) (
        if (decide ((r1 : Int) = 1)) = true then
          if (roomFor (List.length y.2 + List.length ([(IntKind.wrap .i64 r2, (0, []))] : List (Int × (Int × List UInt8)))) 32) = true then
          some (.inl ((List.drop (Int.toNat 2) y.1).take (Int.toNat ((List.length y.1 : Nat) : Int) - Int.toNat 2), y.2 ++ ([(IntKind.wrap .i64 r2, (0, []))] : List (Int × (Int × List UInt8)))))
          else none
        else
          Option.bind (α := (List Int × List (Int × (Int × List UInt8))) ⊕ Bool) (
              if (decide ((r1 : Int) = 2)) = true then
                if (roomFor (List.length y.2 + List.length ([(0, (IntKind.wrap .i64 r2, []))] : List (Int × (Int × List UInt8)))) 32) = true then
                some (.inl ((List.drop (Int.toNat 2) y.1).take (Int.toNat ((List.length y.1 : Nat) : Int) - Int.toNat 2), y.2 ++ ([(0, (IntKind.wrap .i64 r2, []))] : List (Int × (Int × List UInt8)))))
                else none
              else
                Option.bind (α := (List Int × (List (Int × (Int × List UInt8)) × (Int × Bool)))) (
                    if (decide ((r1 : Int) = 3)) = true then
                      some ((List.drop (Int.toNat 2) y.1).take (Int.toNat ((List.length y.1 : Nat) : Int) - Int.toNat 2), y.2, IntKind.wrap .i64 r2, decide ((IntKind.wrap .i64 r2 : Int) ≤ ((List.length ((List.drop (Int.toNat 2) y.1).take (Int.toNat ((List.length y.1 : Nat) : Int) - Int.toNat 2)) : Nat) : Int)))
                    else
                    some ((List.drop (Int.toNat 2) y.1).take (Int.toNat ((List.length y.1 : Nat) : Int) - Int.toNat 2), y.2, IntKind.wrap .i64 r2, false)) fun v3 =>
                if v3.2.2.2 = true then
                  if (decide ((0 : Int) ≤ 0)) = true then
                  if (decide ((0 : Int) ≤ v3.2.2.1)) = true then
                  if (decide ((v3.2.2.1 : Int) ≤ ((List.length v3.1 : Nat) : Int))) = true then
                  if (decide ((((List.length v3.1 : Nat) : Int) : Int) ≤ ((List.length v3.1 : Nat) : Int))) = true then
                  if (roomFor (List.length v3.2.1 + List.length ([(0, (0, textOf ((List.drop (Int.toNat 0) v3.1).take (Int.toNat v3.2.2.1 - Int.toNat 0))))] : List (Int × (Int × List UInt8)))) 32) = true then
                  if (decide ((0 : Int) ≤ v3.2.2.1)) = true then
                  if (decide ((v3.2.2.1 : Int) ≤ ((List.length v3.1 : Nat) : Int))) = true then
                  if (decide ((((List.length v3.1 : Nat) : Int) : Int) ≤ ((List.length v3.1 : Nat) : Int))) = true then
                  if (decide ((((List.length v3.1 : Nat) : Int) : Int) ≤ ((List.length v3.1 : Nat) : Int))) = true then
                  some (.inl ((List.drop (Int.toNat v3.2.2.1) v3.1).take (Int.toNat ((List.length v3.1 : Nat) : Int) - Int.toNat v3.2.2.1), v3.2.1 ++ ([(0, (0, textOf ((List.drop (Int.toNat 0) v3.1).take (Int.toNat v3.2.2.1 - Int.toNat 0))))] : List (Int × (Int × List UInt8)))))
                  else none
                  else none
                  else none
                  else none
                  else none
                  else none
                  else none
                  else none
                  else none
                else
                  some (.inr false)) fun v4 =>
          match v4 with
          | .inl y5 =>
            some (.inl (y5.1, y5.2))
          | .inr s6 =>
            some (.inr s6)) fun v7 =>
    match v7 with
    | .inl y8 =>
      some (.inl (y8.1, y8.2))
    | .inr s9 =>
      some (.inr (.inr s9))
    else none
    else none
    else none
    else none
    else none
    else none
  else
    some (.inr (.inl y.2))
def i_ReadChange (x0 : List Int) : Option ((List (Int × (Int × List UInt8)) × Bool)) :=
  Option.bind (loopG i_ReadChange_L1 (x0, [])) fun v10 =>
  match v10 with
  | .inl y11 =>
    Option.bind (i_GoodChange y11) fun c13 =>
    if (!c13) = true then
      some ([], false)
    else
      some (y11, true)
  | .inr s12 =>
    some ([], s12)
def i_ReadBundle_L1 (y : (List Int × (List (List Int) × (Int × (Int × (Int × (List UInt8 × (Int × (List UInt8 × (List Int × Bool)))))))))) : Option ((List Int × (List (List Int) × (Int × (Int × (Int × (List UInt8 × (Int × (List UInt8 × (List Int × Bool))))))))) ⊕ (List Int × (List (List Int) × (Int × (List UInt8 × (Int × (List UInt8 × (List Int × Bool)))))))) :=
  if (decide ((y.2.2.2.1 : Int) < y.2.2.1)) = true then
    Option.bind (i_taker_sized_f 2 y.2.2.2.2.2.2.2.2.1 y.2.2.2.2.2.2.2.2.2) fun c10 =>
    if (roomFor (List.length y.2.1 + List.length ([c10.1] : List (List Int))) 24) = true then
    some (.inl (y.1, y.2.1 ++ ([c10.1] : List (List Int)), y.2.2.1, IntKind.wrap .i64 (y.2.2.2.1 + 1), y.2.2.2.2.1, y.2.2.2.2.2.1, y.2.2.2.2.2.2.1, y.2.2.2.2.2.2.2.1, c10.2.1, c10.2.2))
    else none
  else
    some (.inr (y.1, y.2.1, y.2.2.2.2.1, y.2.2.2.2.2.1, y.2.2.2.2.2.2.1, y.2.2.2.2.2.2.2.1, y.2.2.2.2.2.2.2.2.1, y.2.2.2.2.2.2.2.2.2))
def i_ReadBundle_L2 (y : (Bool × (List (List Int) × (Int × (Int × (Int × (List UInt8 × (Int × (List UInt8 × (List (Int × Int) × List (List (Int × (Int × List UInt8))))))))))))) : Option ((Bool × (List (List Int) × (Int × (Int × (Int × (List UInt8 × (Int × (List UInt8 × (List (Int × Int) × List (List (Int × (Int × List UInt8)))))))))))) ⊕ (Bool × (Int × (List UInt8 × (Int × (List UInt8 × (List (Int × Int) × List (List (Int × (Int × List UInt8)))))))))) :=
  if (decide ((y.2.2.2.1 : Int) < y.2.2.1)) = true then
    if (decide ((0 : Int) ≤ y.2.2.2.1)) = true then
    if (decide ((y.2.2.2.1 : Int) < ((List.length y.2.1 : Nat) : Int))) = true then
    Option.bind (y.2.1[0 + Int.toNat y.2.2.2.1]?) fun r17 =>
    Option.bind (i_ReadChange r17) fun c18 =>
    Option.bind (α := (Bool × (List (Int × (Int × List UInt8)) × (List (List Int) × (Int × (Int × (Int × (List UInt8 × (Int × (List UInt8 × (List (Int × Int) × List (List (Int × (Int × List UInt8)))))))))))))) (
        if y.1 = true then
          some (c18.2, c18.1, y.2.1, y.2.2.1, y.2.2.2.1, y.2.2.2.2.1, y.2.2.2.2.2.1, y.2.2.2.2.2.2.1, y.2.2.2.2.2.2.2.1, y.2.2.2.2.2.2.2.2.1, y.2.2.2.2.2.2.2.2.2)
        else
        some (false, c18.1, y.2.1, y.2.2.1, y.2.2.2.1, y.2.2.2.2.1, y.2.2.2.2.2.1, y.2.2.2.2.2.2.1, y.2.2.2.2.2.2.2.1, y.2.2.2.2.2.2.2.2.1, y.2.2.2.2.2.2.2.2.2)) fun v19 =>
    if (roomFor (List.length v19.2.2.2.2.2.2.2.2.2.2 + List.length ([v19.2.1] : List (List (Int × (Int × List UInt8))))) 24) = true then
    some (.inl (v19.1, v19.2.2.1, v19.2.2.2.1, IntKind.wrap .i64 (v19.2.2.2.2.1 + 1), v19.2.2.2.2.2.1, v19.2.2.2.2.2.2.1, v19.2.2.2.2.2.2.2.1, v19.2.2.2.2.2.2.2.2.1, v19.2.2.2.2.2.2.2.2.2.1, v19.2.2.2.2.2.2.2.2.2.2 ++ ([v19.2.1] : List (List (Int × (Int × List UInt8))))))
    else none
    else none
    else none
  else
    some (.inr (y.1, y.2.2.2.2.1, y.2.2.2.2.2.1, y.2.2.2.2.2.2.1, y.2.2.2.2.2.2.2.1, y.2.2.2.2.2.2.2.2.1, y.2.2.2.2.2.2.2.2.2))
def i_ReadBundle (x0 : List Int) : Option ((Int × (Int × (List UInt8 × (List (Int × Int) × List (List (Int × (Int × List UInt8)))))))) :=
  if (decide ((20000 : Int) < ((List.length x0 : Nat) : Int))) = true then
    some (6, 0, [], [], [])
  else
  if (decide ((((List.length x0 : Nat) : Int) : Int) < 10)) = true then
    some (5, 0, [], [], [])
  else
  if (decide ((0 : Int) ≤ 0)) = true then
  if (decide ((0 : Int) ≤ 4)) = true then
  if (decide ((4 : Int) ≤ ((List.length x0 : Nat) : Int))) = true then
  if (decide ((((List.length x0 : Nat) : Int) : Int) ≤ ((List.length x0 : Nat) : Int))) = true then
  Option.bind (slices_Equal_byte_byte ((List.drop (Int.toNat 0) x0).take (Int.toNat 4 - Int.toNat 0)) [66, 78, 68, 49]) fun c1 =>
  if (!c1) = true then
    some (3, 0, [], [], [])
  else
  if (decide ((0 : Int) ≤ IntKind.wrap .i64 (((List.length x0 : Nat) : Int) - 4))) = true then
  if (decide ((IntKind.wrap .i64 (((List.length x0 : Nat) : Int) - 4) : Int) ≤ ((List.length x0 : Nat) : Int))) = true then
  if (decide ((((List.length x0 : Nat) : Int) : Int) ≤ ((List.length x0 : Nat) : Int))) = true then
  if (decide ((((List.length x0 : Nat) : Int) : Int) ≤ ((List.length x0 : Nat) : Int))) = true then
  if (decide ((0 : Int) ≤ 0)) = true then
  if (decide ((0 : Int) ≤ IntKind.wrap .i64 (((List.length x0 : Nat) : Int) - 4))) = true then
  if (decide ((IntKind.wrap .i64 (((List.length x0 : Nat) : Int) - 4) : Int) ≤ ((List.length x0 : Nat) : Int))) = true then
  if (decide ((((List.length x0 : Nat) : Int) : Int) ≤ ((List.length x0 : Nat) : Int))) = true then
  Option.bind (i_DigestOf ((List.drop (Int.toNat 0) x0).take (Int.toNat (IntKind.wrap .i64 (((List.length x0 : Nat) : Int) - 4)) - Int.toNat 0))) fun c2 =>
  Option.bind (i_four c2) fun c3 =>
  Option.bind (slices_Equal_byte_byte ((List.drop (Int.toNat (IntKind.wrap .i64 (((List.length x0 : Nat) : Int) - 4))) x0).take (Int.toNat ((List.length x0 : Nat) : Int) - Int.toNat (IntKind.wrap .i64 (((List.length x0 : Nat) : Int) - 4)))) c3) fun c4 =>
  if (!c4) = true then
    some (4, 0, [], [], [])
  else
  if (decide ((0 : Int) ≤ 4)) = true then
  Option.bind (x0[Int.toNat 4]?) fun r5 =>
  if (decide ((0 : Int) ≤ 5)) = true then
  Option.bind (x0[Int.toNat 5]?) fun r6 =>
  Option.bind (α := (List Int × (Int × (Int × (Int × (Bool × (Int × List UInt8))))))) (
      if (decide ((IntKind.wrap .i64 r6 : Int) < (IntKind.wrap .i64 r5))) = true then
        some (x0, ((List.length x0 : Nat) : Int), IntKind.wrap .i64 r5, IntKind.wrap .i64 r6, true, 0, [])
      else
      some (x0, ((List.length x0 : Nat) : Int), IntKind.wrap .i64 r5, IntKind.wrap .i64 r6, decide ((60 : Int) < (IntKind.wrap .i64 r6)), 0, [])) fun v7 =>
  if v7.2.2.2.2.1 = true then
    some (2, 0, [], [], [])
  else
  if (decide ((0 : Int) ≤ 6)) = true then
  if (decide ((6 : Int) ≤ IntKind.wrap .i64 (v7.2.1 - 4))) = true then
  if (decide ((IntKind.wrap .i64 (v7.2.1 - 4) : Int) ≤ ((List.length v7.1 : Nat) : Int))) = true then
  if (decide ((((List.length v7.1 : Nat) : Int) : Int) ≤ ((List.length v7.1 : Nat) : Int))) = true then
  Option.bind (i_taker_sized_f 1 ((List.drop (Int.toNat 6) v7.1).take (Int.toNat (IntKind.wrap .i64 (v7.2.1 - 4)) - Int.toNat 6)) false) fun c8 =>
  Option.bind (i_taker_sized_f 2 c8.2.1 c8.2.2) fun c9 =>
  Option.bind (loopG i_ReadBundle_L1 (c9.1, [], IntKind.wrap .i64 (v7.2.2.2.1 - v7.2.2.1), 0, v7.2.2.2.2.2.1, v7.2.2.2.2.2.2, v7.2.2.1, textOf c8.1, c9.2.1, c9.2.2)) fun v11 =>
  if v11.2.2.2.2.2.2.2 = true then
    some (5, 0, [], [], [])
  else
    Option.bind (i_ReadRuns v11.1) fun c12 =>
    Option.bind (α := (List (List Int) × (Bool × (Int × (List UInt8 × (Int × (List UInt8 × List (Int × Int)))))))) (
        if c12.2 = true then
          some (v11.2.1, decide ((((List.length v11.2.2.2.2.2.2.1 : Nat) : Int) : Int) = 0), v11.2.2.1, v11.2.2.2.1, v11.2.2.2.2.1, v11.2.2.2.2.2.1, c12.1)
        else
        some (v11.2.1, false, v11.2.2.1, v11.2.2.2.1, v11.2.2.2.2.1, v11.2.2.2.2.2.1, c12.1)) fun v13 =>
    Option.bind (loopG i_ReadBundle_L2 (v13.2.1, v13.1, ((List.length v13.1 : Nat) : Int), 0, v13.2.2.1, v13.2.2.2.1, v13.2.2.2.2.1, v13.2.2.2.2.2.1, v13.2.2.2.2.2.2, [])) fun v20 =>
    Option.bind (α := (Bool × (Int × (List UInt8 × (Int × (List UInt8 × (List (Int × Int) × List (List (Int × (Int × List UInt8)))))))))) (
        if (!v20.1) = true then
          some (true, v20.2.1, v20.2.2.1, v20.2.2.2.1, v20.2.2.2.2.1, v20.2.2.2.2.2.1, v20.2.2.2.2.2.2)
        else
          Option.bind (i_GoodHistory v20.2.2.2.1 v20.2.2.2.2.1 v20.2.2.2.2.2.1 v20.2.2.2.2.2.2) fun c21 =>
          some ((!c21), v20.2.1, v20.2.2.1, v20.2.2.2.1, v20.2.2.2.2.1, v20.2.2.2.2.2.1, v20.2.2.2.2.2.2)) fun v22 =>
    if v22.1 = true then
      some (6, 0, [], [], [])
    else
      some (0, v22.2.2.2.1, v22.2.2.2.2.1, v22.2.2.2.2.2.1, v22.2.2.2.2.2.2)
  else none
  else none
  else none
  else none
  else none
  else none
  else none
  else none
  else none
  else none
  else none
  else none
  else none
  else none
  else none
  else none
  else none
  else none
def i_TextAt (x0 : Int) (x1 : List UInt8) (x2 : List (Int × Int)) (x3 : List (List (Int × (Int × List UInt8)))) (x4 : Int) : Option ((List UInt8 × Int)) :=
  Option.bind (i_History_code x0 x1 x2 x3 x4 x4) fun c1 =>
  if (decide (¬ (c1 : Int) = 0)) = true then
    some (([] : List UInt8), c1)
  else
    Option.bind (i_History_text x0 x1 x2 x3 x4) fun c2 =>
    some (c2, 0)
def i_BlameAt (x0 : Int) (x1 : List UInt8) (x2 : List (Int × Int)) (x3 : List (List (Int × (Int × List UInt8)))) (x4 : Int) : Option ((List (Int × Int) × Int)) :=
  Option.bind (i_History_code x0 x1 x2 x3 x4 x4) fun c1 =>
  if (decide (¬ (c1 : Int) = 0)) = true then
    some ([], c1)
  else
    Option.bind (i_History_blame x0 x1 x2 x3 x4) fun c2 =>
    some (c2, 0)
def l_sameRuns_L1 (y : (List (Int × Int) × (List (Int × Int) × (Int × Int)))) : Option ((List (Int × Int) × (List (Int × Int) × (Int × Int))) ⊕ (Unit ⊕ Bool)) :=
  if (decide ((y.2.2.2 : Int) < y.2.2.1)) = true then
    if (decide ((0 : Int) ≤ y.2.2.2)) = true then
    Option.bind (y.1[Int.toNat y.2.2.2]?) fun r1 =>
    if (decide ((0 : Int) ≤ y.2.2.2)) = true then
    Option.bind (y.2.1[Int.toNat y.2.2.2]?) fun r2 =>
    if (!(decide ((r1.1 : Int) = r2.1) && (decide ((r1.2 : Int) = r2.2) && true))) = true then
      some (.inr (.inr false))
    else
      some (.inl (y.1, y.2.1, y.2.2.1, IntKind.wrap .i64 (y.2.2.2 + 1)))
    else none
    else none
  else
    some (.inr (.inl ()))
def l_sameRuns (x0 : List (Int × Int)) (x1 : List (Int × Int)) : Option (Bool) :=
  if (decide (¬ (((List.length x0 : Nat) : Int) : Int) = ((List.length x1 : Nat) : Int))) = true then
    some false
  else
    Option.bind (loopG l_sameRuns_L1 (x0, x1, ((List.length x0 : Nat) : Int), 0)) fun v3 =>
    match v3 with
    | .inl y4 =>
      some true
    | .inr s5 =>
      some s5
def l_numberOf_L1 (y : (Int × (List Int × (Int × Int)))) : Option ((Int × (List Int × (Int × Int))) ⊕ Int) :=
  if (decide ((y.2.2.2 : Int) < y.2.2.1)) = true then
    if (decide ((0 : Int) ≤ y.2.2.2)) = true then
    Option.bind (y.2.1[Int.toNat y.2.2.2]?) fun r1 =>
    if (decide (¬ (1000003 : Int) = 0)) = true then
    some (.inl (Int.tmod (IntKind.wrap .i64 ((IntKind.wrap .i64 (31 * y.1)) + (IntKind.wrap .i64 r1))) 1000003, y.2.1, y.2.2.1, IntKind.wrap .i64 (y.2.2.2 + 1)))
    else none
    else none
  else
    some (.inr y.1)
def l_numberOf (x0 : List Int) : Option (Int) :=
  Option.bind (loopG l_numberOf_L1 (0, x0, ((List.length x0 : Nat) : Int), 0)) fun v2 =>
  some v2
def l_FnBundled_L1 (y : (List Int × (Int × (List Int × (Int × (Int × (List UInt8 × (List (Int × Int) × (List (List (Int × (Int × List UInt8))) × (Int × (List UInt8 × (List (Int × Int) × List (List (Int × (Int × List UInt8))))))))))))))) : Option ((List Int × (Int × (List Int × (Int × (Int × (List UInt8 × (List (Int × Int) × (List (List (Int × (Int × List UInt8))) × (Int × (List UInt8 × (List (Int × Int) × List (List (Int × (Int × List UInt8)))))))))))))) ⊕ ((List Int × List Int) ⊕ Bool)) :=
  if (decide ((y.2.2.2.1 : Int) ≤ y.2.1)) = true then
    Option.bind (i_TextAt y.2.2.2.2.1 y.2.2.2.2.2.1 y.2.2.2.2.2.2.1 y.2.2.2.2.2.2.2.1 y.2.2.2.1) fun c7 =>
    Option.bind (i_TextAt y.2.2.2.2.2.2.2.2.1 y.2.2.2.2.2.2.2.2.2.1 y.2.2.2.2.2.2.2.2.2.2.1 y.2.2.2.2.2.2.2.2.2.2.2 y.2.2.2.1) fun c8 =>
    Option.bind (i_BlameAt y.2.2.2.2.1 y.2.2.2.2.2.1 y.2.2.2.2.2.2.1 y.2.2.2.2.2.2.2.1 y.2.2.2.1) fun c9 =>
    Option.bind (i_BlameAt y.2.2.2.2.2.2.2.2.1 y.2.2.2.2.2.2.2.2.2.1 y.2.2.2.2.2.2.2.2.2.2.1 y.2.2.2.2.2.2.2.2.2.2.2 y.2.2.2.1) fun c10 =>
    Option.bind (α := (List Int × (Int × (List Int × (Int × (Bool × (Int × (List UInt8 × (List (Int × Int) × (List (List (Int × (Int × List UInt8))) × (Int × (List UInt8 × (List (Int × Int) × List (List (Int × (Int × List UInt8)))))))))))))))) (
        if (decide (¬ (c7.2 : Int) = 0)) = true then
          some (y.1, y.2.1, y.2.2.1, y.2.2.2.1, true, y.2.2.2.2.1, y.2.2.2.2.2.1, y.2.2.2.2.2.2.1, y.2.2.2.2.2.2.2.1, y.2.2.2.2.2.2.2.2.1, y.2.2.2.2.2.2.2.2.2.1, y.2.2.2.2.2.2.2.2.2.2.1, y.2.2.2.2.2.2.2.2.2.2.2)
        else
        if (decide (¬ (c8.2 : Int) = 0)) = true then
          some (y.1, y.2.1, y.2.2.1, y.2.2.2.1, true, y.2.2.2.2.1, y.2.2.2.2.2.1, y.2.2.2.2.2.2.1, y.2.2.2.2.2.2.2.1, y.2.2.2.2.2.2.2.2.1, y.2.2.2.2.2.2.2.2.2.1, y.2.2.2.2.2.2.2.2.2.2.1, y.2.2.2.2.2.2.2.2.2.2.2)
        else
        if (decide (¬ (c9.2 : Int) = 0)) = true then
          some (y.1, y.2.1, y.2.2.1, y.2.2.2.1, true, y.2.2.2.2.1, y.2.2.2.2.2.1, y.2.2.2.2.2.2.1, y.2.2.2.2.2.2.2.1, y.2.2.2.2.2.2.2.2.1, y.2.2.2.2.2.2.2.2.2.1, y.2.2.2.2.2.2.2.2.2.2.1, y.2.2.2.2.2.2.2.2.2.2.2)
        else
        if (decide (¬ (c10.2 : Int) = 0)) = true then
          some (y.1, y.2.1, y.2.2.1, y.2.2.2.1, true, y.2.2.2.2.1, y.2.2.2.2.2.1, y.2.2.2.2.2.2.1, y.2.2.2.2.2.2.2.1, y.2.2.2.2.2.2.2.2.1, y.2.2.2.2.2.2.2.2.2.1, y.2.2.2.2.2.2.2.2.2.2.1, y.2.2.2.2.2.2.2.2.2.2.2)
        else
        if (!((c7.1 : List UInt8) == c8.1)) = true then
          some (y.1, y.2.1, y.2.2.1, y.2.2.2.1, true, y.2.2.2.2.1, y.2.2.2.2.2.1, y.2.2.2.2.2.2.1, y.2.2.2.2.2.2.2.1, y.2.2.2.2.2.2.2.2.1, y.2.2.2.2.2.2.2.2.2.1, y.2.2.2.2.2.2.2.2.2.2.1, y.2.2.2.2.2.2.2.2.2.2.2)
        else
          Option.bind (l_sameRuns c9.1 c10.1) fun c11 =>
          some (y.1, y.2.1, y.2.2.1, y.2.2.2.1, (!c11), y.2.2.2.2.1, y.2.2.2.2.2.1, y.2.2.2.2.2.2.1, y.2.2.2.2.2.2.2.1, y.2.2.2.2.2.2.2.2.1, y.2.2.2.2.2.2.2.2.2.1, y.2.2.2.2.2.2.2.2.2.2.1, y.2.2.2.2.2.2.2.2.2.2.2)) fun v12 =>
    if v12.2.2.2.2.1 = true then
      some (.inr (.inr false))
    else
      some (.inl (v12.1, v12.2.1, v12.2.2.1, IntKind.wrap .i64 (v12.2.2.2.1 + 1), v12.2.2.2.2.2.1, v12.2.2.2.2.2.2.1, v12.2.2.2.2.2.2.2.1, v12.2.2.2.2.2.2.2.2.1, v12.2.2.2.2.2.2.2.2.2.1, v12.2.2.2.2.2.2.2.2.2.2.1, v12.2.2.2.2.2.2.2.2.2.2.2.1, v12.2.2.2.2.2.2.2.2.2.2.2.2))
  else
    some (.inr (.inl (y.1, y.2.2.1)))
def l_FnBundled (x0 : List Int) (x1 : List Int) : Option (Bool) :=
  if (decide ((1048576 : Int) < (IntKind.wrap .i64 (((List.length x0 : Nat) : Int) + ((List.length x1 : Nat) : Int))))) = true then
    some true
  else
    Option.bind (s_DrawExportRange x0) fun c1 =>
    Option.bind (i_ExportRange c1.2.2.1 c1.2.2.2.1 c1.2.2.2.2.1 c1.2.2.2.2.2 c1.1 c1.2.1) fun c2 =>
    Option.bind (s_ExportRange c1.2.2.1 c1.2.2.2.1 c1.2.2.2.2.1 c1.2.2.2.2.2 c1.1 c1.2.1) fun c3 =>
    Option.bind (α := (List Int × (Int × (Int × (List Int × (Int × (Bool × (Int × (List UInt8 × (List (Int × Int) × List (List (Int × (Int × List UInt8))))))))))))) (
        if (decide (¬ (c2.2 : Int) = c3.2)) = true then
          some (x1, c1.1, c1.2.1, c2.1, c2.2, true, c1.2.2.1, c1.2.2.2.1, c1.2.2.2.2.1, c1.2.2.2.2.2)
        else
        some (x1, c1.1, c1.2.1, c2.1, c2.2, (!((textOf c2.1 : List UInt8) == (textOf c3.1))), c1.2.2.1, c1.2.2.2.1, c1.2.2.2.2.1, c1.2.2.2.2.2)) fun v4 =>
    if v4.2.2.2.2.2.1 = true then
      some false
    else
    if (decide (¬ (v4.2.2.2.2.1 : Int) = 0)) = true then
      some true
    else
      Option.bind (i_ReadBundle v4.2.2.2.1) fun c5 =>
      Option.bind (α := (List Int × (Int × (Int × (List Int × (Bool × (Int × (List UInt8 × (List (Int × Int) × (List (List (Int × (Int × List UInt8))) × (Int × (List UInt8 × (List (Int × Int) × List (List (Int × (Int × List UInt8)))))))))))))))) (
          if (decide (¬ (c5.1 : Int) = 0)) = true then
            some (v4.1, v4.2.1, v4.2.2.1, v4.2.2.2.1, true, v4.2.2.2.2.2.2.1, v4.2.2.2.2.2.2.2.1, v4.2.2.2.2.2.2.2.2.1, v4.2.2.2.2.2.2.2.2.2, c5.2.1, c5.2.2.1, c5.2.2.2.1, c5.2.2.2.2)
          else
          if (decide (¬ (c5.2.1 : Int) = v4.2.1)) = true then
            some (v4.1, v4.2.1, v4.2.2.1, v4.2.2.2.1, true, v4.2.2.2.2.2.2.1, v4.2.2.2.2.2.2.2.1, v4.2.2.2.2.2.2.2.2.1, v4.2.2.2.2.2.2.2.2.2, c5.2.1, c5.2.2.1, c5.2.2.2.1, c5.2.2.2.2)
          else
          some (v4.1, v4.2.1, v4.2.2.1, v4.2.2.2.1, decide (¬ (((List.length c5.2.2.2.2 : Nat) : Int) : Int) = (IntKind.wrap .i64 (v4.2.2.1 - v4.2.1))), v4.2.2.2.2.2.2.1, v4.2.2.2.2.2.2.2.1, v4.2.2.2.2.2.2.2.2.1, v4.2.2.2.2.2.2.2.2.2, c5.2.1, c5.2.2.1, c5.2.2.2.1, c5.2.2.2.2)) fun v6 =>
      if v6.2.2.2.2.1 = true then
        some false
      else
        Option.bind (loopG l_FnBundled_L1 (v6.1, v6.2.2.1, v6.2.2.2.1, v6.2.1, v6.2.2.2.2.2.1, v6.2.2.2.2.2.2.1, v6.2.2.2.2.2.2.2.1, v6.2.2.2.2.2.2.2.2.1, v6.2.2.2.2.2.2.2.2.2.1, v6.2.2.2.2.2.2.2.2.2.2.1, v6.2.2.2.2.2.2.2.2.2.2.2.1, v6.2.2.2.2.2.2.2.2.2.2.2.2)) fun v13 =>
        match v13 with
        | .inl y14 =>
          Option.bind (l_numberOf y14.1) fun c16 =>
          if (decide (¬ (IntKind.wrap .i64 (8 * ((List.length y14.2 : Nat) : Int)) : Int) = 0)) = true then
          if (roomFor (List.length ([] : List Int) + List.length y14.2) 1) = true then
          if (decide (¬ (8 : Int) = 0)) = true then
          if (decide ((0 : Int) ≤ IntKind.wrap .i64 (Int.tdiv (Int.tmod c16 (IntKind.wrap .i64 (8 * ((List.length y14.2 : Nat) : Int)))) 8))) = true then
          if (decide ((IntKind.wrap .i64 (Int.tdiv (Int.tmod c16 (IntKind.wrap .i64 (8 * ((List.length y14.2 : Nat) : Int)))) 8) : Int) < ((List.length (([] : List Int) ++ y14.2) : Nat) : Int))) = true then
          Option.bind ((([] : List Int) ++ y14.2)[0 + Int.toNat (IntKind.wrap .i64 (Int.tdiv (Int.tmod c16 (IntKind.wrap .i64 (8 * ((List.length y14.2 : Nat) : Int)))) 8))]?) fun r17 =>
          if (decide (¬ (8 : Int) = 0)) = true then
          if (decide ((0 : Int) ≤ IntKind.wrap .u64 (Int.tmod (Int.tmod c16 (IntKind.wrap .i64 (8 * ((List.length y14.2 : Nat) : Int)))) 8))) = true then
          if (decide ((0 : Int) ≤ IntKind.wrap .i64 (Int.tdiv (Int.tmod c16 (IntKind.wrap .i64 (8 * ((List.length y14.2 : Nat) : Int)))) 8))) = true then
          if (decide ((IntKind.wrap .i64 (Int.tdiv (Int.tmod c16 (IntKind.wrap .i64 (8 * ((List.length y14.2 : Nat) : Int)))) 8) : Int) < ((List.length (([] : List Int) ++ y14.2) : Nat) : Int))) = true then
          Option.bind ((([] : List Int) ++ y14.2)[0 + Int.toNat (IntKind.wrap .i64 (Int.tdiv (Int.tmod c16 (IntKind.wrap .i64 (8 * ((List.length y14.2 : Nat) : Int)))) 8))]?) fun r18 =>
          Option.bind ((([] : List Int) ++ y14.2)[0 + Int.toNat (IntKind.wrap .i64 (Int.tdiv (Int.tmod c16 (IntKind.wrap .i64 (8 * ((List.length y14.2 : Nat) : Int)))) 8))]?) fun r19 =>
          Option.bind (i_ReadBundle ((([] : List Int) ++ y14.2).set (0 + Int.toNat (IntKind.wrap .i64 (Int.tdiv (Int.tmod c16 (IntKind.wrap .i64 (8 * ((List.length y14.2 : Nat) : Int)))) 8))) (IntKind.wrap .u8 (((BitVec.ofInt (IntKind.bits .u8) r17 ^^^ BitVec.ofInt (IntKind.bits .u8) (IntKind.wrap .u8 (1 * 2 ^ (min (Int.toNat (IntKind.wrap .u64 (Int.tmod (Int.tmod c16 (IntKind.wrap .i64 (8 * ((List.length y14.2 : Nat) : Int)))) 8))) (IntKind.bits .u8))))).toNat : Int))))) fun c20 =>
          some (decide (¬ (c20.1 : Int) = 0))
          else none
          else none
          else none
          else none
          else none
          else none
          else none
          else none
          else none
        | .inr s15 =>
          some s15
end
end Go.V.G

set_option linter.unusedVariables false
set_option linter.unusedSimpArgs false
namespace Go.V.G
open Go.V
theorem w64 {n : Int} (h1 : -9223372036854775808 ≤ n) (h2 : n ≤ 9223372036854775807) : IntKind.wrap .i64 n = n := IntWalk.i64_in n ⟨h1, h2⟩
theorem wu8 {n : Int} (h1 : 0 ≤ n) (h2 : n ≤ 255) : IntKind.wrap .u8 n = n := IntWalk.u8_in n ⟨h1, h2⟩
theorem wu64 {n : Int} (h1 : 0 ≤ n) (h2 : n ≤ 18446744073709551615) : IntKind.wrap .u64 n = n := IntWalk.u64_in n ⟨h1, h2⟩
section
variable {σ τ : Type}
theorem loop_run (f : σ → Option (σ ⊕ τ)) (st : Nat → σ) (n : Nat) (z : τ) (h : ∀ k, k < n → f (st k) = some (.inl (st (k + 1)))) (hz : f (st n) = some (.inr z)) : loopG f (st 0) = some z := by
  have : ∀ j, j ≤ n → loopG f (st (n - j)) = some z := by
    intro j
    induction j with
    | zero => intro _; rw [loopG_eq, Nat.sub_zero, hz]
    | succ j ih =>
      intro hj
      rw [loopG_eq, h _ (by omega), show n - (j + 1) + 1 = n - j by omega]
      exact ih (by omega)
  have := this n (Nat.le_refl _)
  rwa [Nat.sub_self] at this
theorem loop_inv (f : σ → Option (σ ⊕ τ)) (I : σ → Prop) (m : σ → Nat) (Q : τ → Prop) (step : ∀ x, I x → (∃ y, f x = some (.inl y) ∧ I y ∧ m y < m x) ∨ ∃ z, f x = some (.inr z) ∧ Q z) :
    ∀ x, I x → ∃ z, loopG f x = some z ∧ Q z := by
  intro x
  induction hm : m x using Nat.strongRecOn generalizing x with
  | ind k ih =>
    intro hx
    rcases step x hx with ⟨y, h1, h2, h3⟩ | ⟨z, h1, h2⟩
    · obtain ⟨z, h4, h5⟩ := ih (m y) (by omega) y rfl h2
      exact ⟨z, by rw [loopG_eq, h1]; exact h4, h5⟩
    · exact ⟨z, by rw [loopG_eq, h1], h2⟩
end
end Go.V.G

set_option linter.unusedVariables false
set_option linter.unusedSimpArgs false
set_option maxRecDepth 100000
namespace Go.V.G
open Go.V
def Ok {α : Type} (o : Option α) (Q : α → Prop) : Prop := ∃ r, o = some r ∧ Q r
section
variable {α β σ τ : Type} {Q : α → Prop}
theorem Ok.mk {r : α} (h : Q r) : Ok (some r) Q := ⟨r, rfl, h⟩
theorem Ok.of {o : Option α} {r : α} (h : o = some r) (hq : Q r) : Ok o Q := ⟨r, h, hq⟩
theorem Ok.eq {o : Option α} {r : α} (h : Ok o fun x => x = r) : o = some r := by obtain ⟨x, h, rfl⟩ := h; exact h
theorem Ok.mono {o : Option α} {R : α → Prop} (h : Ok o Q) (hq : ∀ x, Q x → R x) : Ok o R := by obtain ⟨x, h, h'⟩ := h; exact ⟨x, h, hq x h'⟩
theorem Ok.bind {o : Option α} {f : α → Option β} {R : β → Prop} (h : Ok o Q) (hf : ∀ x, Q x → Ok (f x) R) : Ok (o.bind f) R := by
  obtain ⟨x, h, hx⟩ := h
  subst h
  exact hf x hx
theorem Ok.bind_eq {o : Option α} {f : α → Option β} {R : β → Prop} {r : α} (h : o = some r) (hf : Ok (f r) R) : Ok (o.bind f) R := by subst h; exact hf
theorem Ok.ite {c : Prop} [Decidable c] {a b : Option α} (h1 : c → Ok a Q) (h2 : ¬ c → Ok b Q) : Ok (if c then a else b) Q := by
  split
  · rename_i h; exact h1 h
  · rename_i h; exact h2 h
theorem Ok.yes {c : Prop} [Decidable c] {a b : Option α} (hc : c) (h : Ok a Q) : Ok (if c then a else b) Q := by rw [if_pos hc]; exact h
theorem Ok.no {c : Prop} [Decidable c] {a b : Option α} (hc : ¬ c) (h : Ok b Q) : Ok (if c then a else b) Q := by rw [if_neg hc]; exact h
theorem Ok.loop {f : σ → Option (σ ⊕ τ)} (I : σ → Prop) (m : σ → Nat) {R : τ → Prop} {x : σ} (hx : I x) (step : ∀ x, I x → Ok (f x) fun r => match r with
    | .inl y => I y ∧ m y < m x
    | .inr z => R z) : Ok (loopG f x) R := by
  obtain ⟨z, h1, h2⟩ := loop_inv f I m R (fun x hx => by
    obtain ⟨r, h1, h2⟩ := step x hx
    cases r with
    | inl y => exact .inl ⟨y, h1, h2⟩
    | inr z => exact .inr ⟨z, h1, h2⟩) x hx
  exact ⟨z, h1, h2⟩
end
abbrev Prt := Int × (Int × List UInt8)
def kd (p : Prt) : Int := if 0 < p.1 ∧ p.2.1 = 0 ∧ p.2.2 = [] then 1 else if 0 < p.2.1 ∧ p.1 = 0 ∧ p.2.2 = [] then 2 else if p.2.2 ≠ [] ∧ p.1 = 0 ∧ p.2.1 = 0 then 3 else 0
theorem i_kind_eq (a b : Int) (s : List UInt8) : i_Part_kind a b s = some (kd (a, b, s)) := by
  unfold i_Part_kind kd
  by_cases h1 : 0 < a <;> by_cases h2 : b = 0 <;> by_cases h3 : s = [] <;> by_cases h4 : 0 < b <;> by_cases h5 : a = 0 <;> simp [h1, h2, h3, h4, h5]
theorem s_kind_eq (a b : Int) (s : List UInt8) : s_l1Kind a b s = some (kd (a, b, s)) := by
  unfold s_l1Kind kd
  by_cases h1 : 0 < a <;> by_cases h2 : b = 0 <;> by_cases h3 : s = [] <;> by_cases h4 : 0 < b <;> by_cases h5 : a = 0 <;> simp [h1, h2, h3, h4, h5]
def I64 (n : Int) : Prop := -9223372036854775808 ≤ n ∧ n ≤ 9223372036854775807
theorem I64.wrap (n : Int) : I64 (IntKind.wrap .i64 n) := by rw [IntKind.wrap_i64]; unfold I64; omega
theorem I64.eq {n : Int} (h : I64 n) : IntKind.wrap .i64 n = n := w64 h.1 h.2
def psum : List Prt → Nat
  | [] => 0
  | p :: l => p.2.2.length + psum l
theorem psum_append : ∀ a b : List Prt, psum (a ++ b) = psum a + psum b
  | [], b => by simp [psum]
  | p :: a, b => by simp only [List.cons_append, psum, psum_append a b]; omega
theorem psum_mem : ∀ {l : List Prt} {p : Prt}, p ∈ l → p.2.2.length ≤ psum l
  | q :: l, p, h => by
    rcases List.mem_cons.1 h with rfl | h
    · simp only [psum]; omega
    · have := psum_mem h; simp only [psum]; omega
structure Sm (B : Nat) (l : List Prt) : Prop where
  len : l.length ≤ B
  put : psum l ≤ B
  fit : ∀ p ∈ l, I64 p.1 ∧ I64 p.2.1
theorem Sm.mono {B C : Nat} {l : List Prt} (h : Sm B l) (hc : B ≤ C) : Sm C l := ⟨Nat.le_trans h.len hc, Nat.le_trans h.put hc, h.fit⟩
theorem Sm.nil (B : Nat) : Sm B [] := ⟨Nat.zero_le _, Nat.zero_le _, fun _ h => by cases h⟩
def addp (l : List Prt) (p : Prt) : List Prt :=
  if p = (0, 0, []) then l else
  match l.getLast? with
  | none => [p]
  | some q => if kd q = kd p then l.dropLast ++ [(IntKind.wrap .i64 (q.1 + p.1), IntKind.wrap .i64 (q.2.1 + p.2.1), q.2.2 ++ p.2.2)] else l ++ [p]
theorem addp_sm {B : Nat} {l : List Prt} {p : Prt} (h : Sm B l) (hp : I64 p.1 ∧ I64 p.2.1) {C : Nat} (hl : B + 1 ≤ C) (hc : B + p.2.2.length ≤ C) : Sm C (addp l p) := by
  unfold addp
  split
  · exact h.mono (by omega)
  · split
    · exact ⟨by simp; omega, by simp only [psum]; have := h.put; omega, fun q hq => by rw [List.mem_singleton.1 hq]; exact hp⟩
    · rename_i q hq
      obtain ⟨l', rfl⟩ := List.getLast?_eq_some_iff.1 hq
      have h1 := h.len
      have h2 := h.put
      rw [psum_append] at h2
      simp only [psum, List.length_append, List.length_singleton] at h1 h2
      split
      · rw [List.dropLast_concat]
        refine ⟨by simp; omega, by rw [psum_append]; simp only [psum, List.length_append]; omega, fun r hr => ?_⟩
        rcases List.mem_append.1 hr with hr | hr
        · exact h.fit r (by simp [hr])
        · rw [List.mem_singleton.1 hr]; exact ⟨I64.wrap _, I64.wrap _⟩
      · refine ⟨by simp; omega, by rw [psum_append, psum_append]; simp only [psum]; omega, fun r hr => ?_⟩
        rcases List.mem_append.1 hr with hr | hr
        · exact h.fit r hr
        · rw [List.mem_singleton.1 hr]; exact hp
theorem len_last {α : Type} {l : List α} {q : α} (h : l.getLast? = some q) : ∃ n, l.length = n + 1 ∧ l[n]? = some q ∧ ∀ x, l.set n x = l.dropLast ++ [x] := by
  obtain ⟨l', rfl⟩ := List.getLast?_eq_some_iff.1 h
  exact ⟨l'.length, by simp, by simp, fun x => by simp⟩
theorem s_l1Add_eq {B : Nat} {l : List Prt} (h : Sm B l) (hB : B ≤ 1099511627776) (a b : Int) (s : List UInt8) (hs : s.length ≤ 1099511627776) : s_l1Add l a b s = some (addp l (a, b, s)) := by
  unfold s_l1Add addp
  by_cases h0 : ((a, b, s) : Prt) = (0, 0, [])
  · obtain ⟨rfl, rfl, rfl⟩ : a = 0 ∧ b = 0 ∧ s = [] := by simpa using h0
    simp
  · rw [if_neg h0, if_neg (by simpa using h0)]
    have hroom : ∀ x : Prt, roomFor (l.length + [x].length) 32 = true := fun x => by
      have := h.len
      simp [roomFor]; omega
    cases hg : l.getLast? with
    | none =>
      obtain rfl : l = [] := by simpa using hg
      simp [roomFor]
    | some q =>
      obtain ⟨n, hn, hq, hset⟩ := len_last hg
      have hqs : q.2.2.length ≤ B := Nat.le_trans (psum_mem (List.mem_of_getElem? hq)) h.put
      have e1 : IntKind.wrap .i64 (((l.length : Nat) : Int) - 1) = ((n : Nat) : Int) := by rw [hn, w64 (by omega) (by have := h.len; omega)]; omega
      have hpos : (0 : Int) < ((l.length : Nat) : Int) := by omega
      have hlt : ((n : Nat) : Int) < ((l.length : Nat) : Int) := by omega
      have hge : (0 : Int) ≤ ((n : Nat) : Int) := by omega
      have hst : ∀ x : Prt, (l.set n x)[n]? = some x := fun x => List.getElem?_set_self (by omega)
      simp only [e1, hpos, hlt, hge, decide_true, if_true, Int.toNat_natCast, Nat.zero_add, hq, Option.bind_some, s_kind_eq]
      by_cases hk : kd q = kd (a, b, s)
      · have hk' : (kd (q.1, q.2.1, q.2.2) = kd (a, b, s)) := hk
        have hlen : q.2.2.length + s.length ≤ 9223372036854775807 := by omega
        simp only [hk', hk, decide_true, if_true, e1, hlt, hge, Int.toNat_natCast, hq, Option.bind_some, hst, List.set_set, hlen]
        rw [hset]
      · have hk' : ¬ (kd (q.1, q.2.1, q.2.2) = kd (a, b, s)) := hk
        simp only [hk', hk, decide_false, if_false, Bool.false_eq_true, hroom, if_true]
def Bytes (code : List Int) : Prop := ∀ x ∈ code, 0 ≤ x ∧ x ≤ 255
structure At (code : List Int) (k : Int) (a : Int) : Prop where
  b : Bytes code
  lo : 0 ≤ a
  hi : a + k ≤ 4611686018427387904
theorem At.less {code : List Int} {k j a : Int} (h : At code k a) (hj : j ≤ k) : At code j a := ⟨h.b, h.lo, by have := h.hi; omega⟩
structure To (code : List Int) (a k : Int) (code' : List Int) (a' : Int) : Prop where
  c : code' = code
  lo : a ≤ a'
  hi : a' ≤ a + k
theorem To.at {code code' : List Int} {a k a' j : Int} (t : To code a k code' a') (h : At code (k + j) a) : At code' j a' := by
  obtain ⟨rfl, h1, h2⟩ := t
  exact ⟨h.b, by have := h.lo; omega, by have := h.hi; omega⟩
theorem To.trans {c c1 c2 : List Int} {a k a1 j a2 : Int} (t : To c a k c1 a1) (u : To c1 a1 j c2 a2) : To c a (k + j) c2 a2 := by
  obtain ⟨rfl, h1, h2⟩ := t
  obtain ⟨rfl, h3, h4⟩ := u
  exact ⟨rfl, by omega, by omega⟩
theorem To.refl (c : List Int) (a : Int) : To c a 0 c a := ⟨rfl, Int.le_refl _, by omega⟩
theorem To.more {c c1 : List Int} {a k a1 j : Int} (t : To c a k c1 a1) (h : k ≤ j) : To c a j c1 a1 := ⟨t.c, t.lo, by have := t.hi; omega⟩
theorem and255 (x : Int) : 0 ≤ (((BitVec.ofInt (IntKind.bits .u64) x &&& BitVec.ofInt (IntKind.bits .u64) 255).toNat : Nat) : Int) ∧ (((BitVec.ofInt (IntKind.bits .u64) x &&& BitVec.ofInt (IntKind.bits .u64) 255).toNat : Nat) : Int) ≤ 255 := by
  refine ⟨by omega, ?_⟩
  have h : (BitVec.ofInt (IntKind.bits .u64) x &&& BitVec.ofInt (IntKind.bits .u64) 255).toNat ≤ 255 := by
    rw [BitVec.toNat_and]
    exact Nat.le_trans Nat.and_le_right (by simp [IntKind.bits])
  omega
theorem next_ok {code : List Int} {a s : Int} (h : At code 1 a) : Ok (s_l1Cur_next_f code a s) fun r => (0 ≤ r.1 ∧ r.1 ≤ 255) ∧ To code a 1 r.2.1 r.2.2.1 := by
  unfold s_l1Cur_next_f
  refine Ok.bind (Q := fun v => (0 ≤ v.1 ∧ v.1 ≤ 255) ∧ v.2.1 = code ∧ v.2.2.1 = a) ?_ ?_
  · refine Ok.ite (fun hc => ?_) (fun _ => Ok.mk ⟨by simp, rfl, rfl⟩)
    have hlo := h.lo
    simp only [decide_eq_true_eq] at hc
    refine Ok.yes (by simpa using hlo) ?_
    have hi : a.toNat < code.length := by omega
    rw [List.getElem?_eq_getElem hi]
    have hb := h.b _ (List.getElem_mem hi)
    refine Ok.mk ⟨?_, rfl, rfl⟩
    simp only
    rw [w64 (by omega) (by omega)]; exact hb
  · rintro ⟨b, c, a', s'⟩ ⟨hb, e1, e2⟩
    dsimp only at hb e1 e2
    subst e1 e2
    have h1 := h.lo
    have h2 := h.hi
    have e : IntKind.wrap .i64 (a' + 1) = a' + 1 := w64 (by omega) (by omega)
    simp only [e]
    refine Ok.ite (fun _ => Ok.mk ⟨hb, ⟨rfl, by simp only; omega, by simp only; omega⟩⟩) fun _ => ?_
    refine Ok.yes (by simp) (Ok.mk ⟨?_, ⟨rfl, by simp only; omega, by simp only; omega⟩⟩)
    simp only
    have := and255 (Int.fdiv (IntKind.wrap .u64 ((IntKind.wrap .u64 ((IntKind.wrap .u64 (s' * 6364136223846793005)) + (IntKind.wrap .u64 b))) + 1442695040888963407)) (2 ^ (min (Int.toNat 40) (IntKind.bits .u64))))
    rw [wu64 this.1 (by omega), w64 (by omega) (by omega)]
    exact this
theorem tmod_lt {x n : Int} (hx : 0 ≤ x) (hn : 1 < n) : 0 ≤ Int.tmod x n ∧ Int.tmod x n < n := by
  rw [Int.tmod_eq_emod_of_nonneg hx]
  exact ⟨Int.emod_nonneg _ (by omega), Int.emod_lt_of_pos _ (by omega)⟩
theorem pick_ok {code : List Int} {a s n : Int} (h : At code 2 a) : Ok (s_l1Cur_pick_f n code a s) fun r => (0 ≤ r.1 ∧ (r.1 < n ∨ r.1 = 0)) ∧ To code a 2 r.2.1 r.2.2.1 := by
  unfold s_l1Cur_pick_f
  refine Ok.ite (fun hc => Ok.mk ⟨by simp, (To.refl _ _).more (by omega)⟩) fun hc => ?_
  have hn : 1 < n := by simp at hc; omega
  refine (next_ok (h.less (by omega))).bind ?_
  rintro ⟨b, c1, a1, s1⟩ ⟨hb, t1⟩
  refine Ok.bind (Q := fun v => v.1 = n ∧ 0 ≤ v.2.1 ∧ To code a 2 v.2.2.1 v.2.2.2.1) ?_ ?_
  · refine Ok.ite (fun _ => ?_) (fun _ => Ok.mk ⟨rfl, hb.1, t1.more (by omega)⟩)
    refine (next_ok (t1.at h)).bind ?_
    rintro ⟨b2, c2, a2, s2⟩ ⟨hb2, t2⟩
    refine Ok.mk ⟨rfl, ?_, t1.trans t2⟩
    simp only at hb hb2 ⊢
    rw [w64 (n := b * 256) (by omega) (by omega), w64 (by omega) (by omega)]
    omega
  · rintro ⟨n', x, c, a', s'⟩ ⟨rfl, hx, t⟩
    have := tmod_lt hx hn
    refine Ok.yes (by simp; omega) (Ok.mk ⟨⟨this.1, .inl this.2⟩, t⟩)
theorem one_ok {code : List Int} {a s n : Int} (h : At code 2 a) : Ok (s_l1Cur_one_f n code a s) fun r => To code a 2 r.2.1 r.2.2.1 := by
  unfold s_l1Cur_one_f
  exact (pick_ok h).bind fun r hr => Ok.mk hr.2
theorem of_ok {code : List Int} {a s : Int} {l : List (List UInt8)} (h : At code 2 a) (hl : l ≠ []) : Ok (s_l1Cur_of_f l code a s) fun r => r.1 ∈ l ∧ To code a 2 r.2.1 r.2.2.1 := by
  unfold s_l1Cur_of_f
  refine (pick_ok h).bind ?_
  rintro ⟨i, c, a', s'⟩ ⟨⟨h1, h2⟩, t⟩
  have hp : 0 < l.length := List.length_pos_iff.2 hl
  simp only at h1 h2
  have hi : i.toNat < l.length := by omega
  refine Ok.yes (by simpa using h1) (Ok.yes (by simp; omega) ?_)
  rw [Nat.zero_add, List.getElem?_eq_getElem hi]
  exact Ok.mk ⟨List.getElem_mem hi, t⟩
theorem put_ok {code : List Int} {a s : Int} (h : At code 2 a) : Ok (s_l1Cur_put_f code a s) fun r => r.1.length ≤ 5 ∧ To code a 2 r.2.1 r.2.2.1 := by
  unfold s_l1Cur_put_f
  refine (of_ok h (by simp)).bind ?_
  rintro ⟨x, c, a', s'⟩ ⟨hx, t⟩
  refine Ok.mk ⟨?_, t⟩
  simp only [List.mem_cons, List.not_mem_nil, or_false] at hx
  rcases hx with rfl | rfl | rfl | rfl | rfl | rfl <;> simp
theorem among_ok {code : List Int} {a s : Int} {l : List Int} (h : At code 2 a) (hl : l ≠ []) : Ok (s_l1Cur_among_f l code a s) fun r => r.1 ∈ l ∧ To code a 2 r.2.1 r.2.2.1 := by
  unfold s_l1Cur_among_f
  refine (pick_ok h).bind ?_
  rintro ⟨i, c, a', s'⟩ ⟨⟨h1, h2⟩, t⟩
  have hp : 0 < l.length := List.length_pos_iff.2 hl
  simp only at h1 h2
  have hi : i.toNat < l.length := by omega
  refine Ok.yes (by simpa using h1) (Ok.yes (by simp; omega) ?_)
  rw [Nat.zero_add, List.getElem?_eq_getElem hi]
  exact Ok.mk ⟨List.getElem_mem hi, t⟩
theorem wide_ok {code : List Int} {a s : Int} (h : At code 8 a) : Ok (s_l1Cur_wide_f code a s) fun r => I64 r.1 ∧ To code a 8 r.2.1 r.2.2.1 := by
  unfold s_l1Cur_wide_f
  refine Ok.bind (Q := fun r => I64 r.1 ∧ To code a 8 r.2.1 r.2.2.1) ?_ (fun r hr => Ok.mk hr)
  refine Ok.loop (fun y => I64 y.1 ∧ 0 ≤ y.2.1 ∧ y.2.1 ≤ 8 ∧ To code a y.2.1 y.2.2.1 y.2.2.2.1) (fun y => (8 - y.2.1).toNat) ⟨by unfold I64; simp, by simp, by simp, To.refl _ _⟩ ?_
  rintro ⟨n, i, c, a', s'⟩ ⟨hn, h0, h8, t⟩
  simp only at hn h0 h8 t
  unfold s_l1Cur_wide_f_L1
  refine Ok.ite (fun hc => ?_) fun hc => Ok.mk ⟨hn, t.more h8⟩
  have hc' : i < 8 := by simpa using hc
  refine Ok.yes (by simp) ((next_ok (t.at (j := 1) (h.less (by omega)))).bind ?_)
  rintro ⟨b, c2, a2, s2⟩ ⟨hb, t2⟩
  have e : IntKind.wrap .i64 (i + 1) = i + 1 := w64 (by omega) (by omega)
  refine Ok.mk ⟨⟨I64.wrap _, ?_, ?_, ?_⟩, ?_⟩
  · simp only [e]; omega
  · simp only [e]; omega
  · simp only [e]; exact t.trans t2
  · simp only [e]; omega
end Go.V.G

set_option linter.unusedVariables false
set_option linter.unusedSimpArgs false
set_option maxRecDepth 100000
namespace Go.V.G
open Go.V
theorem fdiv_I64 {n : Int} (h : I64 n) (k : Nat) : I64 (Int.fdiv n (2 ^ k)) := by
  have h2 : (0 : Int) < 2 ^ k := Int.pow_pos (by decide)
  rw [Int.fdiv_eq_ediv_of_nonneg _ (by omega)]
  obtain ⟨a, b⟩ := h
  constructor
  · rw [Int.le_ediv_iff_mul_le h2]
    have : -9223372036854775808 * (2 ^ k : Int) ≤ -9223372036854775808 * 1 := Int.mul_le_mul_of_nonpos_left (by omega) (by omega)
    omega
  · have h3 : n / 2 ^ k ≤ 9223372036854775807 / 2 ^ k := Int.ediv_le_ediv h2 b
    have h4 : (9223372036854775807 : Int) / 2 ^ k ≤ 9223372036854775807 := Int.ediv_le_self _ (by omega)
    omega
theorem sized_ok {code : List Int} {a s : Int} (h : At code 16 a) : Ok (s_l1Cur_sized_f code a s) fun r => I64 r.1 ∧ To code a 16 r.2.1 r.2.2.1 := by
  unfold s_l1Cur_sized_f
  refine (pick_ok (h.less (by omega))).bind ?_
  rintro ⟨x1, c1, a1, s1⟩ ⟨hx1, t1⟩
  refine (pick_ok (t1.at (j := 2) (h.less (by omega)))).bind ?_
  rintro ⟨x2, c2, a2, s2⟩ ⟨hx2, t2⟩
  have t2 := t1.trans t2
  have i1 : I64 x1 := by simp only at hx1; unfold I64; omega
  refine Ok.bind (Q := fun v => I64 v.1 ∧ To code a 14 v.2.1 v.2.2.1) ?_ ?_
  · refine Ok.ite (fun _ => ?_) fun _ => ?_
    · refine (pick_ok (t2.at (j := 2) (h.less (by omega)))).bind ?_
      rintro ⟨x, c, a', s'⟩ ⟨hx, t⟩
      exact Ok.mk ⟨by simp only at hx ⊢; unfold I64; omega, (t2.trans t).more (by omega)⟩
    · refine Ok.bind (Q := fun v => I64 v.1 ∧ To code a 14 v.2.1 v.2.2.1) ?_ (fun v hv => Ok.mk hv)
      refine Ok.ite (fun _ => ?_) fun _ => ?_
      · refine (wide_ok (t2.at (j := 8) (h.less (by omega)))).bind ?_
        rintro ⟨x, c, a', s'⟩ ⟨hx, t⟩
        have t := t2.trans t
        refine (pick_ok (t.at (j := 2) (h.less (by omega)))).bind ?_
        rintro ⟨y, c, a'', s''⟩ ⟨hy, t'⟩
        simp only at hy
        have e : IntKind.wrap .u64 y = y := wu64 (by omega) (by omega)
        refine Ok.yes (by simp [e]; omega) (Ok.mk ⟨fdiv_I64 hx _, (t.trans t').more (by omega)⟩)
      · refine Ok.bind (Q := fun v => I64 v.1 ∧ To code a 14 v.2.1 v.2.2.1) ?_ (fun v hv => Ok.mk hv)
        refine Ok.ite (fun _ => ?_) fun _ => ?_
        · refine (pick_ok (t2.at (j := 2) (h.less (by omega)))).bind ?_
          rintro ⟨y, c, a'', s''⟩ ⟨hy, t'⟩
          simp only at hy
          have e : IntKind.wrap .u64 y = y := wu64 (by omega) (by omega)
          refine Ok.yes (by simp [e]; omega) (Ok.mk ⟨I64.wrap _, (t2.trans t').more (by omega)⟩)
        · refine Ok.bind (Q := fun v => I64 v.1 ∧ To code a 14 v.2.1 v.2.2.1) ?_ (fun v hv => Ok.mk hv)
          refine Ok.ite (fun _ => ?_) fun _ => Ok.mk ⟨i1, t2.more (by omega)⟩
          refine (pick_ok (t2.at (j := 2) (h.less (by omega)))).bind ?_
          rintro ⟨y, c, a'', s''⟩ ⟨hy, t'⟩
          simp only at hy
          have e : IntKind.wrap .u64 y = y := wu64 (by omega) (by omega)
          refine Ok.yes (by simp [e]; omega) (Ok.mk ⟨I64.wrap _, (t2.trans t').more (by omega)⟩)
  · rintro ⟨x, c, a', s'⟩ ⟨hx, t⟩
    refine (one_ok (t.at (j := 2) h)).bind ?_
    rintro ⟨y, c, a'', s''⟩ t'
    refine Ok.bind (Q := fun v => I64 v.1 ∧ To code a 16 v.2.1 v.2.2.1) ?_ (fun v hv => Ok.mk hv)
    exact Ok.ite (fun _ => Ok.mk ⟨I64.wrap _, t.trans t'⟩) fun _ => Ok.mk ⟨hx, t.trans t'⟩
theorem part_ok {code : List Int} {a s : Int} (h : At code 18 a) : Ok (s_l1Cur_part_f code a s) fun r => (I64 r.1 ∧ I64 r.2.1 ∧ r.2.2.1.length ≤ 121) ∧ To code a 18 r.2.2.2.1 r.2.2.2.2.1 := by
  have z : I64 0 := by unfold I64; omega
  have o : I64 1 := by unfold I64; omega
  unfold s_l1Cur_part_f
  refine (pick_ok (h.less (by omega))).bind ?_
  rintro ⟨x1, c1, a1, s1⟩ ⟨hx1, t1⟩
  refine Ok.ite (fun _ => Ok.mk ⟨⟨z, z, by simp⟩, t1.more (by omega)⟩) fun _ => ?_
  refine Ok.ite (fun _ => ?_) fun _ => ?_
  · refine (sized_ok (t1.at (j := 16) (h.less (by omega)))).bind ?_
    rintro ⟨x, c, a', s'⟩ ⟨hx, t⟩
    exact Ok.mk ⟨⟨hx, z, by simp⟩, (t1.trans t).more (by omega)⟩
  refine Ok.ite (fun _ => ?_) fun _ => ?_
  · refine (sized_ok (t1.at (j := 16) (h.less (by omega)))).bind ?_
    rintro ⟨x, c, a', s'⟩ ⟨hx, t⟩
    exact Ok.mk ⟨⟨z, hx, by simp⟩, (t1.trans t).more (by omega)⟩
  refine Ok.ite (fun _ => Ok.mk ⟨⟨o, z, by simp⟩, t1.more (by omega)⟩) fun _ => ?_
  refine (pick_ok (t1.at (j := 2) (h.less (by omega)))).bind ?_
  rintro ⟨x, c, a', s'⟩ ⟨hx, t⟩
  simp only at hx
  have e : IntKind.wrap .i64 (120 + x) = 120 + x := w64 (by omega) (by omega)
  refine Ok.yes (by simp [e]; omega) (Ok.yes (by simp) (Ok.yes (by simp [e, roomFor]; omega) (Ok.mk ⟨⟨z, z, ?_⟩, (t1.trans t).more (by omega)⟩)))
  simp only [e, textOf, List.length_map, List.length_replicate]; omega
theorem room_ok {B : Nat} {l : List Prt} (h : Sm B l) (hB : B ≤ 1099511627776) (x : Prt) : roomFor (List.length l + List.length [x]) 32 = true := by
  have := h.len
  simp [roomFor]; omega
theorem Sm.snoc {B C : Nat} {l : List Prt} {p : Prt} (h : Sm B l) (hp : I64 p.1 ∧ I64 p.2.1) (hl : B + 1 ≤ C) (hc : B + p.2.2.length ≤ C) : Sm C (l ++ [p]) :=
  ⟨by have := h.len; simp; omega, by rw [psum_append]; simp only [psum]; have := h.put; omega, fun q hq => by
    rcases List.mem_append.1 hq with hq | hq
    · exact h.fit q hq
    · rw [List.mem_singleton.1 hq]; exact hp⟩
theorem changeOf_round {n : Int} {l : List Prt} {room : Int} {c : List Int} {a s : Int} {B : Nat} (h : At c 10 a) (hl : Sm B l) (hB : B ≤ 1099511627000) (hn : n ≤ 1048576) :
    Ok (s_l1Cur_changeOf_f_L1 (n, l, room, c, a, s)) fun r => match r with
      | .inl y => 0 < n ∧ 0 ≤ y.1 ∧ y.1 < n ∧ Sm (B + 6) y.2.1 ∧ To c a 10 y.2.2.2.1 y.2.2.2.2.1
      | .inr z => n ≤ 0 ∧ z.1 = l ∧ To c a 0 z.2.2.1 z.2.2.2.1 := by
  have z : I64 0 := by unfold I64; omega
  unfold s_l1Cur_changeOf_f_L1
  refine Ok.ite (fun hc => ?_) fun hc => Ok.mk ⟨by simpa using hc, rfl, To.refl _ _⟩
  have hpos : 0 < n := by simpa using hc
  refine (put_ok (h.less (by omega))).bind ?_
  rintro ⟨p, c1, a1, s1⟩ ⟨hp, t1⟩
  dsimp only at hp t1 ⊢
  refine Ok.bind (Q := fun v => v.1 = n ∧ v.2.1 = l ∧ v.2.2.2.1 = p ∧ To c a 4 v.2.2.2.2.2.1 v.2.2.2.2.2.2.1) ?_ ?_
  · refine (one_ok (t1.at (j := 2) (h.less (by omega)))).bind ?_
    rintro ⟨x, c2, a2, s2⟩ t2
    exact Ok.ite (fun _ => Ok.mk ⟨rfl, rfl, rfl, t1.trans t2⟩) fun _ => Ok.mk ⟨rfl, rfl, rfl, t1.trans t2⟩
  rintro ⟨n', l', room', p', fl, c2, a2, s2⟩ ⟨e1, e2, e3, t2⟩
  dsimp only at e1 e2 e3 t2 ⊢
  subst e1 e2 e3
  refine Ok.bind (Q := fun v => v.1 = n' ∧ Sm (B + 5) v.2.1 ∧ To c a 4 v.2.2.2.1 v.2.2.2.2.1) ?_ ?_
  · refine Ok.ite (fun _ => ?_) fun _ => Ok.mk ⟨rfl, hl.mono (by omega), t2⟩
    refine Ok.bind_eq (s_l1Add_eq hl (by omega) 0 0 p' (by omega)) (Ok.mk ⟨rfl, addp_sm hl ⟨z, z⟩ (by omega) (by dsimp only; omega), t2⟩)
  rintro ⟨n1, l1, room1, c3, a3, s3⟩ ⟨e1, hl1, t3⟩
  dsimp only at e1 hl1 t3 ⊢
  subst e1
  refine (pick_ok (t3.at (j := 2) (h.less (by omega)))).bind ?_
  rintro ⟨k0, c4, a4, s4⟩ ⟨hk0, t4⟩
  dsimp only at hk0 t4 ⊢
  have t4 := t3.trans t4
  refine (one_ok (t4.at (j := 2) (h.less (by omega)))).bind ?_
  rintro ⟨fl2, c5, a5, s5⟩ t5
  dsimp only at t5 ⊢
  have t5 := t4.trans t5
  refine Ok.bind (Q := fun v => v.1 = n1 ∧ v.2.1 = l1 ∧ (1 ≤ v.2.2.2.1 ∧ v.2.2.2.1 ≤ 1048576) ∧ To c a 8 v.2.2.2.2.1 v.2.2.2.2.2.1) ?_ ?_
  · refine Ok.ite (fun _ => Ok.mk ⟨rfl, rfl, by dsimp only; omega, t5⟩) fun _ => ?_
    have e : IntKind.wrap .i64 (1 + k0) = 1 + k0 := w64 (by omega) (by omega)
    exact Ok.mk ⟨rfl, rfl, by dsimp only; rw [e]; omega, t5⟩
  rintro ⟨n2, l2, room2, k2, c6, a6, s6⟩ ⟨e1, e2, hk2, t6⟩
  dsimp only at e1 e2 hk2 t6 ⊢
  subst e1 e2
  refine Ok.bind (Q := fun v => v.1 = n2 ∧ v.2.1 = l2 ∧ (1 ≤ v.2.2.2.1 ∧ v.2.2.2.1 ≤ n2) ∧ To c a 8 v.2.2.2.2.1 v.2.2.2.2.2.1) ?_ ?_
  · refine Ok.ite (fun _ => Ok.mk ⟨rfl, rfl, by dsimp only; omega, t6⟩) fun hc => Ok.mk ⟨rfl, rfl, ?_, t6⟩
    simp only [decide_eq_true_eq] at hc
    dsimp only; omega
  rintro ⟨n3, l3, room3, k3, c7, a7, s7⟩ ⟨e1, e2, hk3, t7⟩
  dsimp only at e1 e2 hk3 t7 ⊢
  subst e1 e2
  refine (one_ok (t7.at (j := 2) (h.less (by omega)))).bind ?_
  rintro ⟨fl3, c8, a8, s8⟩ t8
  dsimp only at t8 ⊢
  have t8 := t7.trans t8
  have ik : I64 k3 := by unfold I64; omega
  refine Ok.bind (Q := fun v => v.1 = n3 ∧ Sm (B + 6) v.2.1 ∧ v.2.2.2.1 = k3 ∧ To c a 10 v.2.2.2.2.1 v.2.2.2.2.2.1) ?_ ?_
  · refine Ok.ite (fun _ => ?_) fun _ => ?_
    · exact Ok.bind_eq (s_l1Add_eq hl1 (by omega) 0 k3 [] (by simp)) (Ok.mk ⟨rfl, addp_sm hl1 ⟨z, ik⟩ (by omega) (by simp), rfl, t8⟩)
    · exact Ok.bind_eq (s_l1Add_eq hl1 (by omega) k3 0 [] (by simp)) (Ok.mk ⟨rfl, addp_sm hl1 ⟨ik, z⟩ (by omega) (by simp), rfl, t8⟩)
  rintro ⟨n4, l4, room4, k4, c9, a9, s9⟩ ⟨e1, hl4, e2, t9⟩
  dsimp only at e1 hl4 e2 t9 ⊢
  subst e1 e2
  have e : IntKind.wrap .i64 (n4 - k4) = n4 - k4 := w64 (by omega) (by omega)
  exact Ok.mk ⟨hpos, by dsimp only; omega, by dsimp only; omega, hl4, t9⟩
theorem changeOf_ok {n : Int} {code : List Int} {a s : Int} (N : Nat) (hN : n ≤ N) (hn : n ≤ 1048576) (hNn : N ≤ 1048576) (h : At code (10 * N + 24) a) :
    Ok (s_l1Cur_changeOf_f n code a s) fun r => Sm (6 * N + 127) r.1 ∧ To code a (10 * N + 24) r.2.1 r.2.2.1 := by
  unfold s_l1Cur_changeOf_f
  refine Ok.bind (Q := fun v => Sm (6 * N) v.1 ∧ To code a (10 * N) v.2.2.1 v.2.2.2.1) ?_ ?_
  · refine Ok.loop (fun y => y.1 ≤ (N : Int) ∧ (0 ≤ y.1 ∨ y.1 = n) ∧ Sm (6 * (N - y.1.toNat)) y.2.1 ∧ To code a (10 * (N - y.1.toNat : Nat)) y.2.2.2.1 y.2.2.2.2.1) (fun y => y.1.toNat) ⟨hN, .inr rfl, Sm.nil _, (To.refl _ _).more (by omega)⟩ ?_
    rintro ⟨m, l, room, c, a', s'⟩ ⟨h1, h2, h3, t⟩
    dsimp only at h1 h2 h3 t ⊢
    by_cases hm : 0 < m
    · refine (changeOf_round (t.at (j := 10) (h.less (by omega))) h3 (by omega) (by omega)).mono ?_
      rintro (⟨m', l', room', c', a'', s''⟩ | z) hr
      · obtain ⟨_, k1, k2, k3, k4⟩ := hr
        dsimp only at k1 k2 k3 k4 ⊢
        exact ⟨⟨by omega, .inl k1, k3.mono (by omega), (t.trans k4).more (by omega)⟩, by omega⟩
      · exact absurd hr.1 (by omega)
    · refine (changeOf_round (n := m) (t.at (j := 10) (h.less (by omega))) h3 (by omega) (by omega)).mono ?_
      rintro (y | ⟨l', room', c', a'', s''⟩) hr
      · exact absurd hr.1 hm
      · obtain ⟨_, k1, k2⟩ := hr
        dsimp only at k1 k2 ⊢
        subst k1
        exact ⟨h3.mono (by omega), (t.trans k2).more (by omega)⟩
  rintro ⟨l, room, c, a1, s1⟩ ⟨hl, t1⟩
  dsimp only at hl t1 ⊢
  have z : I64 0 := by unfold I64; omega
  refine (put_ok (t1.at (j := 2) (h.less (by omega)))).bind ?_
  rintro ⟨p, c2, a2, s2⟩ ⟨hp, t2⟩
  dsimp only at hp t2 ⊢
  have t2 := t1.trans t2
  refine Ok.bind (Q := fun v => v.1 = l ∧ v.2.1 = p ∧ To code a (10 * N + 4) v.2.2.2.1 v.2.2.2.2.1) ?_ ?_
  · refine (one_ok (t2.at (j := 2) (h.less (by omega)))).bind ?_
    rintro ⟨x, c3, a3, s3⟩ t3
    exact Ok.ite (fun _ => Ok.mk ⟨rfl, rfl, (t2.trans t3).more (by omega)⟩) fun _ => Ok.mk ⟨rfl, rfl, (t2.trans t3).more (by omega)⟩
  rintro ⟨l', p', fl, c3, a3, s3⟩ ⟨e1, e2, t3⟩
  dsimp only at e1 e2 t3 ⊢
  subst e1 e2
  refine Ok.bind (Q := fun v => Sm (6 * N + 6) v.1 ∧ To code a (10 * N + 4) v.2.1 v.2.2.1) ?_ ?_
  · refine Ok.ite (fun _ => ?_) fun _ => Ok.mk ⟨hl.mono (by omega), t3⟩
    exact Ok.bind_eq (s_l1Add_eq hl (by omega) 0 0 p' (by omega)) (Ok.mk ⟨addp_sm hl ⟨z, z⟩ (by omega) (by dsimp only; omega), t3⟩)
  rintro ⟨l1, c4, a4, s4⟩ ⟨hl1, t4⟩
  dsimp only at hl1 t4 ⊢
  refine (one_ok (t4.at (j := 2) (h.less (by omega)))).bind ?_
  rintro ⟨fl2, c5, a5, s5⟩ t5
  dsimp only at t5 ⊢
  have t5 := t4.trans t5
  refine Ok.bind (Q := fun v => Sm (6 * N + 127) v.1 ∧ To code a (10 * N + 24) v.2.1 v.2.2.1) ?_ (fun v hv => Ok.mk hv)
  refine Ok.ite (fun _ => ?_) fun _ => Ok.mk ⟨hl1.mono (by omega), t5.more (by omega)⟩
  refine (part_ok (t5.at (j := 18) (h.less (by omega)))).bind ?_
  rintro ⟨x, y, w, c6, a6, s6⟩ ⟨⟨g1, g2, g3⟩, t6⟩
  dsimp only at g1 g2 g3 t6 ⊢
  exact Ok.yes (room_ok hl1 (by omega) _) (Ok.mk ⟨hl1.snoc ⟨g1, g2⟩ (by omega) (by dsimp only; omega), (t5.trans t6).more (by omega)⟩)
end Go.V.G

set_option linter.unusedVariables false
set_option linter.unusedSimpArgs false
set_option maxRecDepth 100000
namespace Go.V.G
open Go.V
def src : List Prt → Int
  | [] => 0
  | p :: l => p.1 + p.2.1 + src l
def tgt : List Prt → Int
  | [] => 0
  | p :: l => p.1 + p.2.2.length + tgt l
theorem src_append : ∀ a b : List Prt, src (a ++ b) = src a + src b
  | [], b => by simp [src]
  | p :: a, b => by simp only [List.cons_append, src, src_append a b]; omega
theorem tgt_append : ∀ a b : List Prt, tgt (a ++ b) = tgt a + tgt b
  | [], b => by simp [tgt]
  | p :: a, b => by simp only [List.cons_append, tgt, tgt_append a b]; omega
def okk : Int → List Prt → Bool
  | _, [] => true
  | k, p :: l => !(decide (kd p = 0)) && !(decide (kd p = k)) && okk (kd p) l
def good (c : List Prt) : Bool := okk 0 c && decide (src c ≤ 120) && decide (tgt c ≤ 120)
structure Some1 (p : Prt) : Prop where
  k : 0 ≤ p.1
  d : 0 ≤ p.2.1
  ne : kd p ≠ 0
theorem some1_of {p : Prt} (h : kd p ≠ 0) : Some1 p := by
  refine ⟨?_, ?_, h⟩ <;> (unfold kd at h; split at h; omega; split at h; omega; split at h; omega; exact absurd rfl h)
theorem okk_some : ∀ {k : Int} {l : List Prt}, okk k l = true → ∀ p ∈ l, Some1 p
  | k, q :: l, h, p, hp => by
    simp only [okk, Bool.and_eq_true, Bool.not_eq_true', decide_eq_false_iff_not] at h
    rcases List.mem_cons.1 hp with rfl | hp
    · exact some1_of h.1.1
    · exact okk_some h.2 p hp
theorem src_nonneg : ∀ {l : List Prt}, (∀ p ∈ l, Some1 p) → 0 ≤ src l
  | [], _ => Int.le_refl _
  | p :: l, h => by
    have h1 := h p (by simp)
    have h2 := src_nonneg (l := l) (fun q hq => h q (by simp [hq]))
    have := h1.k; have := h1.d
    simp only [src]; omega
theorem tgt_nonneg : ∀ {l : List Prt}, (∀ p ∈ l, Some1 p) → 0 ≤ tgt l
  | [], _ => Int.le_refl _
  | p :: l, h => by
    have h1 := h p (by simp)
    have h2 := tgt_nonneg (l := l) (fun q hq => h q (by simp [hq]))
    have := h1.k
    simp only [tgt]; omega
theorem cut_at {l : List Prt} {i : Nat} (h : i < l.length) : l = l.take i ++ l[i] :: l.drop (i + 1) := by
  rw [← List.drop_eq_getElem_cons h, List.take_append_drop]
theorem src_at {l : List Prt} {i : Nat} (h : i < l.length) : src l = src (l.take i) + (l[i].1 + l[i].2.1 + src (l.drop (i + 1))) := by
  conv => lhs; rw [cut_at h]
  rw [src_append]; rfl
theorem tgt_at {l : List Prt} {i : Nat} (h : i < l.length) : tgt l = tgt (l.take i) + (l[i].1 + l[i].2.2.length + tgt (l.drop (i + 1))) := by
  conv => lhs; rw [cut_at h]
  rw [tgt_append]; rfl
theorem src_take {l : List Prt} {i : Nat} (h : i < l.length) : src (l.take (i + 1)) = src (l.take i) + (l[i].1 + l[i].2.1) := by
  rw [List.take_succ_eq_append_getElem h, src_append]; simp [src]
theorem tgt_take {l : List Prt} {i : Nat} (h : i < l.length) : tgt (l.take (i + 1)) = tgt (l.take i) + (l[i].1 + l[i].2.2.length) := by
  rw [List.take_succ_eq_append_getElem h, tgt_append]; simp [tgt]
def before (l : List Prt) (i : Nat) : Int := if i = 0 then 0 else match l[i - 1]? with
  | some p => kd p
  | none => 0
theorem before_succ {l : List Prt} {i : Nat} (h : i < l.length) : before l (i + 1) = kd l[i] := by simp [before, List.getElem?_eq_getElem h]
theorem okk_drop {l : List Prt} {i : Nat} (h : i < l.length) (k : Int) : okk k (l.drop i) = (!(decide (kd l[i] = 0)) && !(decide (kd l[i] = k)) && okk (kd l[i]) (l.drop (i + 1))) := by
  rw [List.drop_eq_getElem_cons h]; rfl
theorem mem_drop {l : List Prt} {i : Nat} {p : Prt} (h : p ∈ l.drop i) : p ∈ l := List.mem_of_mem_drop h
theorem mem_take {l : List Prt} {i : Nat} {p : Prt} (h : p ∈ l.take i) : p ∈ l := List.mem_of_mem_take h
theorem idx_succ {i : Nat} {n : Nat} (hn : n ≤ 1099511627776) (h : i < n) : IntKind.wrap .i64 ((i : Int) + 1) = ((i + 1 : Nat) : Int) := by
  rw [w64 (by omega) (by omega)]; omega
theorem i_good_loop {c : List Prt} (hlen : c.length ≤ 1099511627776) : Ok (loopG i_GoodChange_L1 (c, c, ((List.length c : Nat) : Int), 0)) fun r => match r with
    | .inl y => y = c ∧ okk 0 c = true
    | .inr b => b = false ∧ okk 0 c = false := by
  refine Ok.loop (fun y => y.1 = c ∧ y.2.1 = c ∧ y.2.2.1 = ((List.length c : Nat) : Int) ∧ ∃ i : Nat, y.2.2.2 = ((i : Nat) : Int) ∧ i ≤ c.length ∧ okk 0 c = okk (before c i) (c.drop i)) (fun y => (((List.length c : Nat) : Int) - y.2.2.2).toNat)
    ⟨rfl, rfl, rfl, 0, rfl, Nat.zero_le _, by simp [before]⟩ ?_
  rintro ⟨a, b, n, i'⟩ ⟨e1, e2, e3, i, e4, hi, hk⟩
  dsimp only at e1 e2 e3 e4
  subst e1 e2 e3 e4
  unfold i_GoodChange_L1
  dsimp only
  refine Ok.ite (fun hc => ?_) fun hc => ?_
  · have hlt : i < b.length := by simpa using hc
    refine Ok.yes (by simp) (Ok.bind_eq (r := b[i]) (by simp [List.getElem?_eq_getElem hlt]) (Ok.bind_eq (i_kind_eq _ _ _) ?_))
    have hb : before b i = before b i := rfl
    refine Ok.bind (Q := fun v => v = (b, b, ((List.length b : Nat) : Int), ((i : Nat) : Int), decide (kd b[i] = 0) || decide (kd b[i] = before b i))) ?_ ?_
    · refine Ok.ite (fun h0 => ?_) fun h0 => ?_
      · exact Ok.mk (by have : kd b[i] = 0 := by simpa using h0
                        simp [this])
      · have h0' : ¬ kd b[i] = 0 := by simpa using h0
        refine Ok.ite (fun hp => ?_) fun hp => ?_
        · have hp' : 0 < i := by simpa using hp
          have e : IntKind.wrap .i64 ((i : Int) - 1) = ((i - 1 : Nat) : Int) := by rw [w64 (by omega) (by omega)]; omega
          have hl1 : i - 1 < b.length := by omega
          refine Ok.yes (by simp [e]) (Ok.bind_eq (r := b[i - 1]) (by simp [e, List.getElem?_eq_getElem hl1]) (Ok.bind_eq (i_kind_eq _ _ _) (Ok.mk ?_)))
          have hne : ¬ i = 0 := by omega
          have hb : before b i = kd b[i - 1] := by simp [before, hne, List.getElem?_eq_getElem hl1]
          rw [hb]
          have e0 : decide (kd b[i] = 0) = false := by simpa using h0'
          rw [e0, Bool.false_or]
          show (_, _, _, _, decide (kd b[i - 1] = kd b[i])) = _
          congr 4
          exact decide_eq_decide.2 eq_comm
        · have hi0 : i = 0 := by
            have : ¬ (0 : Int) < (i : Int) := by simpa using hp
            omega
          subst hi0
          have e0 : decide (kd b[0] = 0) = false := by simpa using h0'
          exact Ok.mk (by simp [before, e0])
    · rintro _ rfl
      dsimp only
      rw [okk_drop hlt] at hk
      refine Ok.ite (fun hbad => Ok.mk ⟨rfl, ?_⟩) fun hfine => Ok.mk ⟨⟨rfl, rfl, rfl, i + 1, idx_succ hlen hlt, by omega, ?_⟩, ?_⟩
      · rw [hk]
        rcases Bool.or_eq_true_iff.1 hbad with h | h <;> simp [h]
      · rw [hk, before_succ hlt]
        have : (decide (kd b[i] = 0) || decide (kd b[i] = before b i)) = false := by simpa using hfine
        obtain ⟨h1, h2⟩ := Bool.or_eq_false_iff.1 this
        simp [h1, h2]
      · rw [idx_succ hlen hlt]; dsimp only; omega
  · have : i = b.length := by
      have : ¬ ((i : Int) < ((List.length b : Nat) : Int)) := by simpa using hc
      omega
    subst this
    exact Ok.mk ⟨rfl, by rw [hk]; simp [okk]⟩
def lens (c : List Prt) : Int × (Int × Bool) := if src c ≤ 120 ∧ tgt c ≤ 120 then (src c, tgt c, true) else (0, 0, false)
theorem i_lengths_eq {c : List Prt} (hlen : c.length ≤ 1099511627776) (hput : psum c ≤ 1099511627776) (hs : ∀ p ∈ c, Some1 p) (hf : ∀ p ∈ c, I64 p.1 ∧ I64 p.2.1) : i_lengths c = some (lens c) := by
  unfold i_lengths
  refine Ok.eq ?_
  refine Ok.bind (Q := fun r => match r with
    | .inl y => src c ≤ 120 ∧ tgt c ≤ 120 ∧ y = (src c, tgt c)
    | .inr y => ¬ (src c ≤ 120 ∧ tgt c ≤ 120) ∧ y = (0, 0, false)) ?_ ?_
  · refine Ok.loop (fun y => y.2.2.1 = c ∧ y.2.2.2.1 = ((List.length c : Nat) : Int) ∧ ∃ i : Nat, y.2.2.2.2 = ((i : Nat) : Int) ∧ i ≤ c.length ∧ y.1 = src (c.take i) ∧ y.2.1 = tgt (c.take i) ∧ y.1 ≤ 120 ∧ y.2.1 ≤ 120) (fun y => (((List.length c : Nat) : Int) - y.2.2.2.2).toNat)
      ⟨rfl, rfl, 0, rfl, Nat.zero_le _, by simp [src], by simp [tgt], by simp, by simp⟩ ?_
    rintro ⟨s, t, c', n, i'⟩ ⟨e1, e2, i, e3, hi, e4, e5, h1, h2⟩
    dsimp only at e1 e2 e3 e4 e5 h1 h2
    subst e1 e2 e3
    unfold i_lengths_L1
    dsimp only
    refine Ok.ite (fun hc => ?_) fun hc => ?_
    · have hlt : i < c'.length := by simpa using hc
      have hmem : c'[i] ∈ c' := List.getElem_mem hlt
      have hp := hs _ hmem
      have hpf := hf _ hmem
      have hpp := psum_mem hmem
      have k0 := hp.k
      have d0 := hp.d
      have n1 := src_nonneg (l := c'.take i) fun p h => hs p (mem_take h)
      have n2 := tgt_nonneg (l := c'.take i) fun p h => hs p (mem_take h)
      have n3 := src_nonneg (l := c'.drop (i + 1)) fun p h => hs p (mem_drop h)
      have n4 := tgt_nonneg (l := c'.drop (i + 1)) fun p h => hs p (mem_drop h)
      have a1 := src_at hlt
      have a2 := tgt_at hlt
      refine Ok.yes (by simp) (Ok.bind_eq (r := c'[i]) (by simp [List.getElem?_eq_getElem hlt]) ?_)
      refine Ok.bind (Q := fun v => v = (s, t, c', ((List.length c' : Nat) : Int), ((i : Nat) : Int), decide (120 < c'[i].1 ∨ 120 < c'[i].2.1), c'[i].1, c'[i].2.1, c'[i].2.2)) ?_ ?_
      · refine Ok.ite (fun h => Ok.mk ?_) fun h => Ok.mk ?_
        · have : 120 < c'[i].1 := by simpa using h
          simp [this]
        · have : ¬ 120 < c'[i].1 := by simpa using h
          simp [this]
      rintro _ rfl
      dsimp only
      refine Ok.ite (fun hb => Ok.mk ⟨?_, rfl⟩) fun hb => ?_
      · have : 120 < c'[i].1 ∨ 120 < c'[i].2.1 := by simpa using hb
        omega
      · have hb' : ¬ (120 < c'[i].1 ∨ 120 < c'[i].2.1) := by simpa using hb
        have w1 : IntKind.wrap .i64 (c'[i].1 + c'[i].2.1) = c'[i].1 + c'[i].2.1 := w64 (by omega) (by omega)
        have w2 : IntKind.wrap .i64 (s + (c'[i].1 + c'[i].2.1)) = s + (c'[i].1 + c'[i].2.1) := w64 (by omega) (by omega)
        have w3 : IntKind.wrap .i64 (c'[i].1 + ((List.length c'[i].2.2 : Nat) : Int)) = c'[i].1 + ((List.length c'[i].2.2 : Nat) : Int) := w64 (by omega) (by omega)
        have w4 : IntKind.wrap .i64 (t + (c'[i].1 + ((List.length c'[i].2.2 : Nat) : Int))) = t + (c'[i].1 + ((List.length c'[i].2.2 : Nat) : Int)) := w64 (by omega) (by omega)
        rw [w1, w2, w3, w4]
        refine Ok.bind (Q := fun v => v = (s + (c'[i].1 + c'[i].2.1), t + (c'[i].1 + ((List.length c'[i].2.2 : Nat) : Int)), c', ((List.length c' : Nat) : Int), ((i : Nat) : Int), decide (120 < s + (c'[i].1 + c'[i].2.1) ∨ 120 < t + (c'[i].1 + ((List.length c'[i].2.2 : Nat) : Int))))) ?_ ?_
        · refine Ok.ite (fun h => Ok.mk ?_) fun h => Ok.mk ?_
          · have : 120 < s + (c'[i].1 + c'[i].2.1) := by simpa using h
            simp [this]
          · have : ¬ 120 < s + (c'[i].1 + c'[i].2.1) := by simpa using h
            simp [this]
        rintro _ rfl
        dsimp only
        refine Ok.ite (fun hb => Ok.mk ⟨?_, rfl⟩) fun hb => Ok.mk ⟨⟨rfl, rfl, i + 1, idx_succ hlen hlt, by omega, ?_, ?_, ?_, ?_⟩, ?_⟩
        · have : 120 < s + (c'[i].1 + c'[i].2.1) ∨ 120 < t + (c'[i].1 + ((List.length c'[i].2.2 : Nat) : Int)) := by simpa using hb
          omega
        · rw [src_take hlt, e4]
        · rw [tgt_take hlt, e5]
        · have : ¬ (120 < s + (c'[i].1 + c'[i].2.1) ∨ 120 < t + (c'[i].1 + ((List.length c'[i].2.2 : Nat) : Int))) := by simpa using hb
          dsimp only; omega
        · have : ¬ (120 < s + (c'[i].1 + c'[i].2.1) ∨ 120 < t + (c'[i].1 + ((List.length c'[i].2.2 : Nat) : Int))) := by simpa using hb
          dsimp only; omega
        · rw [idx_succ hlen hlt]; dsimp only; omega
    · have : i = c'.length := by
        have : ¬ ((i : Int) < ((List.length c' : Nat) : Int)) := by simpa using hc
        omega
      subst this
      rw [List.take_length] at e4 e5
      exact Ok.mk ⟨by omega, by omega, by rw [e4, e5]⟩
  · rintro (y | y) h
    · obtain ⟨h1, h2, rfl⟩ := h
      exact Ok.mk (by simp [lens, h1, h2])
    · obtain ⟨h1, rfl⟩ := h
      exact Ok.mk (by simp [lens, h1])
theorem i_Good_eq {B : Nat} {c : List Prt} (h : Sm B c) (hB : B ≤ 1099511627776) : i_GoodChange c = some (good c) := by
  unfold i_GoodChange
  refine Ok.eq (Ok.bind (i_good_loop (Nat.le_trans h.len hB)) ?_)
  rintro (y | b) hr
  · obtain ⟨rfl, hk⟩ := hr
    refine Ok.bind_eq (i_lengths_eq (Nat.le_trans h.len hB) (Nat.le_trans h.put hB) (okk_some hk) h.fit) (Ok.mk ?_)
    unfold good lens
    rw [hk]
    by_cases h1 : src y ≤ 120 <;> by_cases h2 : tgt y ≤ 120 <;> simp [h1, h2]
  · obtain ⟨rfl, hk⟩ := hr
    exact Ok.mk (by simp [good, hk])
def lensOf (c : List Prt) : Int × (Int × Bool) := if good c = true then (src c, tgt c, true) else (0, 0, false)
theorem good_spec {c : List Prt} (h : good c = true) : okk 0 c = true ∧ src c ≤ 120 ∧ tgt c ≤ 120 := by
  simp only [good, Bool.and_eq_true, decide_eq_true_eq] at h
  exact ⟨h.1.1, h.1.2, h.2⟩
theorem i_LengthsOf_eq {B : Nat} {c : List Prt} (h : Sm B c) (hB : B ≤ 1099511627776) : i_LengthsOf c = some (lensOf c) := by
  unfold i_LengthsOf lensOf
  rw [i_Good_eq h hB, Option.bind_some]
  cases hg : good c with
  | false => simp
  | true =>
    obtain ⟨h1, h2, h3⟩ := good_spec hg
    simp [i_lengths_eq (Nat.le_trans h.len hB) (Nat.le_trans h.put hB) (okk_some h1) h.fit, lens, h2, h3]
end Go.V.G

set_option linter.unusedVariables false
set_option linter.unusedSimpArgs false
set_option maxRecDepth 100000
namespace Go.V.G
open Go.V
theorem s_Good_eq {B : Nat} {c : List Prt} (h : Sm B c) (hB : B ≤ 1099511627776) : s_GoodChange c = some (good c) := by
  have hlen := Nat.le_trans h.len hB
  have hput := Nat.le_trans h.put hB
  unfold s_GoodChange
  refine Ok.eq (Ok.bind (Q := fun r => match r with
    | .inl _ => good c = true
    | .inr b => b = false ∧ good c = false) ?_ ?_)
  · refine Ok.loop (fun y => y.1 = c ∧ y.2.2.2.1 = c ∧ y.2.2.2.2.1 = ((List.length c : Nat) : Int) ∧ ∃ i : Nat, y.2.2.2.2.2 = ((i : Nat) : Int) ∧ i ≤ c.length ∧ y.2.1 = src (c.take i) ∧ y.2.2.1 = tgt (c.take i) ∧ y.2.1 ≤ 120 ∧ y.2.2.1 ≤ 120 ∧
        okk 0 c = okk (before c i) (c.drop i) ∧ ∀ p ∈ c.take i, Some1 p) (fun y => (((List.length c : Nat) : Int) - y.2.2.2.2.2).toNat)
      ⟨rfl, rfl, rfl, 0, rfl, Nat.zero_le _, by simp [src], by simp [tgt], by simp, by simp, by simp [before], fun p hp => by simp at hp⟩ ?_
    rintro ⟨c0, s, t, c', n, i'⟩ ⟨e1, e2, e3, i, e4, hi, e5, e6, h1, h2, hk, hs⟩
    dsimp only at e1 e2 e3 e4 e5 e6 h1 h2
    subst e1 e2 e3 e4
    unfold s_GoodChange_L1
    dsimp only
    refine Ok.ite (fun hc => ?_) fun hc => ?_
    · have hlt : i < c'.length := by simpa using hc
      have hmem : c'[i] ∈ c' := List.getElem_mem hlt
      have hpf := h.fit _ hmem
      have hpp := psum_mem hmem
      refine Ok.yes (by simp) (Ok.bind_eq (r := c'[i]) (by simp [List.getElem?_eq_getElem hlt]) (Ok.bind_eq (s_kind_eq _ _ _) ?_))
      rw [okk_drop hlt] at hk
      have n1 := src_nonneg hs
      have n2 := tgt_nonneg hs
      have a1 := src_at hlt
      have a2 := tgt_at hlt
      have bad : (kd c'[i] = 0 ∨ kd c'[i] = before c' i ∨ 120 < c'[i].1 ∨ 120 < c'[i].2.1 ∨ 120 < c'[i].2.2.length) → good c' = false := by
        intro hb
        cases hg : good c' with
        | false => rfl
        | true =>
          exfalso
          obtain ⟨g1, g2, g3⟩ := good_spec hg
          have q := okk_some g1
          have n3 := src_nonneg (l := c'.drop (i + 1)) fun p h => q p (mem_drop h)
          have n4 := tgt_nonneg (l := c'.drop (i + 1)) fun p h => q p (mem_drop h)
          have p1 := q _ hmem
          have k0 := p1.k; have d0 := p1.d
          rw [g1] at hk
          have hk' := hk.symm
          simp only [Bool.and_eq_true, Bool.not_eq_true', decide_eq_false_iff_not] at hk'
          rcases hb with hb | hb | hb | hb | hb
          · exact p1.ne hb
          · exact hk'.1.2 hb
          · omega
          · omega
          · omega
      refine Ok.bind (Q := fun v => ∃ b : Bool, v = (c', s, t, c', ((List.length c' : Nat) : Int), ((i : Nat) : Int), b, c'[i].1, c'[i].2.1, c'[i].2.2) ∧
          (b = true → kd c'[i] = 0 ∨ kd c'[i] = before c' i ∨ 120 < c'[i].1 ∨ 120 < c'[i].2.1 ∨ 120 < c'[i].2.2.length) ∧
          (b = false → kd c'[i] ≠ 0 ∧ kd c'[i] ≠ before c' i ∧ c'[i].1 ≤ 120 ∧ c'[i].2.1 ≤ 120 ∧ c'[i].2.2.length ≤ 120)) ?_ ?_
      · refine Ok.ite (fun h0 => ?_) fun h0 => ?_
        · have h0' : kd c'[i] = 0 := by simpa using h0
          exact Ok.mk ⟨true, rfl, fun _ => .inl h0', fun h => by cases h⟩
        · have h0' : ¬ kd c'[i] = 0 := by simpa using h0
          refine Ok.ite (fun hp => ?_) fun hp => ?_
          · have hp' : 0 < i := by simpa using hp
            have e : IntKind.wrap .i64 ((i : Int) - 1) = ((i - 1 : Nat) : Int) := by rw [w64 (by omega) (by omega)]; omega
            have hl1 : i - 1 < c'.length := by omega
            have hne : ¬ i = 0 := by omega
            have hb : before c' i = kd c'[i - 1] := by simp [before, hne, List.getElem?_eq_getElem hl1]
            refine Ok.yes (by simp [e]) (Ok.bind_eq (r := c'[i - 1]) (by simp [e, List.getElem?_eq_getElem hl1]) (Ok.bind_eq (s_kind_eq _ _ _) ?_))
            rw [hb]
            refine Ok.ite (fun hq => ?_) fun hq => ?_
            · have hq' : kd c'[i - 1] = kd c'[i] := by simpa using hq
              exact Ok.mk ⟨true, rfl, fun _ => .inr (.inl hq'.symm), fun h => by cases h⟩
            have hq' : ¬ kd c'[i - 1] = kd c'[i] := by simpa using hq
            refine Ok.ite (fun hq1 => Ok.mk ⟨true, rfl, fun _ => .inr (.inr (.inl (by simpa using hq1))), fun h => by cases h⟩) fun hq1 => ?_
            refine Ok.ite (fun hq2 => Ok.mk ⟨true, rfl, fun _ => .inr (.inr (.inr (.inl (by simpa using hq2)))), fun h => by cases h⟩) fun hq2 => ?_
            refine Ok.mk ⟨_, rfl, fun hq3 => .inr (.inr (.inr (.inr ?_))), fun hq3 => ⟨h0', fun h => hq' h.symm, by simpa using hq1, by simpa using hq2, ?_⟩⟩
            · simp only [decide_eq_true_eq] at hq3; omega
            · simp only [decide_eq_false_iff_not] at hq3; omega
          · have hi0 : i = 0 := by
              have : ¬ (0 : Int) < (i : Int) := by simpa using hp
              omega
            subst hi0
            have hb : before c' 0 = 0 := rfl
            rw [hb]
            refine Ok.ite (fun hq1 => Ok.mk ⟨true, rfl, fun _ => .inr (.inr (.inl (by simpa using hq1))), fun h => by cases h⟩) fun hq1 => ?_
            refine Ok.ite (fun hq2 => Ok.mk ⟨true, rfl, fun _ => .inr (.inr (.inr (.inl (by simpa using hq2)))), fun h => by cases h⟩) fun hq2 => ?_
            refine Ok.mk ⟨_, rfl, fun hq3 => .inr (.inr (.inr (.inr ?_))), fun hq3 => ⟨h0', h0', by simpa using hq1, by simpa using hq2, ?_⟩⟩
            · simp only [decide_eq_true_eq] at hq3; omega
            · simp only [decide_eq_false_iff_not] at hq3; omega
      rintro _ ⟨b, rfl, hb1, hb2⟩
      dsimp only
      cases b with
      | true => exact Ok.yes rfl (Ok.mk ⟨rfl, bad (hb1 rfl)⟩)
      | false =>
        refine Ok.no (by simp) ?_
        obtain ⟨g1, g2, g3, g4, g5⟩ := hb2 rfl
        have p1 := some1_of g1
        have k0 := p1.k; have d0 := p1.d
        have w1 : IntKind.wrap .i64 (c'[i].1 + c'[i].2.1) = c'[i].1 + c'[i].2.1 := w64 (by omega) (by omega)
        have w2 : IntKind.wrap .i64 (s + (c'[i].1 + c'[i].2.1)) = s + (c'[i].1 + c'[i].2.1) := w64 (by omega) (by omega)
        have w3 : IntKind.wrap .i64 (c'[i].1 + ((List.length c'[i].2.2 : Nat) : Int)) = c'[i].1 + ((List.length c'[i].2.2 : Nat) : Int) := w64 (by omega) (by omega)
        have w4 : IntKind.wrap .i64 (t + (c'[i].1 + ((List.length c'[i].2.2 : Nat) : Int))) = t + (c'[i].1 + ((List.length c'[i].2.2 : Nat) : Int)) := w64 (by omega) (by omega)
        rw [w1, w2, w3, w4]
        have over : (120 < s + (c'[i].1 + c'[i].2.1) ∨ 120 < t + (c'[i].1 + ((List.length c'[i].2.2 : Nat) : Int))) → good c' = false := by
          intro ho
          cases hg : good c' with
          | false => rfl
          | true =>
            exfalso
            obtain ⟨q1, q2, q3⟩ := good_spec hg
            have q := okk_some q1
            have n3 := src_nonneg (l := c'.drop (i + 1)) fun p h => q p (mem_drop h)
            have n4 := tgt_nonneg (l := c'.drop (i + 1)) fun p h => q p (mem_drop h)
            omega
        refine Ok.bind (Q := fun v => v = (c', s + (c'[i].1 + c'[i].2.1), t + (c'[i].1 + ((List.length c'[i].2.2 : Nat) : Int)), c', ((List.length c' : Nat) : Int), ((i : Nat) : Int), decide (120 < s + (c'[i].1 + c'[i].2.1) ∨ 120 < t + (c'[i].1 + ((List.length c'[i].2.2 : Nat) : Int))))) ?_ ?_
        · refine Ok.ite (fun h => Ok.mk ?_) fun h => Ok.mk ?_
          · have : 120 < s + (c'[i].1 + c'[i].2.1) := by simpa using h
            simp [this]
          · have : ¬ 120 < s + (c'[i].1 + c'[i].2.1) := by simpa using h
            simp [this]
        rintro _ rfl
        dsimp only
        refine Ok.ite (fun hb => Ok.mk ⟨rfl, over (by simpa using hb)⟩) fun hb => Ok.mk ⟨⟨rfl, rfl, rfl, i + 1, idx_succ hlen hlt, by omega, ?_, ?_, ?_, ?_, ?_, ?_⟩, ?_⟩
        · rw [src_take hlt, e5]
        · rw [tgt_take hlt, e6]
        · have : ¬ (120 < s + (c'[i].1 + c'[i].2.1) ∨ 120 < t + (c'[i].1 + ((List.length c'[i].2.2 : Nat) : Int))) := by simpa using hb
          dsimp only; omega
        · have : ¬ (120 < s + (c'[i].1 + c'[i].2.1) ∨ 120 < t + (c'[i].1 + ((List.length c'[i].2.2 : Nat) : Int))) := by simpa using hb
          dsimp only; omega
        · rw [hk, before_succ hlt]; simp [g1, g2]
        · intro p hp
          rw [List.take_succ_eq_append_getElem hlt] at hp
          rcases List.mem_append.1 hp with hp | hp
          · exact hs p hp
          · rw [List.mem_singleton.1 hp]; exact p1
        · rw [idx_succ hlen hlt]; dsimp only; omega
    · have : i = c'.length := by
        have : ¬ ((i : Int) < ((List.length c' : Nat) : Int)) := by simpa using hc
        omega
      subst this
      rw [List.take_length] at e5 e6
      refine Ok.mk ?_
      unfold good
      rw [hk]
      simp [okk]
      omega
  · rintro (y | b) hr
    · exact Ok.mk hr.symm
    · obtain ⟨rfl, hk⟩ := hr
      exact Ok.mk hk.symm
theorem s_Source_eq {B : Nat} {c : List Prt} (h : Sm B c) (hB : B ≤ 1099511627776) (hs : ∀ p ∈ c, Some1 p) (hle : src c ≤ 1000000) : s_l1Source c = some (src c) := by
  have hlen := Nat.le_trans h.len hB
  unfold s_l1Source
  have : loopG s_l1Source_L1 (0, c, ((List.length c : Nat) : Int), 0) = some (src c) := by
    have := loop_run s_l1Source_L1 (fun k => (src (c.take k), c, ((List.length c : Nat) : Int), (k : Int))) c.length (src c) (by
      intro i hlt
      have n1 := src_nonneg (l := c.take i) fun p h => hs p (mem_take h)
      have n3 := src_nonneg (l := c.drop (i + 1)) fun p h => hs p (mem_drop h)
      have p1 := hs _ (List.getElem_mem hlt)
      have k0 := p1.k; have d0 := p1.d
      have a1 := src_at hlt
      have w1 : IntKind.wrap .i64 (c[i].1 + c[i].2.1) = c[i].1 + c[i].2.1 := w64 (by omega) (by omega)
      have w2 : IntKind.wrap .i64 (src (c.take i) + (c[i].1 + c[i].2.1)) = src (c.take i) + (c[i].1 + c[i].2.1) := w64 (by omega) (by omega)
      have hi : ((i : Nat) : Int) < ((List.length c : Nat) : Int) := by omega
      simp [s_l1Source_L1, hi, List.getElem?_eq_getElem hlt, w1, w2, src_take hlt, idx_succ hlen hlt]) (by simp [s_l1Source_L1])
    simpa [src] using this
  rw [this]; rfl
theorem s_Target_eq {B : Nat} {c : List Prt} (h : Sm B c) (hB : B ≤ 1099511627776) (hs : ∀ p ∈ c, Some1 p) (hle : tgt c ≤ 1000000) : s_l1Target c = some (tgt c) := by
  have hlen := Nat.le_trans h.len hB
  unfold s_l1Target
  have : loopG s_l1Target_L1 (0, c, ((List.length c : Nat) : Int), 0) = some (tgt c) := by
    have := loop_run s_l1Target_L1 (fun k => (tgt (c.take k), c, ((List.length c : Nat) : Int), (k : Int))) c.length (tgt c) (by
      intro i hlt
      have n1 := tgt_nonneg (l := c.take i) fun p h => hs p (mem_take h)
      have n3 := tgt_nonneg (l := c.drop (i + 1)) fun p h => hs p (mem_drop h)
      have p1 := hs _ (List.getElem_mem hlt)
      have k0 := p1.k
      have a1 := tgt_at hlt
      have w1 : IntKind.wrap .i64 (c[i].1 + ((List.length c[i].2.2 : Nat) : Int)) = c[i].1 + ((List.length c[i].2.2 : Nat) : Int) := w64 (by omega) (by omega)
      have w2 : IntKind.wrap .i64 (tgt (c.take i) + (c[i].1 + ((List.length c[i].2.2 : Nat) : Int))) = tgt (c.take i) + (c[i].1 + ((List.length c[i].2.2 : Nat) : Int)) := w64 (by omega) (by omega)
      have hi : ((i : Nat) : Int) < ((List.length c : Nat) : Int) := by omega
      simp [s_l1Target_L1, hi, List.getElem?_eq_getElem hlt, w1, w2, tgt_take hlt, idx_succ hlen hlt]) (by simp [s_l1Target_L1])
    simpa [tgt] using this
  rw [this]; rfl
theorem s_In_eq (n lo hi : Int) : s_l1In n lo hi = some (decide (lo ≤ n ∧ n ≤ hi)) := by
  unfold s_l1In
  by_cases h1 : lo ≤ n <;> simp [h1]
theorem i_within_eq (n lo hi : Int) : i_within n lo hi = some (decide (lo ≤ n ∧ n ≤ hi)) := by
  unfold i_within
  by_cases h1 : lo ≤ n <;> simp [h1]
end Go.V.G
