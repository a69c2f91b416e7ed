import GoSem.Dispatch
import Derived.Calls
import Derived.IntWalk
namespace Go.V
inductive Ty where
  | int (k : IntKind) | bool | str | unit
  | pair (a b : Ty)
  | sl (o : Bool) (e : TypeId) (r : Ty)
  | pt (t : Ty)
  deriving DecidableEq
@[reducible] def Ty.D : Ty → Type
  | .int _ => Int
  | .bool => Bool
  | .str => List UInt8
  | .unit => Unit
  | .pair a b => a.D × b.D
  | .sl _ _ r => List r.D
  | .pt t => Option t.D
def Ty.size : Ty → Nat
  | .unit => 0
  | .pair a b => a.size + b.size
  | _ => 1
def Ty.zero : (t : Ty) → t.D
  | .int _ => (0 : Int)
  | .bool => false
  | .str => ([] : List UInt8)
  | .unit => ()
  | .pair a b => (a.zero, b.zero)
  | .sl _ _ _ => []
  | .pt _ => none
def Ty.ro : Ty → Bool
  | .pair a b => a.ro && b.ro
  | .sl o _ _ => !o
  | _ => true
def Ty.deep : Ty → Bool
  | .pair a b => a.deep && b.deep
  | .sl o _ r => o && r.deep
  | _ => true
def Ty.frz : Ty → Ty
  | .pair a b => .pair a.frz b.frz
  | .sl _ e r => .sl false e r.frz
  | t => t
theorem Ty.frz_D : (t : Ty) → t.frz.D = t.D
  | .int _ | .bool | .str | .unit | .pt _ => rfl
  | .pair a b => by
    have h1 := frz_D a; have h2 := frz_D b
    show (a.frz.D × b.frz.D) = (a.D × b.D)
    rw [h1, h2]
  | .sl _ _ r => by
    have h := frz_D r
    show List r.frz.D = List r.D
    rw [h]
def toFrz (t : Ty) (x : t.D) : t.frz.D := cast (Ty.frz_D t).symm x
def cellAt : (t : Ty) → t.D → Nat → Option ((u : Ty) × u.D)
  | .pair a b, (x, y), j => if j < a.size then cellAt a x j else cellAt b y (j - a.size)
  | .unit, _, _ => none
  | t, x, 0 => some ⟨t, x⟩
  | _, _, _ + 1 => none
def setCell : (t : Ty) → t.D → Nat → (u : Ty) → u.D → Option t.D
  | .pair a b, (x, y), j, u, z =>
    if j < a.size then (setCell a x j u z).map fun x' => (x', y) else (setCell b y (j - a.size) u z).map fun y' => (x, y')
  | .unit, _, _, _, _ => none
  | t, _, 0, u, z => if h : u = t then some (h ▸ z) else none
  | _, _, _ + 1, _, _ => none
abbrev Steps := List (Nat × Nat)
structure Own where
  e : TypeId
  r : Ty
  xs : List r.D
inductive Leaf where
  | v (t : Ty) (x : t.D)
  | vw (k : Nat) (st : Steps) (win : Option (Nat × Nat))
  | qn (e : Bool)
  | nil
  | no
inductive S1 where
  | one (l : Leaf)
  | ag (ls : List Leaf)
  | pl (k off : Nat)
  | el (k : Nat) (st : Steps)
  | rp (t : Ty) (x : t.D) (off : Nat)
  | fv (f : FuncId) (cs : List (Nat × Nat))
inductive SV where
  | s (x : S1)
  | tu (xs : List S1)
  | un
  | no
structure St where
  sl : Nat → SV
  ms : Nat → Option Nat
  mc : Nat → Nat → Leaf
  ow : Nat → Option Own
inductive Kl where
  | all (k : Nat) | deep (k : Nat) | m (k : Nat)
def Kl.okV : Kl → Nat → Steps → Bool
  | .all k, k', _ => !(k' == k)
  | .deep k, k', st => !(k' == k) || st.isEmpty
  | .m _, _, _ => true
def Kl.okE : Kl → Nat → Steps → Bool
  | .all k, k', _ => !(k' == k)
  | .deep k, k', st => !(k' == k) || decide (st.length ≤ 1)
  | .m _, _, _ => true
def Kl.okM : Kl → Nat → Bool
  | .m k, k' => !(k' == k)
  | _, _ => true
def Leaf.kp (c : List Kl) : Leaf → Leaf
  | .vw k st win => if c.all (fun x => x.okV k st) then .vw k st win else .no
  | l => l
def S1.kp (c : List Kl) : S1 → S1
  | .one l => .one (l.kp c)
  | .ag ls => .ag (ls.map (Leaf.kp c))
  | .pl k off => if c.all (fun x => x.okM k) then .pl k off else .one .no
  | .el k st => if c.all (fun x => x.okE k st) then .el k st else .one .no
  | .rp t x off => .rp t x off
  | .fv f cs => if c.all (fun x => cs.all fun p => x.okM p.1) then .fv f cs else .one .no
def SV.kp (c : List Kl) : SV → SV
  | .s x => .s (x.kp c)
  | .tu xs => .tu (xs.map (S1.kp c))
  | .un => .un
  | .no => .no
def St.kp (c : List Kl) (S : St) : St :=
  match c with
  | [] => S
  | c => ⟨fun i => (S.sl i).kp c, S.ms, fun k i => (S.mc k i).kp c, S.ow⟩
inductive U where
  | ow (k : Nat) (o : Option Own)
  | mc (k off : Nat) (l : Leaf)
  | ms (k : Nat) (row : List Leaf)
def St.up (S : St) : U → St
  | .ow k o => ⟨S.sl, S.ms, S.mc, fun i => if i = k then o else S.ow i⟩
  | .mc k off l => ⟨S.sl, S.ms, fun i j => if i = k then (if j = off then l else S.mc i j) else S.mc i j, S.ow⟩
  | .ms k row => ⟨S.sl, fun i => if i = k then some row.length else S.ms i, fun i j => if i = k then row.getD j .no else S.mc i j, S.ow⟩
def St.ups (S : St) : List U → St
  | [] => S
  | u :: us => (S.up u).ups us
def St.put (S : St) (d : Nat) (x : SV) : St := ⟨fun i => if i = d then x else S.sl i, S.ms, S.mc, S.ow⟩
def St.putO (S : St) (d : Option Nat) (x : SV) : St := match d with | some d => S.put d x | none => S
structure Out where
  x : SV
  ks : List Kl
  us : List U
def St.app (S : St) (d : Option Nat) (o : Out) : St := ((S.kp o.ks).ups o.us).putO d o.x
inductive Tr (α : Type) : Type 1 where
  | ret (a : α)
  | fail
  | br (c : Bool) (t e : Tr α)
  | get (β : Type) (o : Option β) (f : β → Tr α)
  | alt (β γ : Type) (s : β ⊕ γ) (f : β → Tr α) (g : γ → Tr α)
  | rdO (k : Nat) (f : Option Own → Tr α)
  | rdC (k off : Nat) (f : Leaf → Tr α)
  | rdM (k : Nat) (f : Option Nat → Tr α)
def Tr.bind {α β : Type} : Tr α → (α → Tr β) → Tr β
  | .ret a, f => f a
  | .fail, _ => .fail
  | .br c t e, f => .br c (t.bind f) (e.bind f)
  | .get γ o g, f => .get γ o fun b => (g b).bind f
  | .alt γ δ s g h, f => .alt γ δ s (fun b => (g b).bind f) (fun b => (h b).bind f)
  | .rdO k g, f => .rdO k fun b => (g b).bind f
  | .rdC k off g, f => .rdC k off fun b => (g b).bind f
  | .rdM k g, f => .rdM k fun b => (g b).bind f
inductive Lg where
  | o (k : Nat) | c (k off : Nat) (l : Leaf) | m (k : Nat)
def Tr.at {α : Type} (S : St) : Tr α → List Lg → Tr (α × List Lg)
  | .ret a, g => .ret (a, g)
  | .fail, _ => .fail
  | .br c t e, g => .br c (t.at S g) (e.at S g)
  | .get γ o f, g => .get γ o fun b => (f b).at S g
  | .alt γ δ s f h, g => .alt γ δ s (fun b => (f b).at S g) (fun b => (h b).at S g)
  | .rdO k f, g => (f (S.ow k)).at S (.o k :: g)
  | .rdC k off f, g => (f (S.mc k off)).at S (.c k off (S.mc k off) :: g)
  | .rdM k f, g => (f (S.ms k)).at S (.m k :: g)
def Tr.run {α : Type} : Tr α → Option α
  | .ret a => some a
  | .fail => none
  | .br c t e => if c = true then t.run else e.run
  | .get _ o f => match o with
    | some b => (f b).run
    | none => none
  | .alt _ _ s f g => match s with
    | .inl b => (f b).run
    | .inr b => (g b).run
  | .rdO .. | .rdC .. | .rdM .. => none
abbrev Tr.iff {α : Type} (c : Bool) (t : Tr α) : Tr α := .br c t .fail
abbrev Tr.opt {α : Type} (o : Option α) : Tr α := match o with | some a => .ret a | none => .fail
inductive TI where
  | cell (t : Ty)
  | slice (e : TypeId) (ts : List Ty) (bytes : Nat)
  | struct (fs : List (Nat × Nat × Bool)) (row : List Ty) (eq : Bool)
  | ptr (e : TypeId)
  | other
def rowTy : List Ty → Ty
  | [] => .unit
  | [t] => t
  | t :: u :: ts => .pair t (rowTy (u :: ts))
def TI.cells : TI → Option (List Ty)
  | .cell t => some [t]
  | .slice e ts _ => some [.sl true e (rowTy ts)]
  | .struct _ row _ => some row
  | _ => none
def TI.isAgg : TI → Bool
  | .struct .. => true
  | _ => false
def getT : (t : Ty) → t.D → Steps → Tr ((u : Ty) × u.D)
  | t, x, [] => .ret ⟨t, x⟩
  | .sl true _ r, xs, (i, j) :: ps => .get r.D ((xs : List r.D)[i]?) fun row => match cellAt r row j with
      | some c => getT c.1 c.2 ps
      | none => .fail
  | _, _, _ :: _ => .fail
def setT : (t : Ty) → t.D → Steps → (u : Ty) → u.D → Tr t.D
  | t, _, [], u, z => if h : u = t then .ret (h ▸ z) else .fail
  | .sl true _ r, xs, (i, j) :: ps, u, z => .get r.D ((xs : List r.D)[i]?) fun row => match cellAt r row j with
      | some c => (setT c.1 c.2 ps u z).bind fun y => match setCell r row j c.1 y with
        | some row' => .ret ((xs : List r.D).set i row')
        | none => .fail
      | none => .fail
  | _, _, _ :: _, _, _ => .fail
def viewT (k : Nat) (st : Steps) (win : Option (Nat × Nat)) : Tr Own :=
  .rdO k fun o => match o with
    | some o => (getT (.sl true o.e o.r) o.xs st).bind fun c => match c with
      | ⟨.sl true e r, ys⟩ => match win with
        | none => .ret ⟨e, r, ys⟩
        | some (lo, n) => .ret ⟨e, r, ((ys : List r.D).drop lo).take n⟩
      | _ => .fail
    | none => .fail
def leafOf (k : Nat) (st : Steps) : (t : Ty) → t.D → Leaf
  | .sl true _ _, _ => .vw k st none
  | t, x => .v t x
def bump : Steps → Nat → Steps
  | [], _ => []
  | [(i, j)], n => [(i, j + n)]
  | p :: q :: ps, n => p :: bump (q :: ps) n
def ldCell : S1 → Nat → Tr Leaf
  | .pl k off, n => .rdM k fun m => match m with
    | some m => if off + n < m then .rdC k (off + n) fun l => match l with
      | .no => .fail
      | l => .ret l else .fail
    | none => .fail
  | .el k st, n => .rdO k fun o => match o with
    | some o => (getT (.sl true o.e o.r) o.xs (bump st n)).bind fun c => .ret (leafOf k (bump st n) c.1 c.2)
    | none => .fail
  | .rp t x off, n => match cellAt t x (off + n) with
    | some c => .ret (.v c.1 c.2)
    | none => .fail
  | _, _ => .fail
def ldCells (a : S1) : Nat → Nat → Tr (List Leaf)
  | 0, _ => .ret []
  | n + 1, i => (ldCell a i).bind fun l => (ldCells a n (i + 1)).bind fun ls => .ret (l :: ls)
def absorb (t : Ty) : Leaf → Tr (t.D × List Nat)
  | .v u x => if h : u = t then .ret (h ▸ x, []) else .fail
  | .nil => match t with
    | .sl _ _ _ => .ret ([], [])
    | _ => .fail
  | .vw k [] win => (viewT k [] win).bind fun o => if h : Ty.sl true o.e o.r = t then .ret (h ▸ o.xs, [k]) else .fail
  | _ => .fail
def absorbRow : (ts : List Ty) → List Leaf → Tr ((rowTy ts).D × List Nat)
  | [], [] => .ret ((), [])
  | [t], [l] => absorb t l
  | t :: u :: ts, l :: ls => (absorb t l).bind fun x => (absorbRow (u :: ts) ls).bind fun y => .ret ((x.1, y.1), x.2 ++ y.2)
  | _, _ => .fail
def gone (ks : List Nat) : List Kl := ks.map .all
def goneU (ks : List Nat) : List U := ks.map fun k => .ow k none
def unlike : List Nat → Bool
  | [] => true
  | k :: ks => !(ks.contains k) && unlike ks
def stEls (o : Own) (st : Steps) : List Leaf → Nat → Tr (Own × List Nat)
  | [], _ => .ret (o, [])
  | l :: ls, n => (getT (.sl true o.e o.r) o.xs (bump st n)).bind fun c => (absorb c.1 l).bind fun z =>
      (setT (.sl true o.e o.r) o.xs (bump st n) c.1 z.1).bind fun ys => (stEls ⟨o.e, o.r, ys⟩ st ls (n + 1)).bind fun r => .ret (r.1, z.2 ++ r.2)
def stPls (k : Nat) : List Leaf → Nat → List U
  | [], _ => []
  | l :: ls, n => .mc k n l :: stPls k ls (n + 1)
def stSelf (k : Nat) (st : Steps) (lo n : Nat) : Tr (List Kl × List U) := .rdO k fun o => match o with
  | some o => (getT (.sl true o.e o.r) o.xs st).bind fun c => match c with
    | ⟨.sl true e r, ys⟩ => (setT (.sl true o.e o.r) o.xs st (.sl true e r) ((List.drop lo ys).take n)).bind fun zs => .ret ([.deep k], [.ow k (some ⟨o.e, o.r, zs⟩)])
    | _ => .fail
  | none => .fail
def selfOf (k : Nat) (st : Steps) : List Leaf → Option (Nat × Nat)
  | [.vw k' st' (some w)] => if k' = k ∧ st' = st then some w else none
  | _ => none
def stCells : S1 → List Leaf → Tr (List Kl × List U)
  | .pl k off, ls => .rdM k fun m => match m with
      | some m => if off + ls.length ≤ m then .ret ([], stPls k ls off) else .fail
      | none => .fail
  | .el k st, ls => match selfOf k st ls with
    | some w => stSelf k st w.1 w.2
    | none => .rdO k fun o => match o with
      | some o => (stEls o st ls 0).bind fun r => if r.2.contains k || !unlike r.2 then .fail else
          .ret (.deep k :: gone r.2, .ow k (some r.1) :: goneU r.2)
      | none => .fail
  | _, _ => .fail
end Go.V

namespace Go.V
abbrev ALeaf := (t : Ty) × t.D
inductive A1 where
  | one (l : ALeaf)
  | ag (ls : List ALeaf)
  | pl (m off : Nat)
  | rp (t : Ty) (x : t.D) (off : Nat)
  | fv (f : FuncId) (cs : List (Nat × Nat))
structure Res where
  val : List A1
  rows : List (List ALeaf)
  lent : List ((Nat × Nat) × ALeaf)
structure Env where
  ti : TypeId → TI
  mv : FuncId → List Nat
  fr : FuncId → List (List Ty)
  fx : List Nat
  ca : FuncId → List A1 → List (List ALeaf) → Tr Res
  hn : List (Nat × List Ty)
def constSV : Value → SV
  | .int k n => .s (.one (.v (.int k) n))
  | .bool b => .s (.one (.v .bool b))
  | .string s => .s (.one (.v .str s.data.toList))
  | .slice none 0 0 => .s (.one .nil)
  | _ => .no
def opnd (S : St) : Operand → SV
  | .tmp t => S.sl t
  | .const v => constSV v
  | .func f => .s (.fv f [])
  | _ => .no
def b2 (b : Bool) : Leaf := .v .bool b
def vbin (op : BinOp) : Leaf → Leaf → Tr Leaf
  | .v (.int k) a, .v (.int k') b =>
    match op with
    | .shl => .iff (decide ((0 : Int) ≤ b)) (.ret (.v (.int k) (k.wrap ((a : Int) * 2 ^ (min (Int.toNat b) k.bits)))))
    | .shr => .iff (decide ((0 : Int) ≤ b)) (.ret (.v (.int k) (Int.fdiv a (2 ^ (min (Int.toNat b) k.bits)))))
    | op => if k = k' then match op with
      | .add => .ret (.v (.int k) (k.wrap ((a : Int) + b)))
      | .sub => .ret (.v (.int k) (k.wrap ((a : Int) - b)))
      | .mul => .ret (.v (.int k) (k.wrap ((a : Int) * b)))
      | .quo => .iff (decide (¬ (b : Int) = 0)) (.ret (.v (.int k) (k.wrap (Int.tdiv a b))))
      | .rem => .iff (decide (¬ (b : Int) = 0)) (.ret (.v (.int k) (Int.tmod a b)))
      | .and => .ret (.v (.int k) (k.wrap ((BitVec.ofInt k.bits a &&& BitVec.ofInt k.bits b).toNat : Int)))
      | .or => .ret (.v (.int k) (k.wrap ((BitVec.ofInt k.bits a ||| BitVec.ofInt k.bits b).toNat : Int)))
      | .xor => .ret (.v (.int k) (k.wrap ((BitVec.ofInt k.bits a ^^^ BitVec.ofInt k.bits b).toNat : Int)))
      | .andNot => .ret (.v (.int k) (k.wrap ((BitVec.ofInt k.bits a &&& ~~~ BitVec.ofInt k.bits b).toNat : Int)))
      | .eql => .ret (b2 (decide ((a : Int) = b)))
      | .neq => .ret (b2 (decide (¬ (a : Int) = b)))
      | .lss => .ret (b2 (decide ((a : Int) < b)))
      | .leq => .ret (b2 (decide ((a : Int) ≤ b)))
      | .gtr => .ret (b2 (decide ((b : Int) < a)))
      | .geq => .ret (b2 (decide ((b : Int) ≤ a)))
      | _ => .fail
      else .fail
  | .v .bool a, .v .bool b =>
    match op with
    | .eql => .ret (b2 ((a : Bool) == b))
    | .neq => .ret (b2 ((a : Bool) != b))
    | _ => .fail
  | .v .str a, .v .str b =>
    match op with
    | .add => .iff (decide (((a : List UInt8).length + (b : List UInt8).length : Nat) ≤ 9223372036854775807)) (.ret (.v .str ((a : List UInt8) ++ b)))
    | .eql => .ret (b2 ((a : List UInt8) == b))
    | .neq => .ret (b2 (!((a : List UInt8) == b)))
    | .lss => .ret (b2 (Op.bytesLess a b))
    | .leq => .ret (b2 (Op.bytesLess a b || ((a : List UInt8) == b)))
    | .gtr => .ret (b2 (!(Op.bytesLess a b || ((a : List UInt8) == b))))
    | .geq => .ret (b2 (!(Op.bytesLess a b)))
    | _ => .fail
  | _, _ => .fail
def nilT : Leaf → Tr Leaf
  | .nil => .ret (b2 true)
  | .v (.sl _ _ _) xs => .ret (.qn (List.isEmpty xs))
  | .vw k st win => (viewT k st win).bind fun o => .ret (.qn (List.isEmpty o.xs))
  | _ => .fail
def aggEq : List Ty → List Leaf → List Leaf → Option Bool
  | [], [], [] => some true
  | .int _ :: ts, .v (.int k) a :: x, .v (.int k') b :: y => if k = k' then (aggEq ts x y).map (fun r => decide ((a : Int) = b) && r) else none
  | .bool :: ts, .v .bool a :: x, .v .bool b :: y => (aggEq ts x y).map (fun r => ((a : Bool) == b) && r)
  | .str :: ts, .v .str a :: x, .v .str b :: y => (aggEq ts x y).map (fun r => ((a : List UInt8) == b) && r)
  | _, _, _ => none
def vun (op : UnOp) : Leaf → Tr Leaf
  | .v (.int k) a => match op with
    | .neg => .ret (.v (.int k) (k.wrap (0 - (a : Int))))
    | .xor => .ret (.v (.int k) (k.wrap ((BitVec.ofInt k.bits (if k.signed then -1 else k.max) ^^^ BitVec.ofInt k.bits a).toNat : Int)))
    | _ => .fail
  | .v .bool b => match op with
    | .not => .ret (.v .bool (!(b : Bool)))
    | _ => .fail
  | _ => .fail
def bytesOf (s : List UInt8) : List Int := s.map fun b => (b.toNat : Int)
def textOf (xs : List Int) : List UInt8 := xs.map fun n => UInt8.ofNat n.toNat
def dataT : Leaf → Tr Own
  | .v (.sl _ e r) xs => .ret ⟨e, r, xs⟩
  | .vw k st win => viewT k st win
  | _ => .fail
def TI.isStr : TI → Bool
  | .cell .str => true
  | _ => false
def TI.isSl : TI → Bool
  | .slice .. => true
  | _ => false
def TI.isSlOf (n : Nat) : TI → Bool
  | .slice _ ts _ => ts.length == n
  | _ => false
def lenT (t : TI) : Leaf → Tr Nat
  | .v .str s => if t.isStr then .ret (List.length s) else .fail
  | .v (.sl _ _ _) xs => if t.isSl then .ret (List.length xs) else .fail
  | .vw k st win => if t.isSl then (viewT k st win).bind fun o => .ret o.xs.length else .fail
  | .nil => if t.isSl then .ret 0 else .fail
  | _ => .fail
def vInt (n : Nat) : SV := .s (.one (.v (.int .i64) (n : Int)))
abbrev okOut (x : SV) : Tr Out := .ret ⟨x, [], []⟩
abbrev kd (d c : Nat) : Nat := d * 1024 + c
def cutWin (win : Option (Nat × Nat)) (lo n : Nat) : Option (Nat × Nat) :=
  match win with
  | none => some (lo, n)
  | some (l, _) => some (l + lo, n)
def winLo (win : Option (Nat × Nat)) : Nat := match win with | none => 0 | some (lo, _) => lo
def bound : Option SV → Nat → Tr Int
  | none, d => .ret d
  | some (.s (.one (.v (.int _) n))), _ => .ret n
  | _, _ => .fail
def boundsT (len : Nat) (lo hi mx : Option SV) (f : Nat → Nat → Tr SV) : Tr SV :=
  (bound lo 0).bind fun l => (bound hi len).bind fun h => (bound mx len).bind fun m =>
    .iff (mx.isNone || hi.isSome) <| .iff (decide (0 ≤ l)) <| .iff (decide (l ≤ h)) <| .iff (decide (h ≤ m)) <| .iff (decide (m ≤ (len : Int))) <| f l.toNat (h.toNat - l.toNat)
def sliceT (t : TI) (x : Leaf) (lo hi mx : Option SV) : Tr SV :=
  match x with
  | .v .str s => if t.isStr && mx.isNone then boundsT (List.length s) lo hi mx fun l n => .ret (.s (.one (.v .str (((s : List UInt8).drop l).take n)))) else .fail
  | .v (.sl false e r) xs => if t.isSlOf r.size then boundsT (List.length xs) lo hi mx fun l n => .ret (.s (.one (.v (.sl false e r) (((xs : List r.D).drop l).take n)))) else .fail
  | .vw k st win => (viewT k st win).bind fun o => if t.isSlOf o.r.size then boundsT o.xs.length lo hi mx fun l n => .ret (.s (.one (.vw k st (cutWin win l n)))) else .fail
  | .nil => if t.isSl then boundsT 0 lo hi mx fun _ _ => .ret (.s (.one .nil)) else .fail
  | _ => .fail
def roomFor (n bytes : Nat) : Bool := decide (n * bytes ≤ 140737488355328)
def moreT (ti2 : TI) (e : TypeId) (r : Ty) : Leaf → Tr (List r.D × List Nat)
  | .v .str s => if ti2.isStr then (match r with
    | .int .u8 => .ret (bytesOf s, [])
    | _ => .fail) else .fail
  | l => if ti2.isSl then (if r.ro then (match l with
    | .nil => .ret ([], [])
    | l => (dataT l).bind fun o => if h : Ty.sl true o.e o.r = .sl true e r then .ret ((h ▸ o.xs : (Ty.sl true e r).D), []) else .fail)
    else absorb (.sl true e r) l) else .fail
def moreA (ti2 : TI) (e : TypeId) (r0 r : Ty) (y : Leaf) : Tr (List r.D × List Nat) :=
  match ti2 with
  | .cell (.int .i64) => match y with
    | .v (.int .i64) n => if r = r0 then .iff (decide ((0 : Int) ≤ n)) (.ret (List.replicate (Int.toNat n) r.zero, [])) else .fail
    | _ => .fail
  | ti2 => moreT ti2 e r y
def ownOut (key : Nat) (o : Own) (given : List Nat) : Out :=
  ⟨.s (.one (.vw key [] none)), .all key :: gone given, goneU given ++ [.ow key (some o)]⟩
def rowFor (r0 : Ty) : Leaf → Leaf → Tr Ty
  | .vw k _ _, _ => .rdO k fun o => match o with
    | some o => .ret o.r
    | none => .fail
  | _, .v (.sl _ _ r) _ => .ret r
  | _, .vw k [] _ => .rdO k fun o => match o with
    | some o => .ret o.r
    | none => .fail
  | _, _ => .ret r0
def appendT (ti ti2 : TI) (d : Nat) (x y : Leaf) : Tr Out :=
  match ti with
  | .slice e ts bytes => (rowFor (rowTy ts) x y).bind fun r => if r.size = ts.length then (absorb (.sl true e r) x).bind fun b => (moreA ti2 e (rowTy ts) r y).bind fun m =>
      .iff (roomFor (List.length b.1 + List.length m.1) bytes) <|
      if unlike (b.2 ++ m.2) then .ret (ownOut (kd d 0) ⟨e, r, (show List r.D from b.1) ++ m.1⟩ (b.2 ++ m.2)) else .fail
      else .fail
  | _ => .fail
def copyT (ti ti2 : TI) (x y : Leaf) : Tr Out :=
  match x with
  | .vw k [] none => .rdO k fun o => match o with
    | some o => if ti.isSlOf o.r.size && ti2.isSl && o.r.ro then (match y with
        | .nil => .ret ⟨.s (.one (.v (.int .i64) ((0 : Nat) : Int))), [], []⟩
        | y => (dataT y).bind fun p => if h : Ty.sl true p.e p.r = Ty.sl true o.e o.r then
            .ret ⟨.s (.one (.v (.int .i64) ((Nat.min (List.length p.xs) (List.length o.xs) : Nat) : Int))), [.deep k],
              [.ow k (some ⟨o.e, o.r, (show List o.r.D from (h ▸ p.xs : (Ty.sl true o.e o.r).D)).take (List.length o.xs) ++ List.drop (List.length p.xs) o.xs⟩)]⟩ else .fail) else .fail
    | none => .fail
  | _ => .fail
def Leaf.is : Leaf → Bool
  | .no => false
  | _ => true
def leaves : SV → Option (List Leaf)
  | .s (.one l) => if l.is then some [l] else none
  | .s (.ag ls) => if ls.all Leaf.is then some ls else none
  | _ => none
def rowsT (ts : List Ty) : List (Nat × SV) → Nat → Tr (List (rowTy ts).D × List Nat)
  | [], _ => .ret ([], [])
  | (i, x) :: ps, n => if i = n then match leaves x with
      | some ls => (absorbRow ts ls).bind fun r => (rowsT ts ps (n + 1)).bind fun rs => .ret (r.1 :: rs.1, r.2 ++ rs.2)
      | none => .fail
      else .fail
def rowTys : List Ty → List Leaf → List Ty
  | _ :: ts, .v u _ :: ls => u :: rowTys ts ls
  | t :: ts, _ :: ls => t :: rowTys ts ls
  | ts, _ => ts
def hintOf (hn : List (Nat × List Ty)) (d : Nat) (ts : List Ty) : List Ty := match hn.find? (fun p => p.1 == d) with
  | some p => p.2
  | none => ts
def litTys (ts hs : List Ty) : List (Nat × SV) → List Ty
  | (_, x) :: _ => match leaves x with
    | some ls => rowTys ts ls
    | none => ts
  | [] => hs
def buildRowsT (e : TypeId) (ts : List Ty) (d len : Nat) (ps : List (Nat × SV)) : Tr Out :=
  (rowsT ts ps 0).bind fun r => if unlike r.2 && decide (ps.length = len) && decide (len * (rowTy ts).size ≤ 16777216) then
      .ret (ownOut (kd d 0) ⟨e, rowTy ts, r.1⟩ r.2) else .fail
def buildSliceT (ti : TI) (hn : List (Nat × List Ty)) (d len : Nat) (ps : List (Nat × SV)) : Tr Out :=
  match ti with
  | .slice e ts _ => if (litTys ts (hintOf hn d ts) ps).all (fun t => t.size == 1) && (litTys ts (hintOf hn d ts) ps).length == ts.length then buildRowsT e (litTys ts (hintOf hn d ts) ps) d len ps else .fail
  | _ => .fail
def makeSliceT (ti : TI) (d : Nat) (l c : SV) : Tr Out :=
  match ti, l, c with
  | .slice e ts bytes, .s (.one (.v (.int .i64) l)), .s (.one (.v (.int .i64) c)) =>
    .iff (decide ((0 : Int) ≤ l)) <| .iff (decide ((l : Int) ≤ c)) <| .iff (roomFor (Int.toNat c) bytes) <|
      .ret (ownOut (kd d 0) ⟨e, rowTy ts, List.replicate (Int.toNat l) (rowTy ts).zero⟩ [])
  | _, _, _ => .fail
def zeroLeaf : Ty → Leaf
  | .sl _ _ _ => .nil
  | t => .v t t.zero
def setMany (row : List Leaf) (off : Nat) : List Leaf → List Leaf
  | [] => row
  | l :: ls => setMany (row.set off l) (off + 1) ls
def buildT (fs : List (Nat × Nat × Bool)) : List (Nat × SV) → List Leaf → Option (List Leaf)
  | [], row => some row
  | (f, x) :: ps, row => match fs[f]?, leaves x with
    | some (off, n, _), some ls => if ls.length = n then (if off + n ≤ row.length then buildT fs ps (setMany row off ls) else none) else none
    | _, _ => none
def indexT (t : TI) (x : Leaf) (i : Int) : Tr SV :=
  .iff (decide (0 ≤ i)) <|
  match x with
  | .v (.sl false _ r) xs => if t.isSlOf r.size then .get r.D ((xs : List r.D)[i.toNat]?) fun row => .ret (.s (.rp r row 0)) else .fail
  | .vw k st win => (viewT k st win).bind fun o => if t.isSlOf o.r.size then .iff (decide (i < (o.xs.length : Int))) <|
      .ret (.s (.el k (st ++ [(winLo win + i.toNat, 0)]))) else .fail
  | _ => .fail
def convT (ti : TypeId → TI) (src dst : TI) (d : Nat) (x : Leaf) : Tr Out :=
  match src, dst, x with
  | .cell (.int _), .cell (.int k), .v (.int _) n => okOut (.s (.one (.v (.int k) (k.wrap n))))
  | .cell .str, .cell .str, .v .str s => okOut (.s (.one (.v .str s)))
  | .cell .str, .slice e _ _, .v .str s => match ti e with
    | .cell (.int .u8) => .ret (ownOut (kd d 0) ⟨e, .int .u8, bytesOf s⟩ [])
    | _ => .fail
  | .slice e _ _, .cell .str, .nil => match ti e with
    | .cell (.int .u8) => okOut (.s (.one (.v .str [])))
    | _ => .fail
  | .slice e _ _, .cell .str, x => match ti e with
    | .cell (.int .u8) => (dataT x).bind fun o => match o with
        | ⟨_, .int .u8, xs⟩ => okOut (.s (.one (.v .str (textOf xs))))
        | _ => .fail
    | _ => .fail
  | _, _, _ => .fail
structure AS where
  a : A1
  bw : List Nat     -- owners that are shown
  gv : List Nat     -- owners that are given up
def argLeaf (mv : Bool) (t : Ty) : Leaf → Tr (ALeaf × List Nat × List Nat)
  | .v u x => .ret (⟨u, x⟩, [], [])
  | .nil => match t with
    | .sl _ e r => if mv then .ret (⟨.sl true e r, []⟩, [], []) else .ret (⟨.sl false e r.frz, []⟩, [], [])
    | _ => .fail
  | .vw k st win => if mv then match st with
      | [] => (viewT k [] win).bind fun o => .ret (⟨.sl true o.e o.r, o.xs⟩, [], [k])
      | _ => .fail
    else (viewT k st win).bind fun o => .ret (⟨(Ty.sl true o.e o.r).frz, toFrz (.sl true o.e o.r) o.xs⟩, [k], [])
  | _ => .fail
def lentLeaf (t : Ty) : Leaf → Tr (ALeaf × List Nat × List Nat)
  | .vw k st none => (viewT k st none).bind fun o => .ret (⟨.sl true o.e o.r, o.xs⟩, [], [k])
  | .vw _ _ (some _) => .fail
  | l => argLeaf true t l
def modeLeaf (m : Nat) (t : Ty) (l : Leaf) : Tr (ALeaf × List Nat × List Nat) := if m = 2 then lentLeaf t l else argLeaf (m == 1) t l
def lentOf (p : Nat × Nat) : Leaf → List ((Nat × Nat) × Option (Nat × Steps))
  | .vw k st _ => [(p, some (k, st))]
  | .nil => [(p, none)]
  | _ => []
def lentsOf (i j : Nat) : List Leaf → List ((Nat × Nat) × Option (Nat × Steps))
  | [] => []
  | l :: ls => lentOf (i, j) l ++ lentsOf i (j + 1) ls
def argLeaves (m : Nat) : List Ty → List Leaf → Tr (List ALeaf × List Nat × List Nat)
  | _, [] => .ret ([], [], [])
  | ts, l :: ls => (modeLeaf m (ts.headD .unit) l).bind fun x => (argLeaves m ts.tail ls).bind fun y => .ret (x.1 :: y.1, x.2.1 ++ y.2.1, x.2.2 ++ y.2.2)
def rowLeaves (k : Nat) : List Ty → Nat → Tr (List ALeaf × List Nat)
  | [], _ => .ret ([], [])
  | t :: ts, c => .rdC k c fun l => (argLeaf true t l).bind fun x => (rowLeaves k ts (c + 1)).bind fun y => .ret (x.1 :: y.1, x.2.2 ++ y.2)
def shownRow (k : Nat) : List Ty → Nat → Tr (List ALeaf × List Nat)
  | [], _ => .ret ([], [])
  | t :: ts, c => .rdC k c fun l => (argLeaf false t l).bind fun x => (shownRow k ts (c + 1)).bind fun y => .ret (x.1 :: y.1, x.2.1 ++ y.2)
def packed : List ALeaf → ALeaf
  | [] => ⟨.unit, ()⟩
  | [l] => l
  | l :: m :: ls => ⟨.pair l.1 (packed (m :: ls)).1, (l.2, (packed (m :: ls)).2)⟩
def place (ms : List Nat) (k : Nat) : Nat := ms.findIdx (· == k)
structure AC where
  as : List A1 := []
  bw : List Nat := []
  gv : List Nat := []
  ms : List (Nat × List Ty) := []
  ln : List ((Nat × Nat) × Option (Nat × Steps)) := []
def cellsAt (ti : TypeId → TI) (t : TypeId) : Option (List Ty) := match ti t with
  | .ptr e => (ti e).cells
  | x => x.cells
def placeT (k off : Nat) (ts : Option (List Ty)) (c : AC) : Tr ((Nat × Nat) × AC) :=
  match ts with
  | some ts => if (c.ms.map (·.1)).contains k then .ret ((place (c.ms.map (·.1)) k, off), c)
    else if off = 0 then .rdM k fun n => if n = some ts.length then .ret ((c.ms.length, off), { c with ms := c.ms ++ [(k, ts)] }) else .fail
    else .fail
  | none => .fail
def capsT : List (Nat × Nat) → List (List Ty) → AC → Tr (List (Nat × Nat) × AC)
  | [], _, c => .ret ([], c)
  | p :: cs, ts, c => (placeT p.1 p.2 ts.head? c).bind fun y => (capsT cs ts.tail y.2).bind fun z => .ret (y.1 :: z.1, z.2)
def argsT (E : Env) : List Nat → List (SV × TypeId) → AC → Tr AC
  | _, [], c => .ret c
  | mv, (x, t) :: xs, c =>
    let m := mv.headD 0
    match x with
    | .s (.one l) => (modeLeaf m ((((E.ti t).cells).getD []).headD .unit) l).bind fun y => argsT E mv.tail xs { c with as := c.as ++ [.one y.1], bw := c.bw ++ y.2.1, gv := c.gv ++ y.2.2, ln := c.ln ++ (if m = 2 then lentOf (c.as.length, 0) l else []) }
    | .s (.ag ls) => (argLeaves m (((E.ti t).cells).getD []) ls).bind fun y => argsT E mv.tail xs { c with as := c.as ++ [.ag y.1], bw := c.bw ++ y.2.1, gv := c.gv ++ y.2.2, ln := c.ln ++ (if m = 2 then lentsOf c.as.length 0 ls else []) }
    | .s (.rp u x off) => argsT E mv.tail xs { c with as := c.as ++ [.rp u x off] }
    | .s (.pl k off) => if m = 3 then (match cellsAt E.ti t with
        | some ts => .rdM k fun n => if n = some ts.length then (shownRow k ts 0).bind fun y => argsT E mv.tail xs { c with as := c.as ++ [.rp (packed y.1).1 (packed y.1).2 off], bw := c.bw ++ k :: y.2 } else .fail
        | none => .fail)
      else (placeT k off (cellsAt E.ti t) c).bind fun y => argsT E mv.tail xs { y.2 with as := y.2.as ++ [.pl y.1.1 y.1.2] }
    | .s (.fv f cs) => (capsT cs (E.fr f) c).bind fun y => argsT E mv.tail xs { y.2 with as := y.2.as ++ [.fv f y.1] }
    | _ => .fail
def rowsOf : List (Nat × List Ty) → Tr (List (List ALeaf) × List Nat)
  | [] => .ret ([], [])
  | (k, ts) :: ms => (rowLeaves k ts 0).bind fun y => (rowsOf ms).bind fun ys => .ret (y.1 :: ys.1, y.2 ++ ys.2)
def Ty.hasRo : Ty → Bool
  | .pair a b => a.hasRo || b.hasRo
  | .sl o _ r => !o || r.hasRo
  | .pt _ => true
  | _ => false
def backLeaf (key : Nat) : ALeaf → Leaf × List (Nat × Own)
  | ⟨.sl true e r, xs⟩ => (.vw key [] none, [(key, ⟨e, r, xs⟩)])
  | ⟨t, x⟩ => (.v t x, [])
def backLeaves (key : Nat) : List ALeaf → List Leaf × List (Nat × Own)
  | [] => ([], [])
  | l :: ls => ((backLeaf key l).1 :: (backLeaves (key + 1) ls).1, (backLeaf key l).2 ++ (backLeaves (key + 1) ls).2)
def backPls (ms : List Nat) : List (Nat × Nat) → Option (List (Nat × Nat))
  | [] => some []
  | p :: ps => match ms[p.1]?, backPls ms ps with
    | some k, some l => some ((k, p.2) :: l)
    | _, _ => none
def back1 (ms : List Nat) (key : Nat) : A1 → Option (S1 × List (Nat × Own))
  | .one l => some (.one (backLeaf key l).1, (backLeaf key l).2)
  | .ag ls => some (.ag (backLeaves key ls).1, (backLeaves key ls).2)
  | .pl m off => match ms[m]? with
    | some k => some (.pl k off, [])
    | none => none
  | .rp t x off => some (.rp t x off, [])
  | .fv f cs => match backPls ms cs with
    | some l => some (.fv f l, [])
    | none => none
def backVals (ms : List Nat) (key : Nat) : List A1 → Option (List S1 × List (Nat × Own))
  | [] => some ([], [])
  | a :: as => match back1 ms key a, backVals ms (key + 64) as with
    | some x, some y => some (x.1 :: y.1, x.2 ++ y.2)
    | _, _ => none
def backRows (key : Nat) : List Nat → List (List ALeaf) → Option (List (Nat × List Leaf) × List (Nat × Own))
  | [], [] => some ([], [])
  | k :: ms, r :: rs => match backRows (key + 64) ms rs with
    | some y => some ((k, (backLeaves key r).1) :: y.1, (backLeaves key r).2 ++ y.2)
    | none => none
  | _, _ => none
def ownsU (l : List (Nat × Own)) : List U := l.map fun p => .ow p.1 (some p.2)
def rowsU : List (Nat × List Leaf) → List U
  | [] => []
  | p :: l => stPls p.1 p.2 0 ++ rowsU l
def A1.hasRo : A1 → Bool
  | .one l => l.1.hasRo
  | .ag ls => ls.any fun l => l.1.hasRo
  | .pl _ _ => false
  | .rp _ _ _ => true
  | .fv _ _ => false
def tupled : List S1 → SV
  | [v] => .s v
  | vs => .tu vs
def putBack : List ((Nat × Nat) × Option (Nat × Steps)) → List ((Nat × Nat) × ALeaf) → Tr (List (Nat × Own))
  | [], [] => .ret []
  | (p, none) :: l, (p', _) :: r => if p = p' then putBack l r else .fail
  | (p, some (k, st)) :: l, (p', a) :: r => if p = p' then .rdO k fun o => match o with
    | some o => (getT (.sl true o.e o.r) o.xs st).bind fun c => if h : a.1 = c.1 then (setT (.sl true o.e o.r) o.xs st c.1 (h ▸ a.2)).bind fun zs => (putBack l r).bind fun y => .ret ((k, ⟨o.e, o.r, zs⟩) :: y) else .fail
    | none => .fail
    else .fail
  | _, _ => .fail
def lkeys : List ((Nat × Nat) × Option (Nat × Steps)) → List Nat
  | [] => []
  | (_, none) :: l => lkeys l
  | (_, some (k, _)) :: l => k :: lkeys l
def moved (lk gv : List Nat) : List Nat := gv.filter fun k => !lk.contains k
def callT2 (E : Env) (d : Nat) (f : FuncId) (ps : List (Nat × Nat)) (c : AC) : Tr Out :=
  (rowsOf c.ms).bind fun rows =>
    if unlike (c.gv ++ rows.2) && c.bw.all (fun k => !(c.gv ++ rows.2).contains k && !(c.ms.map (·.1)).contains k) then
      (E.ca f (c.as ++ ps.map fun p => .pl p.1 p.2) rows.1).bind fun r => (putBack c.ln r.lent).bind fun lts =>
        if c.bw.isEmpty || !(r.val.any A1.hasRo || r.rows.any (fun l => l.any fun x => x.1.hasRo) || r.lent.any (fun x => x.2.1.hasRo)) then
          match backVals (c.ms.map (·.1)) (kd d 0) r.val, backRows (kd d 512) (c.ms.map (·.1)) r.rows with
          | some vs, some rs =>
            if unlike ((vs.2 ++ (rs.2 ++ lts)).map (·.1)) && decide (r.rows.map List.length = c.ms.map fun m => m.2.length) then
            .ret ⟨tupled vs.1, gone (moved (lkeys c.ln) c.gv ++ rows.2) ++ ((lkeys c.ln).map Kl.deep ++ gone ((vs.2 ++ rs.2).map (·.1))), goneU (c.gv ++ rows.2) ++ (ownsU (vs.2 ++ (rs.2 ++ lts)) ++ rowsU rs.1)⟩
            else .fail
          | _, _ => .fail
        else .fail
    else .fail
def callT (E : Env) (d : Nat) (f : FuncId) (caps : List (Nat × Nat)) (args : List (SV × TypeId)) : Tr Out :=
  (argsT E (E.mv f) args {}).bind fun c => (capsT caps (E.fr f) c).bind fun y => callT2 E d f y.1 y.2
def minmax (b : Builtin) : List SV → Tr SV
  | [.s (.one (.v (.int k) x)), .s (.one (.v (.int k') y))] => if k = k' then match b with
      | .min => .ret (.s (.one (.v (.int k) (if (y : Int) < x then y else x))))
      | .max => .ret (.s (.one (.v (.int k) (if (x : Int) < y then y else x))))
      | _ => .fail
      else .fail
  | _ => .fail
def boolOk (l : Leaf) (t : TI) : Bool :=
  match l, t with
  | .v .bool _, .cell .bool => true
  | .v .bool _, _ => false
  | _, _ => true
def plsOf : List SV → Option (List (Nat × Nat))
  | [] => some []
  | .s (.pl k off) :: xs => match plsOf xs with
    | some l => some ((k, off) :: l)
    | none => none
  | _ => none
def core (E : Env) (ρ : Operand → SV) (d : Nat) : Op → Tr Out
  | .move x | .assign x => match ρ x with
    | .no => .fail
    | .un => .fail
    | x => okOut x
  | .pick c a b => match ρ c with
    | .s (.one (.v .bool c)) => .br c (match ρ a with | .no => .fail | .un => .fail | x => okOut x) (match ρ b with | .no => .fail | .un => .fail | x => okOut x)
    | _ => .fail
  | .alloc t => match (E.ti t).cells with
    | some ts => .ret ⟨.s (.pl d 0), [.m d], [.ms d (ts.map zeroLeaf)]⟩
    | none => .fail
  | .box t x => match (E.ti t).cells, leaves (ρ x) with
    | some ts, some ls => if ls.length = ts.length then .ret ⟨.s (.pl d 0), [.m d], [.ms d ls]⟩ else .fail
    | _, _ => match E.ti t, ρ x with
      | .ptr _, .s (.rp u y 0) => .ret ⟨.s (.pl d 0), [.m d], [.ms d [.v (.pt u) (some y)]]⟩
      | _, _ => .fail
  | .build t ps => match E.ti t with
    | .struct fs row _ => match buildT fs (ps.toList.map fun p => (p.1, ρ p.2)) (row.map zeroLeaf) with
      | some ls => okOut (.s (.ag ls))
      | none => .fail
    | _ => .fail
  | .buildSlice t len ps => buildSliceT (E.ti t) E.hn d len (ps.toList.map fun p => (p.1, ρ p.2))
  | .load t a => match ρ a, (E.ti t).cells with
    | .s a, some ts => if ts.isEmpty then .fail else (if (E.ti t).isAgg then (ldCells a ts.length 0).bind fun ls => Tr.ret (SV.s (.ag ls)) else (ldCell a 0).bind fun l => Tr.ret (SV.s (.one l))).bind fun x => okOut x
    | .s a, none => match E.ti t with
      | .ptr _ => (ldCell a 0).bind fun l => match l with
        | .v (.pt u) o => .get u.D o fun y => okOut (.s (.rp u y 0))
        | _ => .fail
      | _ => .fail
    | _, _ => .fail
  | .store t a x => match ρ a, (E.ti t).cells, leaves (ρ x) with
    | .s a, some ts, some ls => if ls.length = ts.length then (stCells a ls).bind fun r => .ret ⟨.no, r.1, r.2⟩ else .fail
    | _, _, _ => .fail
  | .nilCheck x => match ρ x with
    | .s (.pl k off) => okOut (.s (.pl k off))
    | .s (.el k st) => okOut (.s (.el k st))
    | .s (.rp t x off) => okOut (.s (.rp t x off))
    | _ => .fail
  | .binOp op t x y _ => match ρ x, ρ y with
    | .s (.one x), .s (.one .nil) => match op with
      | .eql => if (E.ti t).isSl then (nilT x).bind fun l => okOut (.s (.one l)) else .fail
      | _ => .fail
    | .s (.one x), .s (.one y) => if boolOk x (E.ti t) then (vbin op x y).bind fun l => okOut (.s (.one l)) else .fail
    | .s (.ag xs), .s (.ag ys) => match E.ti t with
      | .struct _ row true => match op, aggEq row xs ys with
        | .eql, some r => okOut (.s (.one (b2 r)))
        | .neq, some r => okOut (.s (.one (b2 (!r))))
        | _, _ => .fail
      | _ => .fail
    | _, _ => .fail
  | .unOp op _ x => match ρ x with
    | .s (.one x) => (vun op x).bind fun l => okOut (.s (.one l))
    | _ => .fail
  | .convert s t x => match ρ x with
    | .s (.one x) => convT E.ti (E.ti s) (E.ti t) d x
    | _ => .fail
  | .makeSlice t l c => makeSliceT (E.ti t) d (ρ l) (ρ c)
  | .slice t x lo hi mx => match ρ x with
    | .s (.one x) => (sliceT (E.ti t) x (lo.map ρ) (hi.map ρ) (mx.map ρ)).bind fun x => okOut x
    | _ => .fail
  | .fieldAddr t x f => match E.ti t with
    | .struct fs _ _ => match fs[f]?, ρ x with
      | some (o, _, _), .s (.pl k off) => okOut (.s (.pl k (off + o)))
      | some (o, _, _), .s (.el k st) => okOut (.s (.el k (bump st o)))
      | some (o, _, _), .s (.rp u x off) => okOut (.s (.rp u x (off + o)))
      | _, _ => .fail
    | _ => .fail
  | .field t x f => match E.ti t, ρ x with
    | .struct fs _ _, .s (.ag ls) => match fs[f]? with
      | some (o, n, true) => okOut (.s (.ag ((ls.drop o).take n)))
      | some (o, _, false) => match ls[o]? with
        | some l => okOut (.s (.one l))
        | none => .fail
      | none => .fail
    | _, _ => .fail
  | .indexAddr t x i => match ρ x, ρ i with
    | .s (.one x), .s (.one (.v (.int _) i)) => (indexT (E.ti t) x i).bind fun x => okOut x
    | _, _ => .fail
  | .index t x i => match ρ x, ρ i with
    | .s (.one (.v .str s)), .s (.one (.v (.int _) i)) => .iff (E.ti t).isStr <| .iff (decide ((0 : Int) ≤ i)) <|
      .get UInt8 ((s : List UInt8)[Int.toNat i]?) fun b => okOut (.s (.one (.v (.int .u8) ((UInt8.toNat b : Nat) : Int))))
    | _, _ => .fail
  | .extract x i => match ρ x with
    | .tu xs => match xs[i]? with
      | some x => okOut (.s x)
      | none => .fail
    | _ => .fail
  | .call ⟨.builtin .len, as, ts⟩ => match as.toList.map ρ, ts.toList with
    | [.s (.one x)], [t] => (lenT (E.ti t) x).bind fun n => okOut (vInt n)
    | _, _ => .fail
  | .call ⟨.builtin .append, as, ts⟩ => match as.toList.map ρ, ts.toList with
    | [.s (.one x), .s (.one y)], [t, t2] => appendT (E.ti t) (E.ti t2) d x y
    | _, _ => .fail
  | .call ⟨.builtin .copy, as, ts⟩ => match as.toList.map ρ, ts.toList with
    | [.s (.one x), .s (.one y)], [t, t2] => copyT (E.ti t) (E.ti t2) x y
    | _, _ => .fail
  | .call ⟨.builtin .min, as, _⟩ => (minmax .min (as.toList.map ρ)).bind fun x => okOut x
  | .call ⟨.builtin .max, as, _⟩ => (minmax .max (as.toList.map ρ)).bind fun x => okOut x
  | .call ⟨.value v, as, ts⟩ => match ρ v with
    | .s (.fv f cs) => if as.size = ts.size then callT E d f cs ((as.toList.map ρ).zip ts.toList) else .fail
    | _ => .fail
  | .makeFunc (.func f) first cs => if first.isEmpty then match plsOf (cs.toList.map ρ) with
    | some l => okOut (.s (.fv f l))
    | none => .fail
    else .fail
  | _ => .fail
end Go.V

namespace Go.V
section loops
variable {σ τ : Type}
def loopN (f : σ → Option (σ ⊕ τ)) : Nat → σ → Option τ
  | 0, _ => none
  | n + 1, x => match f x with
    | some (.inl y) => loopN f n y
    | some (.inr z) => some z
    | none => none
open Classical in
noncomputable def loopG (f : σ → Option (σ ⊕ τ)) (x : σ) : Option τ := if h : ∃ n z, loopN f n x = some z then some h.choose_spec.choose else none
theorem loopN_mono (f : σ → Option (σ ⊕ τ)) : ∀ n m x z, loopN f n x = some z → n ≤ m → loopN f m x = some z := by
  intro n
  induction n with
  | zero => intro m x z h; simp [loopN] at h
  | succ n ih =>
    intro m x z h hm
    obtain ⟨m, rfl⟩ : ∃ k, m = k + 1 := ⟨m - 1, by omega⟩
    simp only [loopN] at h ⊢
    split at h
    · exact ih m _ z h (by omega)
    · exact h
    · cases h
theorem loopG_some (f : σ → Option (σ ⊕ τ)) (x : σ) (z : τ) : loopG f x = some z ↔ ∃ n, loopN f n x = some z := by
  unfold loopG
  constructor
  · intro h
    split at h
    · rename_i hx
      injection h with h
      exact ⟨hx.choose, h ▸ hx.choose_spec.choose_spec⟩
    · cases h
  · rintro ⟨n, hn⟩
    have hx : ∃ n z, loopN f n x = some z := ⟨n, z, hn⟩
    rw [dif_pos hx]
    have h1 := loopN_mono f _ (max n hx.choose) x _ hx.choose_spec.choose_spec (by omega)
    have h2 := loopN_mono f _ (max n hx.choose) x _ hn (by omega)
    rw [h1] at h2
    exact h2
theorem loopG_eq (f : σ → Option (σ ⊕ τ)) (x : σ) : loopG f x = match f x with
    | some (.inl y) => loopG f y
    | some (.inr z) => some z
    | none => none := by
  apply Option.ext
  intro z
  rw [loopG_some]
  constructor
  · rintro ⟨n, hn⟩
    cases n with
    | zero => simp [loopN] at hn
    | succ n =>
      simp only [loopN] at hn
      split at hn
      · rename_i y _
        exact (loopG_some f y z).2 ⟨n, hn⟩
      · exact hn
      · cases hn
  · intro h
    split at h
    · rename_i y hy
      obtain ⟨n, hn⟩ := (loopG_some f y z).1 h
      exact ⟨n + 1, by simp only [loopN, hy]; exact hn⟩
    · rename_i z' hz; exact ⟨1, by simp only [loopN, hz]; exact h⟩
    · cases h
end loops
inductive TL where
  | h (i : Nat) | vw (k : Nat) | nil | no | vs (k i f : Nat) | ww (k i j : Nat)
inductive TS where
  | one (l : TL) | ag (ls : List TL) | pl (k off : Nat) | fv (f : FuncId) (cs : List (Nat × Nat)) | rp (i off : Nat)
inductive Pl where
  | sl (i : Nat) | ag (i j : Nat) | mc (k c : Nat)
def leafAt (S : St) : Pl → Leaf
  | .sl i => match S.sl i with
    | .s (.one l) => l
    | _ => .no
  | .ag i j => match S.sl i with
    | .s (.ag ls) => ls.getD j .no
    | _ => .no
  | .mc k c => match S.ms k with
    | some n => if c < n then S.mc k c else .no
    | none => .no
def St.setAt (S : St) (l : Leaf) : Pl → St
  | .sl i => S.put i (.s (.one l))
  | .ag i j => match S.sl i with
    | .s (.ag ls) => S.put i (.s (.ag (ls.set j l)))
    | _ => S
  | .mc k c => S.up (.mc k c l)
def narrow1 (S : St) (p : Pl) : St :=
  match leafAt S p with
  | .vw k [] (some (lo, n)) => match S.ow k with
    | some o => ((S.kp [.all k]).up (.ow k (some ⟨o.e, o.r, (o.xs.drop lo).take n⟩))).setAt (.vw k [] none) p
    | none => S
  | _ => S
def narrow (S : St) : List Pl → St
  | [] => S
  | p :: ps => narrow (narrow1 S p) ps
def freeze1 (S : St) (p : Pl) : St :=
  match leafAt S p with
  | .vw k [] none => match S.ow k with
    | some o => ((S.kp [.all k]).up (.ow k none)).setAt (.v (Ty.sl true o.e o.r).frz (toFrz (.sl true o.e o.r) o.xs)) p
    | none => S
  | _ => S
def freeze (S : St) : List Pl → St
  | [] => S
  | p :: ps => freeze (freeze1 S p) ps
structure Tpl where
  holes : List Ty
  slots : List (Nat × TS)
  mems : List (Nat × List TL)
  owns : List (Nat × Nat)
  nw : List Pl
  fz : List Pl
@[reducible] def Tpl.D (t : Tpl) : Type := (rowTy t.holes).D
def split : (ts : List Ty) → (rowTy ts).D → List ALeaf
  | [], _ => []
  | [t], x => [⟨t, x⟩]
  | t :: u :: ts, x => ⟨t, x.1⟩ :: split (u :: ts) x.2
def find {β : Type} : List (Nat × β) → Nat → Option β
  | [], _ => none
  | (k, b) :: l, i => if i = k then some b else find l i
def ixOf : ALeaf → Option Nat
  | ⟨.int .i64, n⟩ => some (Int.toNat n)
  | _ => none
def TL.inj (hs : List ALeaf) : TL → Leaf
  | .vs k i f => match hs[i]? with
    | some c => match ixOf c with
      | some n => .vw k [(n, f)] none
      | none => .no
    | none => .no
  | .ww k i j => match hs[i]? with
    | some c => match hs[j]? with
      | some d => match ixOf c with
        | some a => match ixOf d with
          | some b => .vw k [] (some (a, b))
          | none => .no
        | none => .no
      | none => .no
    | none => .no
  | .h i => match hs[i]? with
    | some c => .v c.1 c.2
    | none => .no
  | .vw k => .vw k [] none
  | .nil => .nil
  | .no => .no
def TS.inj (hs : List ALeaf) : TS → S1
  | .one l => .one (l.inj hs)
  | .ag ls => .ag (ls.map (TL.inj hs))
  | .pl k off => .pl k off
  | .fv f cs => .fv f cs
  | .rp i off => match hs[i]? with
    | some c => .rp c.1 c.2 off
    | none => .one .no
def ownOf : ALeaf → Option Own
  | ⟨.sl true e r, xs⟩ => some ⟨e, r, xs⟩
  | _ => none
def Tpl.injH (t : Tpl) (hs : List ALeaf) : St where
  sl i := match find t.slots i with
    | some s => .s (s.inj hs)
    | none => .no
  ms k := (find t.mems k).map List.length
  mc k off := match find t.mems k with
    | some row => match row[off]? with
      | some l => l.inj hs
      | none => .no
    | none => .no
  ow k := match find t.owns k with
    | some h => match hs[h]? with
      | some c => ownOf c
      | none => none
    | none => none
def Tpl.inj (t : Tpl) (x : t.D) : St := t.injH (split t.holes x)
structure Mt where
  ro : List (Nat × Nat) := []
  rm : List (Nat × Nat) := []
  nl : List Nat := []
  vs : List (Nat × ALeaf) := []
def addKey (l : List (Nat × Nat)) (a b : Nat) : Option (List (Nat × Nat)) :=
  match find l a with
  | some c => if c = b then some l else none
  | none => some ((a, b) :: l)
def TL.mt (holes : List Ty) (m : Mt) : TL → Leaf → Option Mt
  | .h i, .v t x => some { m with vs := (i, ⟨t, x⟩) :: m.vs }
  | .h i, .nil => match holes[i]? with
    | some (.sl false e r) => some { m with vs := (i, ⟨.sl false e r, []⟩) :: m.vs }
    | _ => none
  | .vw k, .vw k' [] none => match addKey m.ro k k' with
    | some l => some { m with ro := l }
    | none => none
  | .vw k, .nil => some { m with nl := k :: m.nl }
  | .vs k i f, .vw k' [(n, g)] none => if f = g then match addKey m.ro k k' with
    | some l => some { m with ro := l, vs := (i, ⟨.int .i64, ((n : Nat) : Int)⟩) :: m.vs }
    | none => none
    else none
  | .ww k i j, .vw k' [] (some (a, b)) => match addKey m.ro k k' with
    | some l => some { m with ro := l, vs := (i, ⟨.int .i64, ((a : Nat) : Int)⟩) :: (j, ⟨.int .i64, ((b : Nat) : Int)⟩) :: m.vs }
    | none => none
  | .nil, .nil => some m
  | .no, _ => some m
  | _, _ => none
def TL.mts (holes : List Ty) : Mt → List TL → List Leaf → Option Mt
  | m, [], [] => some m
  | m, t :: ts, l :: ls => match t.mt holes m l with
    | some m' => TL.mts holes m' ts ls
    | none => none
  | _, _, _ => none
def TS.mt (holes : List Ty) (m : Mt) : TS → SV → Option Mt
  | .one t, .s (.one l) => t.mt holes m l
  | .ag ts, .s (.ag ls) => TL.mts holes m ts ls
  | .pl k off, .s (.pl k' off') => if off = off' then (match addKey m.rm k k' with
    | some l => some { m with rm := l }
    | none => none) else none
  | .fv f cs, .s (.fv f' cs') => if f = f' ∧ cs = cs' ∧ cs.all (fun p => find m.rm p.1 == some p.1) then some m else none
  | .rp i off, .s (.rp t x off') => if off = off' then some { m with vs := (i, ⟨t, x⟩) :: m.vs } else none
  | _, _ => none
def mtSlots (holes : List Ty) (S : St) : List (Nat × TS) → Mt → Option Mt
  | [], m => some m
  | (i, t) :: l, m => match t.mt holes m (S.sl i) with
    | some m' => mtSlots holes S l m'
    | none => none
def mtRow (holes : List Ty) (S : St) (k : Nat) : List TL → Nat → Mt → Option Mt
  | [], _, m => some m
  | t :: ts, c, m => match t.mt holes m (S.mc k c) with
    | some m' => mtRow holes S k ts (c + 1) m'
    | none => none
def mtMems (holes : List Ty) (S : St) : List (Nat × List TL) → Mt → Option Mt
  | [], m => some m
  | (κ, row) :: l, m => match find m.rm κ with
    | some k => if S.ms k = some row.length then match mtRow holes S k row 0 m with
      | some m' => mtMems holes S l m'
      | none => none
      else none
    | none => none
def mtOwns (holes : List Ty) (S : St) : List (Nat × Nat) → Mt → Option Mt
  | [], m => some m
  | (κ, h) :: l, m => match find m.ro κ with
    | some k => match S.ow k with
      | some o => mtOwns holes S l { m with vs := (h, ⟨.sl true o.e o.r, o.xs⟩) :: m.vs }
      | none => none
    | none => if m.nl.contains κ then match holes[h]? with
      | some (.sl true e r) => mtOwns holes S l { m with vs := (h, ⟨.sl true e r, []⟩) :: m.vs }
      | _ => none
      else none
def tuple (vs : List (Nat × ALeaf)) : (ts : List Ty) → Nat → Option (rowTy ts).D
  | [], _ => some ()
  | [t], i => match find vs i with
    | some ⟨u, x⟩ => if h : u = t then some (h ▸ x) else none
    | none => none
  | t :: u :: ts, i => match find vs i with
    | some ⟨u', x⟩ => if h : u' = t then match tuple vs (u :: ts) (i + 1) with
      | some y => some (h ▸ x, y)
      | none => none
      else none
    | none => none
def Tpl.mt (t : Tpl) (S : St) : Option Mt :=
  match mtSlots t.holes S t.slots { rm := t.mems.map fun p => (p.1, p.1) } with
  | some m => match mtMems t.holes S t.mems m with
    | some m => mtOwns t.holes S t.owns m
    | none => none
  | none => none
def Mt.fine (t : Tpl) (m : Mt) : Bool :=
  unlike (m.vs.map (·.1)) && m.vs.all (fun p => decide (p.1 < t.holes.length)) && unlike (m.ro.map (·.1)) && unlike (m.ro.map (·.2)) && unlike (m.rm.map (·.1)) && unlike (m.rm.map (·.2)) &&
  m.nl.all (fun k => !(m.ro.map (·.1)).contains k && (find t.owns k).isSome) && m.ro.all (fun p => (find t.owns p.1).isSome) && m.rm.all (fun p => (find t.mems p.1).isSome) && m.rm.all (fun p => p.1 == p.2)
def Tpl.prj0 (t : Tpl) (S : St) : Option t.D :=
  match t.mt S with
  | some m => if m.fine t then tuple m.vs t.holes 0 else none
  | none => none
def Tpl.prj (t : Tpl) (S : St) : Option t.D := t.prj0 (freeze (narrow S t.nw) t.fz)
inductive Ex where
  | n | x (id : Nat) | r
  deriving DecidableEq
abbrev Joins := List (Ex × Tpl)
@[reducible] def Joins.D : Joins → Type
  | [] => Empty
  | [a] => a.2.D
  | a :: b :: l => a.2.D ⊕ Joins.D (b :: l)
def Joins.prj : (J : Joins) → Ex → St → Option J.D
  | [], _, _ => none
  | [a], e, S => if e = a.1 then a.2.prj S else none
  | a :: b :: l, e, S => if e = a.1 then (match a.2.prj S with | some x => some (.inl x) | none => none)
    else match Joins.prj (b :: l) e S with | some x => some (.inr x) | none => none
def Joins.inj : (J : Joins) → J.D → Tr (Ex × St)
  | [], x => nomatch x
  | [a], x => .ret (a.1, a.2.inj x)
  | a :: b :: l, s => .alt a.2.D (Joins.D (b :: l)) s (fun x => .ret (a.1, a.2.inj x)) (fun y => Joins.inj (b :: l) y)
def joined (J : Joins) (t : Tr (Ex × St)) : Tr (Ex × St) :=
  match J with
  | [] => t
  | a :: l => .get (Joins.D (a :: l)) (t.bind fun r => Tr.opt (Joins.prj (a :: l) r.1 r.2)).run (Joins.inj (a :: l))
inductive Ann where
  | nil
  | seq (a b : Ann)
  | cond (J : Joins) (a b : Ann)
  | block (J : Joins) (a : Ann)
  | loop (t : Tpl) (J : Joins) (a : Ann)
  | reg (J : Joins)
  | both (J : Joins) (r a b y z : Ann)
def gslot (ops : Array Oper) (j : Nat) : Option Nat := (ops[j]?).bind (·.dst)
structure Rec where
  o : Oper
  ins : List SV
  out : Out
  lg : List Lg
def dstOk (E : Env) (N : Nat) (o : Oper) : Bool := match o.dst with
  | some d => decide (d < N) && !E.fx.contains d
  | none => true
def runOp (E : Env) (N : Nat) (o : Oper) (S : St) : Tr (Out × List Lg) := (core E (opnd S) (o.dst.getD N) o.op).at S []
def noOut : Out := ⟨.un, [], []⟩
def recOf (o : Oper) (S : St) (r : Out × List Lg) : Rec := ⟨o, o.op.operands.toList.map (opnd S), r.1, r.2⟩
def skipRec (o : Oper) : Rec := ⟨o, [], noOut, []⟩
def yesT (E : Env) (N : Nat) (o : Oper) (S : St) : Tr (St × Rec) := (runOp E N o S).bind fun r => .ret (S.app o.dst r.1, recOf o S r)
def nayT (o : Oper) (S : St) : Tr (St × Rec) := .ret (S.app o.dst noOut, skipRec o)
def stepT (E : Env) (N : Nat) (ops : Array Oper) (o : Oper) (S : St) : Tr (St × Rec) :=
  if dstOk E N o then match o.guard with
    | none => yesT E N o S
    | some (j, want) => match gslot ops j with
      | some g => match S.sl g with
        | .s (.one (.v .bool b)) =>
          .br b (if want then yesT E N o (S.put g (.s (.one (.v .bool true)))) else nayT o (S.put g (.s (.one (.v .bool true)))))
            (if want then nayT o (S.put g (.s (.one (.v .bool false)))) else yesT E N o (S.put g (.s (.one (.v .bool false)))))
        | .un => nayT o S
        | _ => .fail
      | none => .fail
    else .fail
def regT (E : Env) (N : Nat) (ops : Array Oper) : List Oper → St → Tr St
  | [], S => .ret S
  | o :: os, S => (stepT E N ops o S).bind fun r => regT E N ops os r.1
def regR (E : Env) (N : Nat) (ops : Array Oper) : List Oper → St → List Rec → Tr (St × List Rec)
  | [], S, l => .ret (S, l.reverse)
  | o :: os, S, l => (stepT E N ops o S).bind fun r => regR E N ops os r.1 (r.2 :: l)
def Leaf.safe (c : List Kl) : Leaf → Bool
  | .vw k st _ => c.all (fun x => x.okV k st)
  | _ => true
def S1.safe (c : List Kl) : S1 → Bool
  | .one l => l.safe c
  | .ag ls => ls.all (Leaf.safe c)
  | .pl k _ => c.all (fun x => x.okM k)
  | .el k st => c.all (fun x => x.okE k st)
  | .rp .. => true
  | .fv _ cs => c.all (fun x => cs.all fun p => x.okM p.1)
def SV.safe (c : List Kl) : SV → Bool
  | .s x => x.safe c
  | .tu xs => xs.all (S1.safe c)
  | .un => true
  | .no => true
def U.safe (c : List Kl) : U → Bool
  | .mc _ _ l => l.safe c
  | .ms _ row => row.all (Leaf.safe c)
  | .ow .. => true
def Lg.safe (c : List Kl) : Lg → Bool
  | .c _ _ l => l.safe c
  | _ => true
def U.hits : U → Lg → Bool
  | .ow k _, .o k' => k == k'
  | .mc k off _, .c k' off' _ => k == k' && off == off'
  | .ms k _, .c k' _ _ => k == k'
  | .ms k _, .m k' => k == k'
  | _, _ => false
def U.meets : U → U → Bool
  | .ow k _, .ow k' _ => k == k'
  | .mc k off _, .mc k' off' _ => k == k' && off == off'
  | .ms k _, .mc k' _ _ => k == k'
  | .mc k _ _, .ms k' _ => k == k'
  | .ms k _, .ms k' _ => k == k'
  | _, _ => false
def Leaf.whole : Leaf → Bool
  | .no => false
  | _ => true
def S1.whole : S1 → Bool
  | .one l => l.whole
  | .ag ls => ls.all Leaf.whole
  | _ => true
def SV.whole : SV → Bool
  | .s x => x.whole
  | .tu xs => xs.all S1.whole
  | .un => true
  | .no => false
def Lg.whole : Lg → Bool
  | .c _ _ l => l.whole
  | _ => true
def Rec.past (a b : Rec) : Bool :=
  (b.out.ks.isEmpty || (a.ins.all SV.whole && a.lg.all Lg.whole)) &&
  a.ins.all (SV.safe b.out.ks) && a.out.x.safe b.out.ks && a.lg.all (Lg.safe b.out.ks) && a.out.us.all (U.safe b.out.ks) &&
  a.lg.all (fun l => b.out.us.all fun u => !u.hits l)
def Rec.apart (a b : Rec) : Bool :=
  a.past b && b.past a && a.out.us.all (fun u => b.out.us.all fun u' => !u.meets u')
def aheadOf (acc : List Nat) (o : Oper) : Nat := o.after.toList.foldl (fun m e => if Region.binds .any e then m ||| ((1 <<< e.on) ||| acc.getD e.on 0) else m) 0
def ahead : List Oper → List Nat → List Nat
  | [], acc => acc
  | o :: os, acc => ahead os (acc ++ [aheadOf acc o])
def backward : List Oper → Nat → Bool
  | [], _ => true
  | o :: os, n => o.after.toList.all (fun e => !Region.binds .any e || decide (e.on < n)) && backward os (n + 1)
def slotsOf (ops : Array Oper) (o : Oper) : List Nat :=
  o.op.operands.toList.filterMap (fun | .tmp t => some t | _ => none) ++ (match o.guard with | some (j, _) => (gslot ops j).toList | none => [])
def slotApart (ops : Array Oper) (a b : Oper) : Bool :=
  (match a.dst with | some d => !(slotsOf ops b).contains d && !(b.dst == some d) | none => true) &&
  (match b.dst with | some d => !(slotsOf ops a).contains d | none => true)
def pairsOk (ops : Array Oper) (b : List Nat) : List (Nat × Rec) → Bool
  | [] => true
  | (i, a) :: l => l.all (fun p => (b.getD p.1 0).testBit i || (slotApart ops a.o p.2.o && a.apart p.2)) && pairsOk ops b l
def numbered {β : Type} : List β → Nat → List (Nat × β)
  | [], _ => []
  | x :: l, n => (n, x) :: numbered l (n + 1)
def regionT (E : Env) (N : Nat) (ops : Array Oper) (draw : Bool) (S : St) : Tr St :=
  if draw then (regR E N ops ops.toList S []).bind fun r => if pairsOk ops (ahead ops.toList []) (numbered r.2 0) && backward ops.toList 0 then .ret r.1 else .fail
  else regT E N ops ops.toList S
open Classical in
noncomputable def bothQ {α : Type} (e : Bool) (a b : Option α) : Option α := if e = true then (if a = b then b else none) else b
noncomputable def vcode (E : Env) (N : Nat) : Ann → Code → St → Tr (Ex × St)
  | _, .skip, S => .ret (.n, S)
  | .reg J, .region _ ops draw, S => joined J ((regionT E N ops draw S).bind fun S => .ret (.n, S))
  | _, .region _ ops draw, S => (regionT E N ops draw S).bind fun S => .ret (.n, S)
  | .seq x y, .seq a b, S => (vcode E N x a S).bind fun r => match r.1 with
    | .n => vcode E N y b r.2
    | e => .ret (e, r.2)
  | .nil, .seq a b, S => (vcode E N .nil a S).bind fun r => match r.1 with
    | .n => vcode E N .nil b r.2
    | e => .ret (e, r.2)
  | .cond J x y, .cond c a b, S => match opnd S c with
    | .s (.one (.v .bool c)) => joined J (.br c (vcode E N x a S) (vcode E N y b S))
    | .s (.one (.qn e)) => .get (Joins.D J) (bothQ e ((vcode E N x a S).bind fun r => Tr.opt (Joins.prj J r.1 r.2)).run ((vcode E N y b S).bind fun r => Tr.opt (Joins.prj J r.1 r.2)).run) (Joins.inj J)
    | _ => .fail
  | .nil, .cond c a b, S => match opnd S c with
    | .s (.one (.v .bool c)) => .br c (vcode E N .nil a S) (vcode E N .nil b S)
    | _ => .fail
  | .both J xr xa xb y z, .seq (.seq r (.cond c a b)) d, S => (vcode E N xr r S).bind fun q => match q.1 with
    | .n => match opnd q.2 c with
      | .s (.one (.qn e)) => .get (Joins.D J) (bothQ e
          (((vcode E N xa a q.2).bind fun p => match p.1 with | .n => vcode E N y d p.2 | e => .ret (e, p.2)).bind fun t => Tr.opt (Joins.prj J t.1 t.2)).run
          (((vcode E N xb b q.2).bind fun p => match p.1 with | .n => vcode E N z d p.2 | e => .ret (e, p.2)).bind fun t => Tr.opt (Joins.prj J t.1 t.2)).run) (Joins.inj J)
      | _ => .fail
    | e => .ret (e, q.2)
  | .block J x, .block id a, S => joined J ((vcode E N x a S).bind fun r => .ret (if r.1 = .x id then .n else r.1, r.2))
  | .nil, .block id a, S => (vcode E N .nil a S).bind fun r => .ret (if r.1 = .x id then .n else r.1, r.2)
  | .loop t J x, .loop a, S => match t.prj S with
    | some x0 => .get (Joins.D J) (loopG (fun y : t.D => ((vcode E N x a (t.inj y)).bind fun r => match r.1 with
        | .n => Tr.opt (match t.prj r.2 with | some z => some (Sum.inl (β := Joins.D J) z) | none => none)
        | e => Tr.opt (match J.prj e r.2 with | some z => some (Sum.inr (α := t.D) z) | none => none)).run) x0) J.inj
    | none => .fail
  | _, .exit id, S => .ret (.x id, S)
  | _, .ret, S => .ret (.r, S)
  | _, _, _ => .fail
def blank : St := ⟨fun _ => .no, fun _ => none, fun _ _ => .no, fun _ => none⟩
def putSlots : List S1 → Nat → St → St
  | [], _, S => S
  | x :: xs, i, S => putSlots xs (i + 1) (S.put i (.s x))
def start (N : Nat) (as : List A1) (rows : List (List ALeaf)) : Option St :=
  match backVals ((List.range rows.length).map (N + 1 + ·)) (kd (N + 2) 0) as, backRows (kd (N + 2) 512) ((List.range rows.length).map (N + 1 + ·)) rows with
  | some vs, some rs => if unlike ((vs.2 ++ rs.2).map (·.1)) then some (putSlots vs.1 0 ((blank.ups (ownsU (vs.2 ++ rs.2))).ups (rs.1.map fun p => .ms p.1 p.2))) else none
  | _, _ => none
def outLeaf (t : Ty) : Leaf → Tr (ALeaf × List Nat)
  | .v u x => .ret (⟨u, x⟩, [])
  | .nil => match t with
    | .sl _ e r => .ret (⟨.sl true e r, []⟩, [])
    | _ => .fail
  | .vw k [] win => (viewT k [] win).bind fun o => .ret (⟨.sl true o.e o.r, o.xs⟩, [k])
  | _ => .fail
def outLeaves : List Ty → List Leaf → Tr (List ALeaf × List Nat)
  | [], [] => .ret ([], [])
  | t :: ts, l :: ls => (outLeaf t l).bind fun x => (outLeaves ts ls).bind fun y => .ret (x.1 :: y.1, x.2 ++ y.2)
  | _, _ => .fail
def outVal (E : Env) (N M : Nat) (t : TypeId) : SV → Tr (A1 × List Nat)
  | .s (.one l) => (outLeaf ((((E.ti t).cells).getD []).headD .unit) l).bind fun x => .ret (.one x.1, x.2)
  | .s (.ag ls) => (outLeaves (((E.ti t).cells).getD []) ls).bind fun x => .ret (.ag x.1, x.2)
  | .s (.pl k off) => if N + 1 ≤ k ∧ k < N + 1 + M then .ret (.pl (k - (N + 1)) off, []) else .fail
  | _ => .fail
def outVals (E : Env) (N M : Nat) (S : St) : List ResultVar → List TypeId → Tr (List A1 × List Nat)
  | [], [] => .ret ([], [])
  | .tmp s :: rs, t :: ts => (outVal E N M t (S.sl s)).bind fun x => (outVals E N M S rs ts).bind fun y => .ret (x.1 :: y.1, x.2 ++ y.2)
  | .cell s t' :: rs, t :: ts => match S.sl s, (E.ti t').cells with
    | .s a, some cs => if cs.isEmpty then .fail else (if (E.ti t').isAgg then (ldCells a cs.length 0).bind fun ls => Tr.ret (SV.s (.ag ls)) else (ldCell a 0).bind fun l => Tr.ret (SV.s (.one l))).bind fun v =>
        (outVal E N M t v).bind fun x => (outVals E N M S rs ts).bind fun y => .ret (x.1 :: y.1, x.2 ++ y.2)
    | _, _ => .fail
  | _, _ => .fail
def outRow (k : Nat) : List ALeaf → Nat → Tr (List ALeaf × List Nat)
  | [], _ => .ret ([], [])
  | r :: rs, c => .rdC k c fun l => (outLeaf r.1 l).bind fun x => (outRow k rs (c + 1)).bind fun y => .ret (x.1 :: y.1, x.2 ++ y.2)
def outRows (N : Nat) : List (List ALeaf) → Nat → Tr (List (List ALeaf) × List Nat)
  | [], _ => .ret ([], [])
  | r :: rs, m => .rdM (N + 1 + m) fun n => if n = some r.length then (outRow (N + 1 + m) r 0).bind fun x => (outRows N rs (m + 1)).bind fun y => .ret (x.1 :: y.1, x.2 ++ y.2)
    else .fail
def lentAt (S : St) (p : Nat × Nat) : Leaf := match S.sl p.1 with
  | .s (.one l) => if p.2 = 0 then l else .no
  | .s (.ag ls) => ls.getD p.2 .no
  | _ => .no
def outLents (S : St) : List (Nat × Nat) → Tr (List ((Nat × Nat) × ALeaf) × List Nat)
  | [] => .ret ([], [])
  | p :: ps => match lentAt S p with
    | .vw k [] none => (viewT k [] none).bind fun o => (outLents S ps).bind fun y => .ret ((p, ⟨.sl true o.e o.r, o.xs⟩) :: y.1, k :: y.2)
    | _ => .fail
def finish (E : Env) (N : Nat) (fn : Func) (rows : List (List ALeaf)) (ln : List (Nat × Nat)) (S : St) : Tr Res :=
  (((outVals E N rows.length S fn.results.toList fn.resultTypes.toList).bind fun v => (outRows N rows 0).bind fun r => (outLents S ln).bind fun t => Tr.ret (v, r, t)).at S []).bind fun p =>
    if unlike (p.1.1.2 ++ (p.1.2.1.2 ++ p.1.2.2.2)) then .ret ⟨p.1.1.1, p.1.2.1.1, p.1.2.2.1⟩ else .fail
noncomputable def vfun (E : Env) (fn : Func) (J : Joins) (ann : Ann) (ln : List (Nat × Nat)) (args : List A1) (rows : List (List ALeaf)) : Tr Res :=
  match fn.body with
  | some c => if (args.length = fn.params.size + fn.nfree ∧ args.length ≤ fn.ntmps) ∧ ln.all (fun p => E.fx.contains p.1 && decide (p.1 < args.length)) = true then
      match start fn.ntmps args rows with
      | some S => (joined J (vcode E fn.ntmps ann c S)).bind fun r => match r.1 with
        | .x _ => .fail
        | _ => finish E fn.ntmps fn rows ln r.2
      | none => .fail
      else .fail
  | none => .fail
end Go.V

set_option linter.unusedVariables false
set_option maxRecDepth 100000
namespace Go.V.G
noncomputable section
def s_l1Cur_next_f (x0 : List Int) (x1 : Int) (x2 : Int) : Option ((Int × (List Int × (Int × Int)))) :=
  Option.bind (α := (Int × (List Int × (Int × Int)))) (
      if (decide ((x1 : Int) < ((List.length x0 : Nat) : Int))) = true then
        if (decide ((0 : Int) ≤ x1)) = true then
        Option.bind (x0[Int.toNat x1]?) fun r1 =>
        some (IntKind.wrap .i64 r1, x0, x1, x2)
        else none
      else
        some (0, x0, x1, x2)) fun v2 =>
  if (decide ((IntKind.wrap .i64 (v2.2.2.1 + 1) : Int) ≤ ((List.length v2.2.1 : Nat) : Int))) = true then
    some (v2.1, v2.2.1, IntKind.wrap .i64 (v2.2.2.1 + 1), IntKind.wrap .u64 ((IntKind.wrap .u64 ((IntKind.wrap .u64 (v2.2.2.2 * 6364136223846793005)) + (IntKind.wrap .u64 v2.1))) + 1442695040888963407))
  else
  if (decide ((0 : Int) ≤ 40)) = true then
  some (IntKind.wrap .i64 (IntKind.wrap .u64 (((BitVec.ofInt (IntKind.bits .u64) (Int.fdiv (IntKind.wrap .u64 ((IntKind.wrap .u64 ((IntKind.wrap .u64 (v2.2.2.2 * 6364136223846793005)) + (IntKind.wrap .u64 v2.1))) + 1442695040888963407)) (2 ^ (min (Int.toNat 40) (IntKind.bits .u64)))) &&& BitVec.ofInt (IntKind.bits .u64) 255).toNat : Int))), v2.2.1, IntKind.wrap .i64 (v2.2.2.1 + 1), IntKind.wrap .u64 ((IntKind.wrap .u64 ((IntKind.wrap .u64 (v2.2.2.2 * 6364136223846793005)) + (IntKind.wrap .u64 v2.1))) + 1442695040888963407))
  else none
def s_l1Cur_pick_f (x0 : Int) (x1 : List Int) (x2 : Int) (x3 : Int) : Option ((Int × (List Int × (Int × Int)))) :=
  if (decide ((x0 : Int) ≤ 1)) = true then
    some (0, x1, x2, x3)
  else
    Option.bind (s_l1Cur_next_f x1 x2 x3) fun c1 =>
    Option.bind (α := (Int × (Int × (List Int × (Int × Int))))) (
        if (decide ((200 : Int) < x0)) = true then
          Option.bind (s_l1Cur_next_f c1.2.1 c1.2.2.1 c1.2.2.2) fun c2 =>
          some (x0, IntKind.wrap .i64 ((IntKind.wrap .i64 (c1.1 * 256)) + c2.1), c2.2.1, c2.2.2.1, c2.2.2.2)
        else
          some (x0, c1.1, c1.2.1, c1.2.2.1, c1.2.2.2)) fun v3 =>
    if (decide (¬ (v3.1 : Int) = 0)) = true then
    some (Int.tmod v3.2.1 v3.1, v3.2.2.1, v3.2.2.2.1, v3.2.2.2.2)
    else none
def s_l1In (x0 : Int) (x1 : Int) (x2 : Int) : Option (Bool) :=
  Option.bind (α := Bool) (
      if (decide ((x1 : Int) ≤ x0)) = true then
        some (decide ((x0 : Int) ≤ x2))
      else
      some false) fun v1 =>
  some v1
def s_NewDisk_L1 (y : (Int × (Int × (Bool × (Int × (List (List Int) × (Int × (Bool × Int)))))))) : Option ((Int × (Int × (Bool × (Int × (List (List Int) × (Int × (Bool × Int))))))) ⊕ (Int × (Bool × (Int × (List (List Int) × (Int × (Bool × Int))))))) :=
  if (decide ((0 : Int) < y.1)) = true then
    if (decide ((0 : Int) ≤ 128)) = true then
    if (decide ((128 : Int) ≤ 128)) = true then
    if (roomFor (Int.toNat 128) 1) = true then
    if (roomFor (List.length y.2.2.2.2.1 + List.length ([List.replicate (Int.toNat 128) (0 : Int)] : List (List Int))) 24) = true then
    some (.inl (IntKind.wrap .i64 (y.1 - 1), y.2.1, y.2.2.1, y.2.2.2.1, y.2.2.2.2.1 ++ ([List.replicate (Int.toNat 128) (0 : Int)] : List (List Int)), y.2.2.2.2.2.1, y.2.2.2.2.2.2.1, y.2.2.2.2.2.2.2))
    else none
    else none
    else none
    else none
  else
    some (.inr (y.2.1, y.2.2.1, y.2.2.2.1, y.2.2.2.2.1, y.2.2.2.2.2.1, y.2.2.2.2.2.2.1, y.2.2.2.2.2.2.2))
def s_NewDisk (x0 : Int) : Option ((Bool × (List (List Int) × (Int × (Bool × Int))))) :=
  Option.bind (s_l1In x0 40 160) fun c1 =>
  if (!c1) = true then
    some (false, [], 0, false, 0)
  else
    Option.bind (loopG s_NewDisk_L1 (x0, 0, false, 0, [], 0, true, (-1))) fun v2 =>
    some (true, v2.2.2.2.1, v2.2.2.2.2.1, v2.2.2.2.2.2.1, v2.2.2.2.2.2.2)
def s_l5Set_l (x0 : List Int) (x1 : Int) (x2 : Bool) : Option (List Int) :=
  Option.bind (α := List Int) (
      if x2 = true then
        if (decide (¬ (8 : Int) = 0)) = true then
        if (decide ((0 : Int) ≤ IntKind.wrap .i64 (Int.tdiv x1 8))) = true then
        if (decide ((IntKind.wrap .i64 (Int.tdiv x1 8) : Int) < ((List.length x0 : Nat) : Int))) = true then
        Option.bind (x0[0 + Int.toNat (IntKind.wrap .i64 (Int.tdiv x1 8))]?) fun r1 =>
        if (decide (¬ (8 : Int) = 0)) = true then
        if (decide ((0 : Int) ≤ IntKind.wrap .u64 (Int.tmod x1 8))) = true then
        if (decide ((0 : Int) ≤ IntKind.wrap .i64 (Int.tdiv x1 8))) = true then
        if (decide ((IntKind.wrap .i64 (Int.tdiv x1 8) : Int) < ((List.length x0 : Nat) : Int))) = true then
        Option.bind (x0[0 + Int.toNat (IntKind.wrap .i64 (Int.tdiv x1 8))]?) fun r2 =>
        Option.bind (x0[0 + Int.toNat (IntKind.wrap .i64 (Int.tdiv x1 8))]?) fun r3 =>
        some (x0.set (0 + Int.toNat (IntKind.wrap .i64 (Int.tdiv x1 8))) (IntKind.wrap .u8 (((BitVec.ofInt (IntKind.bits .u8) r1 ||| BitVec.ofInt (IntKind.bits .u8) (IntKind.wrap .u8 (1 * 2 ^ (min (Int.toNat (IntKind.wrap .u64 (Int.tmod x1 8))) (IntKind.bits .u8))))).toNat : Int))))
        else none
        else none
        else none
        else none
        else none
        else none
        else none
      else
      if (decide (¬ (8 : Int) = 0)) = true then
      if (decide ((0 : Int) ≤ IntKind.wrap .i64 (Int.tdiv x1 8))) = true then
      if (decide ((IntKind.wrap .i64 (Int.tdiv x1 8) : Int) < ((List.length x0 : Nat) : Int))) = true then
      Option.bind (x0[0 + Int.toNat (IntKind.wrap .i64 (Int.tdiv x1 8))]?) fun r4 =>
      if (decide (¬ (8 : Int) = 0)) = true then
      if (decide ((0 : Int) ≤ IntKind.wrap .u64 (Int.tmod x1 8))) = true then
      if (decide ((0 : Int) ≤ IntKind.wrap .i64 (Int.tdiv x1 8))) = true then
      if (decide ((IntKind.wrap .i64 (Int.tdiv x1 8) : Int) < ((List.length x0 : Nat) : Int))) = true then
      Option.bind (x0[0 + Int.toNat (IntKind.wrap .i64 (Int.tdiv x1 8))]?) fun r5 =>
      Option.bind (x0[0 + Int.toNat (IntKind.wrap .i64 (Int.tdiv x1 8))]?) fun r6 =>
      some (x0.set (0 + Int.toNat (IntKind.wrap .i64 (Int.tdiv x1 8))) (IntKind.wrap .u8 (((BitVec.ofInt (IntKind.bits .u8) r4 &&& ~~~ BitVec.ofInt (IntKind.bits .u8) (IntKind.wrap .u8 (1 * 2 ^ (min (Int.toNat (IntKind.wrap .u64 (Int.tmod x1 8))) (IntKind.bits .u8))))).toNat : Int))))
      else none
      else none
      else none
      else none
      else none
      else none
      else none) fun v7 =>
  some v7
def s_l5Fresh_L1 (y : (Int × (List (List Int) × List Int))) : Option ((Int × (List (List Int) × List Int)) ⊕ (List (List Int) × List Int)) :=
  if (decide ((y.1 : Int) < 33)) = true then
    Option.bind (s_l5Set_l y.2.2 y.1 true) fun c2 =>
    some (.inl (IntKind.wrap .i64 (y.1 + 1), y.2.1, c2))
  else
    some (.inr (y.2.1, y.2.2))
def s_l5Fresh (x0 : Int) : Option ((List (List Int) × List Int)) :=
  Option.bind (s_NewDisk x0) fun c1 =>
  if (decide ((0 : Int) ≤ 20)) = true then
  if (decide ((20 : Int) ≤ 20)) = true then
  if (roomFor (Int.toNat 20) 1) = true then
  Option.bind (loopG s_l5Fresh_L1 (0, c1.2.1, List.replicate (Int.toNat 20) (0 : Int))) fun v3 =>
  some (v3.1, v3.2)
  else none
  else none
  else none
def s_l5Used (x0 : List Int) (x1 : Int) : Option (Bool) :=
  if (decide (¬ (8 : Int) = 0)) = true then
  if (decide ((0 : Int) ≤ IntKind.wrap .i64 (Int.tdiv x1 8))) = true then
  Option.bind (x0[Int.toNat (IntKind.wrap .i64 (Int.tdiv x1 8))]?) fun r1 =>
  if (decide (¬ (8 : Int) = 0)) = true then
  if (decide ((0 : Int) ≤ IntKind.wrap .u64 (Int.tmod x1 8))) = true then
  some (decide ((IntKind.wrap .u8 (((BitVec.ofInt (IntKind.bits .u8) (Int.fdiv r1 (2 ^ (min (Int.toNat (IntKind.wrap .u64 (Int.tmod x1 8))) (IntKind.bits .u8)))) &&& BitVec.ofInt (IntKind.bits .u8) 1).toNat : Int)) : Int) = 1))
  else none
  else none
  else none
  else none
def s_l5Put_L1 (y : (List Int × (Int × Int))) : Option ((List Int × (Int × Int)) ⊕ (List Int × (Int × Int))) :=
  Option.bind (α := (List Int × (Int × (Int × Bool)))) (
      if (decide ((y.2.2 : Int) < ((List.length y.1 : Nat) : Int))) = true then
        if (decide ((0 : Int) ≤ y.2.2)) = true then
        if (decide ((y.2.2 : Int) < ((List.length y.1 : Nat) : Int))) = true then
        Option.bind (y.1[0 + Int.toNat y.2.2]?) fun r1 =>
        some (y.1, y.2.1, y.2.2, decide ((r1 : Int) < y.2.1))
        else none
        else none
      else
      some (y.1, y.2.1, y.2.2, false)) fun v2 =>
  if v2.2.2.2 = true then
    some (.inl (v2.1, v2.2.1, IntKind.wrap .i64 (v2.2.2.1 + 1)))
  else
    some (.inr (v2.1, v2.2.1, v2.2.2.1))
def s_l5Put (x0 : List Int) (x1 : Int) : Option (List Int) :=
  Option.bind (loopG s_l5Put_L1 (x0, x1, 0)) fun v3 =>
  Option.bind (α := (List Int × (Int × (Int × Bool)))) (
      if (decide ((v3.2.2 : Int) < ((List.length v3.1 : Nat) : Int))) = true then
        if (decide ((0 : Int) ≤ v3.2.2)) = true then
        if (decide ((v3.2.2 : Int) < ((List.length v3.1 : Nat) : Int))) = true then
        Option.bind (v3.1[0 + Int.toNat v3.2.2]?) fun r4 =>
        some (v3.1, v3.2.1, v3.2.2, decide ((r4 : Int) = v3.2.1))
        else none
        else none
      else
      some (v3.1, v3.2.1, v3.2.2, false)) fun v5 =>
  if v5.2.2.2 = true then
    some v5.1
  else
  if (decide ((0 : Int) ≤ 0)) = true then
  if (decide ((0 : Int) ≤ v5.2.2.1)) = true then
  if (decide ((v5.2.2.1 : Int) ≤ ((List.length v5.1 : Nat) : Int))) = true then
  if (decide ((((List.length v5.1 : Nat) : Int) : Int) ≤ ((List.length v5.1 : Nat) : Int))) = true then
  if (roomFor (List.length ([] : List Int) + List.length ((v5.1.drop (Int.toNat 0)).take (Int.toNat v5.2.2.1 - Int.toNat 0))) 8) = true then
  if (roomFor (List.length (([] : List Int) ++ ((v5.1.drop (Int.toNat 0)).take (Int.toNat v5.2.2.1 - Int.toNat 0))) + List.length ([v5.2.1] : List Int)) 8) = true then
  if (decide ((0 : Int) ≤ v5.2.2.1)) = true then
  if (decide ((v5.2.2.1 : Int) ≤ ((List.length v5.1 : Nat) : Int))) = true then
  if (decide ((((List.length v5.1 : Nat) : Int) : Int) ≤ ((List.length v5.1 : Nat) : Int))) = true then
  if (decide ((((List.length v5.1 : Nat) : Int) : Int) ≤ ((List.length v5.1 : Nat) : Int))) = true then
  if (roomFor (List.length ((([] : List Int) ++ ((v5.1.drop (Int.toNat 0)).take (Int.toNat v5.2.2.1 - Int.toNat 0))) ++ ([v5.2.1] : List Int)) + List.length ((v5.1.drop (Int.toNat v5.2.2.1)).take (Int.toNat ((List.length v5.1 : Nat) : Int) - Int.toNat v5.2.2.1))) 8) = true then
  some (((([] : List Int) ++ ((v5.1.drop (Int.toNat 0)).take (Int.toNat v5.2.2.1 - Int.toNat 0))) ++ ([v5.2.1] : List Int)) ++ ((v5.1.drop (Int.toNat v5.2.2.1)).take (Int.toNat ((List.length v5.1 : Nat) : Int) - Int.toNat v5.2.2.1)))
  else none
  else none
  else none
  else none
  else none
  else none
  else none
  else none
  else none
  else none
  else none
def s_l5Take_oooo_L1 (y : (Int × (List (List Int) × (List Int × (List Int × List Int))))) : Option ((Int × (List (List Int) × (List Int × (List Int × List Int)))) ⊕ ((List (List Int) × (List Int × (List Int × List Int))) ⊕ (Int × (List (List Int) × (List Int × (List Int × List Int)))))) :=
  if (decide ((y.1 : Int) < ((List.length y.2.1 : Nat) : Int))) = true then
    Option.bind (s_l5Used y.2.2.1 y.1) fun c1 =>
    if (!c1) = true then
      Option.bind (s_l5Set_l y.2.2.1 y.1 true) fun c2 =>
      if (decide ((0 : Int) ≤ 128)) = true then
      if (decide ((128 : Int) ≤ 128)) = true then
      if (roomFor (Int.toNat 128) 1) = true then
      if (decide ((0 : Int) ≤ y.1)) = true then
      if (decide ((y.1 : Int) < ((List.length y.2.1 : Nat) : Int))) = true then
      Option.bind (y.2.1[0 + Int.toNat y.1]?) fun r3 =>
      Option.bind (y.2.1[0 + Int.toNat y.1]?) fun r4 =>
      Option.bind (s_l5Put y.2.2.2.2 y.1) fun c5 =>
      some (.inr (.inr (y.1, y.2.1.set (0 + Int.toNat y.1) (List.replicate (Int.toNat 128) (0 : Int)), c2, y.2.2.2.1, c5)))
      else none
      else none
      else none
      else none
      else none
    else
      some (.inl (IntKind.wrap .i64 (y.1 + 1), y.2.1, y.2.2.1, y.2.2.2.1, y.2.2.2.2))
  else
    some (.inr (.inl (y.2.1, y.2.2.1, y.2.2.2.1, y.2.2.2.2)))
def s_l5Take_oooo (x0 : List (List Int)) (x1 : List Int) (x2 : List Int) (x3 : List Int) : Option ((Int × (List (List Int) × (List Int × (List Int × List Int))))) :=
  Option.bind (loopG s_l5Take_oooo_L1 (33, x0, x1, x2, x3)) fun v6 =>
  match v6 with
  | .inl y7 =>
    some (0, y7.1, y7.2.1, y7.2.2.1, y7.2.2.2)
  | .inr s8 =>
    some (s8.1, s8.2.1, s8.2.2.1, s8.2.2.2.1, s8.2.2.2.2)
def s_l5Has_L1 (y : (Int × (List Int × (Int × Int)))) : Option ((Int × (List Int × (Int × Int))) ⊕ (Unit ⊕ Bool)) :=
  if (decide ((y.2.2.2 : Int) < y.2.2.1)) = true then
    if (decide ((0 : Int) ≤ y.2.2.2)) = true then
    Option.bind (y.2.1[Int.toNat y.2.2.2]?) fun r1 =>
    if (decide ((r1 : Int) = y.1)) = true then
      some (.inr (.inr true))
    else
      some (.inl (y.1, y.2.1, y.2.2.1, IntKind.wrap .i64 (y.2.2.2 + 1)))
    else none
  else
    some (.inr (.inl ()))
def s_l5Has (x0 : List Int) (x1 : Int) : Option (Bool) :=
  Option.bind (loopG s_l5Has_L1 (x1, x0, ((List.length x0 : Nat) : Int), 0)) fun v2 =>
  match v2 with
  | .inl y3 =>
    some false
  | .inr s4 =>
    some s4
def s_l5Live (x0 : List (List Int)) (x1 : List Int) (x2 : List Int) (x3 : List Int) (x4 : Int) : Option (Bool) :=
  Option.bind (α := Bool) (
      Option.bind (s_l1In x4 33 (IntKind.wrap .i64 (((List.length x0 : Nat) : Int) - 1))) fun c1 =>
      if c1 = true then
        Option.bind (s_l5Used x1 x4) fun c2 =>
        if c2 = true then
          Option.bind (s_l5Has x2 x4) fun c3 =>
          some (!c3)
        else
        some false
      else
      some false) fun v4 =>
  some v4
def s_l1Cur_one_f (x0 : Int) (x1 : List Int) (x2 : Int) (x3 : Int) : Option ((Bool × (List Int × (Int × Int)))) :=
  Option.bind (s_l1Cur_pick_f x0 x1 x2 x3) fun c1 =>
  some (decide ((c1.1 : Int) = 0), c1.2.1, c1.2.2.1, c1.2.2.2)
def s_l1Cur_among_f (x0 : List Int) (x1 : List Int) (x2 : Int) (x3 : Int) : Option ((Int × (List Int × (Int × Int)))) :=
  Option.bind (s_l1Cur_pick_f ((List.length x0 : Nat) : Int) x1 x2 x3) fun c1 =>
  if (decide ((0 : Int) ≤ c1.1)) = true then
  if (decide ((c1.1 : Int) < ((List.length x0 : Nat) : Int))) = true then
  Option.bind (x0[0 + Int.toNat c1.1]?) fun r2 =>
  some (r2, c1.2.1, c1.2.2.1, c1.2.2.2)
  else none
  else none
def s_GoodSpace_L1 (y : (Int × (List (List Int) × (Int × (Int × (List (List Int) × (List Int × (List Int × List Int)))))))) : Option ((Int × (List (List Int) × (Int × (Int × (List (List Int) × (List Int × (List Int × List Int))))))) ⊕ ((Int × (List (List Int) × (List Int × (List Int × List Int)))) ⊕ Bool)) :=
  if (decide ((y.2.2.2.1 : Int) < y.2.2.1)) = true then
    if (decide ((0 : Int) ≤ y.2.2.2.1)) = true then
    Option.bind (y.2.1[Int.toNat y.2.2.2.1]?) fun r3 =>
    if (decide (¬ (((List.length r3 : Nat) : Int) : Int) = 128)) = true then
      some (.inr (.inr false))
    else
      some (.inl (y.1, y.2.1, y.2.2.1, IntKind.wrap .i64 (y.2.2.2.1 + 1), y.2.2.2.2.1, y.2.2.2.2.2.1, y.2.2.2.2.2.2.1, y.2.2.2.2.2.2.2))
    else none
  else
    some (.inr (.inl (y.1, y.2.2.2.2.1, y.2.2.2.2.2.1, y.2.2.2.2.2.2.1, y.2.2.2.2.2.2.2)))
def s_GoodSpace_L2 (y : (Int × (Int × (List (List Int) × (List Int × (List Int × List Int)))))) : Option ((Int × (Int × (List (List Int) × (List Int × (List Int × List Int))))) ⊕ ((Int × (List (List Int) × (List Int × (List Int × List Int)))) ⊕ Bool)) :=
  if (decide ((y.2.1 : Int) < 160)) = true then
    Option.bind (s_l5Used y.2.2.2.1 y.2.1) fun c7 =>
    Option.bind (α := (Int × (Int × (Bool × (List (List Int) × (List Int × (List Int × List Int))))))) (
        if (decide ((y.2.1 : Int) < 33)) = true then
          if (!c7) = true then
            some (y.1, y.2.1, true, y.2.2.1, y.2.2.2.1, y.2.2.2.2.1, y.2.2.2.2.2)
          else
          if (decide ((y.1 : Int) ≤ y.2.1)) = true then
            some (y.1, y.2.1, c7, y.2.2.1, y.2.2.2.1, y.2.2.2.2.1, y.2.2.2.2.2)
          else
          some (y.1, y.2.1, false, y.2.2.1, y.2.2.2.1, y.2.2.2.2.1, y.2.2.2.2.2)
        else
        if (decide ((y.1 : Int) ≤ y.2.1)) = true then
          some (y.1, y.2.1, c7, y.2.2.1, y.2.2.2.1, y.2.2.2.2.1, y.2.2.2.2.2)
        else
        some (y.1, y.2.1, false, y.2.2.1, y.2.2.2.1, y.2.2.2.2.1, y.2.2.2.2.2)) fun v8 =>
    if v8.2.2.1 = true then
      some (.inr (.inr false))
    else
      some (.inl (v8.1, IntKind.wrap .i64 (v8.2.1 + 1), v8.2.2.2.1, v8.2.2.2.2.1, v8.2.2.2.2.2.1, v8.2.2.2.2.2.2))
  else
    some (.inr (.inl (y.1, y.2.2.1, y.2.2.2.1, y.2.2.2.2.1, y.2.2.2.2.2)))
def s_GoodSpace_L3 (y : (Int × (List Int × (List (List Int) × (Int × (Int × (List Int × (Int × (Int × (List (List Int) × (List Int × (List Int × List Int)))))))))))) : Option ((Int × (List Int × (List (List Int) × (Int × (Int × (List Int × (Int × (Int × (List (List Int) × (List Int × (List Int × List Int))))))))))) ⊕ ((Int × (List (List Int) × (Int × (Int × (List (List Int) × (List Int × (List Int × List Int))))))) ⊕ Bool)) :=
  if (decide ((y.2.2.2.2.2.2.2.1 : Int) < y.2.2.2.2.2.2.1)) = true then
    if (decide ((0 : Int) ≤ y.2.2.2.2.2.2.2.1)) = true then
    Option.bind (y.2.2.2.2.2.1[Int.toNat y.2.2.2.2.2.2.2.1]?) fun r13 =>
    Option.bind (α := (Int × (List Int × (List (List Int) × (Int × (Int × (List Int × (Int × (Int × (Bool × (List (List Int) × (List Int × (List Int × List Int))))))))))))) (
        Option.bind (s_l1In r13 33 (IntKind.wrap .i64 (y.1 - 1))) fun c14 =>
        if (!c14) = true then
          some (y.1, y.2.1, y.2.2.1, y.2.2.2.1, y.2.2.2.2.1, y.2.2.2.2.2.1, y.2.2.2.2.2.2.1, y.2.2.2.2.2.2.2.1, true, y.2.2.2.2.2.2.2.2.1, y.2.2.2.2.2.2.2.2.2.1, y.2.2.2.2.2.2.2.2.2.2.1, y.2.2.2.2.2.2.2.2.2.2.2)
        else
          Option.bind (s_l5Used y.2.2.2.2.2.2.2.2.2.1 r13) fun c15 =>
          if (!c15) = true then
            some (y.1, y.2.1, y.2.2.1, y.2.2.2.1, y.2.2.2.2.1, y.2.2.2.2.2.1, y.2.2.2.2.2.2.1, y.2.2.2.2.2.2.2.1, true, y.2.2.2.2.2.2.2.2.1, y.2.2.2.2.2.2.2.2.2.1, y.2.2.2.2.2.2.2.2.2.2.1, y.2.2.2.2.2.2.2.2.2.2.2)
          else
          if (decide ((0 : Int) < y.2.2.2.2.2.2.2.1)) = true then
            if (decide ((0 : Int) ≤ IntKind.wrap .i64 (y.2.2.2.2.2.2.2.1 - 1))) = true then
            Option.bind (y.2.1[Int.toNat (IntKind.wrap .i64 (y.2.2.2.2.2.2.2.1 - 1))]?) fun r16 =>
            some (y.1, y.2.1, y.2.2.1, y.2.2.2.1, y.2.2.2.2.1, y.2.2.2.2.2.1, y.2.2.2.2.2.2.1, y.2.2.2.2.2.2.2.1, decide ((r13 : Int) ≤ r16), y.2.2.2.2.2.2.2.2.1, y.2.2.2.2.2.2.2.2.2.1, y.2.2.2.2.2.2.2.2.2.2.1, y.2.2.2.2.2.2.2.2.2.2.2)
            else none
          else
          some (y.1, y.2.1, y.2.2.1, y.2.2.2.1, y.2.2.2.2.1, y.2.2.2.2.2.1, y.2.2.2.2.2.2.1, y.2.2.2.2.2.2.2.1, false, y.2.2.2.2.2.2.2.2.1, y.2.2.2.2.2.2.2.2.2.1, y.2.2.2.2.2.2.2.2.2.2.1, y.2.2.2.2.2.2.2.2.2.2.2)) fun v17 =>
    if v17.2.2.2.2.2.2.2.2.1 = true then
      some (.inr (.inr false))
    else
      some (.inl (v17.1, v17.2.1, v17.2.2.1, v17.2.2.2.1, v17.2.2.2.2.1, v17.2.2.2.2.2.1, v17.2.2.2.2.2.2.1, IntKind.wrap .i64 (v17.2.2.2.2.2.2.2.1 + 1), v17.2.2.2.2.2.2.2.2.2.1, v17.2.2.2.2.2.2.2.2.2.2.1, v17.2.2.2.2.2.2.2.2.2.2.2.1, v17.2.2.2.2.2.2.2.2.2.2.2.2))
    else none
  else
    some (.inr (.inl (y.1, y.2.2.1, y.2.2.2.1, y.2.2.2.2.1, y.2.2.2.2.2.2.2.2.1, y.2.2.2.2.2.2.2.2.2.1, y.2.2.2.2.2.2.2.2.2.2.1, y.2.2.2.2.2.2.2.2.2.2.2)))
def s_GoodSpace_L4 (y : (Int × (List (List Int) × (Int × (Int × (List (List Int) × (List Int × (List Int × List Int)))))))) : Option ((Int × (List (List Int) × (Int × (Int × (List (List Int) × (List Int × (List Int × List Int))))))) ⊕ (Unit ⊕ Bool)) :=
  if (decide ((y.2.2.2.1 : Int) < y.2.2.1)) = true then
    if (decide ((0 : Int) ≤ y.2.2.2.1)) = true then
    if (decide ((y.2.2.2.1 : Int) < ((List.length y.2.1 : Nat) : Int))) = true then
    Option.bind (y.2.1[0 + Int.toNat y.2.2.2.1]?) fun r12 =>
    Option.bind (loopG s_GoodSpace_L3 (y.1, r12, y.2.1, y.2.2.1, y.2.2.2.1, r12, ((List.length r12 : Nat) : Int), 0, y.2.2.2.2.1, y.2.2.2.2.2.1, y.2.2.2.2.2.2.1, y.2.2.2.2.2.2.2)) fun v18 =>
    match v18 with
    | .inl y19 =>
      some (.inl (y19.1, y19.2.1, y19.2.2.1, IntKind.wrap .i64 (y19.2.2.2.1 + 1), y19.2.2.2.2.1, y19.2.2.2.2.2.1, y19.2.2.2.2.2.2.1, y19.2.2.2.2.2.2.2))
    | .inr s20 =>
      some (.inr (.inr s20))
    else none
    else none
  else
    some (.inr (.inl ()))
def s_GoodSpace (x0 : List (List Int)) (x1 : List Int) (x2 : List Int) (x3 : List Int) : Option (Bool) :=
  Option.bind (α := (Int × (Bool × (List (List Int) × (List Int × (List Int × List Int)))))) (
      Option.bind (s_l1In ((List.length x0 : Nat) : Int) 40 160) fun c1 =>
      if (!c1) = true then
        some (((List.length x0 : Nat) : Int), true, x0, x1, x2, x3)
      else
      some (((List.length x0 : Nat) : Int), decide (¬ (((List.length x1 : Nat) : Int) : Int) = 20), x0, x1, x2, x3)) fun v2 =>
  if v2.2.1 = true then
    some false
  else
    Option.bind (loopG s_GoodSpace_L1 (v2.1, v2.2.2.1, ((List.length v2.2.2.1 : Nat) : Int), 0, v2.2.2.1, v2.2.2.2.1, v2.2.2.2.2.1, v2.2.2.2.2.2)) fun v4 =>
    match v4 with
    | .inl y5 =>
      Option.bind (loopG s_GoodSpace_L2 (y5.1, 0, y5.2.1, y5.2.2.1, y5.2.2.2.1, y5.2.2.2.2)) fun v9 =>
      match v9 with
      | .inl y10 =>
        Option.bind (loopG s_GoodSpace_L4 (y10.1, [y10.2.2.2.1, y10.2.2.2.2], ((List.length [y10.2.2.2.1, y10.2.2.2.2] : Nat) : Int), 0, y10.2.1, y10.2.2.1, y10.2.2.2.1, y10.2.2.2.2)) fun v21 =>
        match v21 with
        | .inl y22 =>
          some true
        | .inr s23 =>
          some s23
      | .inr s11 =>
        some s11
    | .inr s6 =>
      some s6
def s_l6Numbers_L1 (y : (Int × (List Int × (Int × (List (List Int) × (List Int × (List Int × List Int))))))) : Option ((Int × (List Int × (Int × (List (List Int) × (List Int × (List Int × List Int)))))) ⊕ (Int × (List Int × (List (List Int) × (List Int × (List Int × List Int)))))) :=
  if (decide ((y.2.2.1 : Int) < 32)) = true then
    if (decide ((0 : Int) ≤ y.1)) = true then
    Option.bind (y.2.2.2.1[Int.toNat y.1]?) fun r9 =>
    if (decide ((0 : Int) ≤ IntKind.wrap .i64 (1 + (IntKind.wrap .i64 (2 * y.2.2.1))))) = true then
    Option.bind (r9[Int.toNat (IntKind.wrap .i64 (1 + (IntKind.wrap .i64 (2 * y.2.2.1))))]?) fun r10 =>
    if (decide ((0 : Int) ≤ y.1)) = true then
    Option.bind (y.2.2.2.1[Int.toNat y.1]?) fun r11 =>
    if (decide ((0 : Int) ≤ IntKind.wrap .i64 (2 + (IntKind.wrap .i64 (2 * y.2.2.1))))) = true then
    Option.bind (r11[Int.toNat (IntKind.wrap .i64 (2 + (IntKind.wrap .i64 (2 * y.2.2.1))))]?) fun r12 =>
    if (roomFor (List.length y.2.1 + List.length ([IntKind.wrap .i64 ((IntKind.wrap .i64 ((IntKind.wrap .i64 r10) * 256)) + (IntKind.wrap .i64 r12))] : List Int)) 8) = true then
    some (.inl (y.1, y.2.1 ++ ([IntKind.wrap .i64 ((IntKind.wrap .i64 ((IntKind.wrap .i64 r10) * 256)) + (IntKind.wrap .i64 r12))] : List Int), IntKind.wrap .i64 (y.2.2.1 + 1), y.2.2.2.1, y.2.2.2.2.1, y.2.2.2.2.2.1, y.2.2.2.2.2.2))
    else none
    else none
    else none
    else none
    else none
  else
    some (.inr (y.1, y.2.1, y.2.2.2.1, y.2.2.2.2.1, y.2.2.2.2.2.1, y.2.2.2.2.2.2))
def s_l6Numbers_L2 (y : (List Int × (List Int × (Int × Int)))) : Option ((List Int × (List Int × (Int × Int))) ⊕ (List Int ⊕ Bool)) :=
  if (decide ((y.2.2.2 : Int) < y.2.2.1)) = true then
    if (decide ((0 : Int) ≤ y.2.2.2)) = true then
    Option.bind (y.2.1[Int.toNat y.2.2.2]?) fun r15 =>
    if (decide (¬ (r15 : Int) = 0)) = true then
      some (.inr (.inr false))
    else
      some (.inl (y.1, y.2.1, y.2.2.1, IntKind.wrap .i64 (y.2.2.2 + 1)))
    else none
  else
    some (.inr (.inl y.1))
def s_l6Numbers (x0 : List (List Int)) (x1 : List Int) (x2 : List Int) (x3 : List Int) (x4 : Int) (x5 : Int) : Option ((List Int × Bool)) :=
  Option.bind (α := (Int × (Bool × (List (List Int) × (List Int × (List Int × List Int)))))) (
      Option.bind (s_l5Live x0 x1 x2 x3 x4) fun c1 =>
      if (!c1) = true then
        some (x4, true, x0, x1, x2, x3)
      else
      if (decide ((0 : Int) ≤ x4)) = true then
      Option.bind (x0[Int.toNat x4]?) fun r2 =>
      if (decide ((0 : Int) ≤ 0)) = true then
      Option.bind (r2[Int.toNat 0]?) fun r3 =>
      some (x4, decide (¬ (r3 : Int) = x5), x0, x1, x2, x3)
      else none
      else none) fun v4 =>
  if v4.2.1 = true then
    some ([], false)
  else
    Option.bind (loopG s_l6Numbers_L1 (v4.1, [], 0, v4.2.2.1, v4.2.2.2.1, v4.2.2.2.2.1, v4.2.2.2.2.2)) fun v13 =>
    if (decide ((0 : Int) ≤ v13.1)) = true then
    Option.bind (v13.2.2.1[Int.toNat v13.1]?) fun r14 =>
    if (decide ((0 : Int) ≤ 65)) = true then
    if (decide ((65 : Int) ≤ ((List.length r14 : Nat) : Int))) = true then
    if (decide ((((List.length r14 : Nat) : Int) : Int) ≤ ((List.length r14 : Nat) : Int))) = true then
    if (decide ((((List.length r14 : Nat) : Int) : Int) ≤ ((List.length r14 : Nat) : Int))) = true then
    Option.bind (loopG s_l6Numbers_L2 (v13.2.1, (List.drop (Int.toNat 65) r14).take (Int.toNat ((List.length r14 : Nat) : Int) - Int.toNat 65), ((List.length ((List.drop (Int.toNat 65) r14).take (Int.toNat ((List.length r14 : Nat) : Int) - Int.toNat 65)) : Nat) : Int), 0)) fun v16 =>
    match v16 with
    | .inl y17 =>
      some (y17, true)
    | .inr s18 =>
      some ([], s18)
    else none
    else none
    else none
    else none
    else none
def s_l6Any_L1 (y : (List Int × (Int × Int))) : Option ((List Int × (Int × Int)) ⊕ (Unit ⊕ Bool)) :=
  if (decide ((y.2.2 : Int) < y.2.1)) = true then
    if (decide ((0 : Int) ≤ y.2.2)) = true then
    Option.bind (y.1[Int.toNat y.2.2]?) fun r1 =>
    if (decide (¬ (r1 : Int) = 0)) = true then
      some (.inr (.inr true))
    else
      some (.inl (y.1, y.2.1, IntKind.wrap .i64 (y.2.2 + 1)))
    else none
  else
    some (.inr (.inl ()))
def s_l6Any (x0 : List Int) : Option (Bool) :=
  Option.bind (loopG s_l6Any_L1 (x0, ((List.length x0 : Nat) : Int), 0)) fun v2 =>
  match v2 with
  | .inl y3 =>
    some false
  | .inr s4 =>
    some s4
def s_l6Value (x0 : List (List Int)) (x1 : List Int) (x2 : List Int) (x3 : List Int) (x4 : Int) : Option (Bool) :=
  Option.bind (α := Bool) (
      Option.bind (s_l1In x4 33 (IntKind.wrap .i64 (((List.length x0 : Nat) : Int) - 1))) fun c1 =>
      if c1 = true then
        Option.bind (s_l5Used x1 x4) fun c2 =>
        some c2
      else
      some false) fun v3 =>
  some v3
def s_l6Tree_L1 (y : (List (List Int) × (List Int × (Int × (Int × (Int × (Int × (Int × (Int × (Int × (Int × (List (List Int) × (List Int × (List Int × List Int)))))))))))))) : Option ((List (List Int) × (List Int × (Int × (Int × (Int × (Int × (Int × (Int × (Int × (Int × (List (List Int) × (List Int × (List Int × List Int))))))))))))) ⊕ ((List (List Int) × (List Int × (Int × (Int × (Int × (Int × (List (List Int) × (List Int × (List Int × List Int))))))))) ⊕ Bool)) :=
  if (decide ((y.2.2.2.2.2.2.2.2.2.1 : Int) < y.2.2.2.2.2.2.2.2.1)) = true then
    if (decide ((0 : Int) ≤ y.2.2.2.2.2.2.2.2.2.1)) = true then
    if (decide ((y.2.2.2.2.2.2.2.2.2.1 : Int) < ((List.length ((y.2.1.drop (Int.toNat y.2.2.2.2.2.2.1)).take (Int.toNat y.2.2.2.2.2.2.2.1)) : Nat) : Int))) = true then
    Option.bind (y.2.1[(Int.toNat y.2.2.2.2.2.2.1) + Int.toNat y.2.2.2.2.2.2.2.2.2.1]?) fun r5 =>
    if (decide ((r5 : Int) = y.2.2.2.1)) = true then
      some (.inr (.inr false))
    else
      some (.inl (y.1, y.2.1, y.2.2.1, y.2.2.2.1, y.2.2.2.2.1, y.2.2.2.2.2.1, (((Int.toNat y.2.2.2.2.2.2.1) : Nat) : Int), (((Int.toNat y.2.2.2.2.2.2.2.1) : Nat) : Int), y.2.2.2.2.2.2.2.2.1, IntKind.wrap .i64 (y.2.2.2.2.2.2.2.2.2.1 + 1), y.2.2.2.2.2.2.2.2.2.2.1, y.2.2.2.2.2.2.2.2.2.2.2.1, y.2.2.2.2.2.2.2.2.2.2.2.2.1, y.2.2.2.2.2.2.2.2.2.2.2.2.2))
    else none
    else none
  else
    some (.inr (.inl (y.1, y.2.1, y.2.2.1, y.2.2.2.1, y.2.2.2.2.1, y.2.2.2.2.2.1, y.2.2.2.2.2.2.2.2.2.2.1, y.2.2.2.2.2.2.2.2.2.2.2.1, y.2.2.2.2.2.2.2.2.2.2.2.2.1, y.2.2.2.2.2.2.2.2.2.2.2.2.2)))
def s_l6Tree_L2 (y : (List (List Int) × (List Int × (Int × (List Int × (Int × (Int × (Int × (Int × (List (List Int) × (List Int × (List Int × List Int)))))))))))) : Option ((List (List Int) × (List Int × (Int × (List Int × (Int × (Int × (Int × (Int × (List (List Int) × (List Int × (List Int × List Int))))))))))) ⊕ ((List (List Int) × (List Int × (Int × (List Int × (Int × (Int × (List (List Int) × (List Int × (List Int × List Int))))))))) ⊕ Bool)) :=
  if (decide ((y.2.2.2.2.2.2.2.1 : Int) < y.2.2.2.2.2.2.1)) = true then
    if (decide ((0 : Int) ≤ y.2.2.2.2.2.2.2.1)) = true then
    if (decide ((y.2.2.2.2.2.2.2.1 : Int) < ((List.length y.2.2.2.1 : Nat) : Int))) = true then
    Option.bind (y.2.2.2.1[0 + Int.toNat y.2.2.2.2.2.2.2.1]?) fun r12 =>
    Option.bind (α := (List (List Int) × (List Int × (Int × (List Int × (Int × (Int × (Int × (Int × (Bool × (List (List Int) × (List Int × (List Int × List Int))))))))))))) (
        if (decide (¬ (r12 : Int) = 0)) = true then
          Option.bind (s_l6Value y.2.2.2.2.2.2.2.2.1 y.2.2.2.2.2.2.2.2.2.1 y.2.2.2.2.2.2.2.2.2.2.1 y.2.2.2.2.2.2.2.2.2.2.2 r12) fun c13 =>
          some (y.1, y.2.1, y.2.2.1, y.2.2.2.1, y.2.2.2.2.1, y.2.2.2.2.2.1, y.2.2.2.2.2.2.1, y.2.2.2.2.2.2.2.1, (!c13), y.2.2.2.2.2.2.2.2.1, y.2.2.2.2.2.2.2.2.2.1, y.2.2.2.2.2.2.2.2.2.2.1, y.2.2.2.2.2.2.2.2.2.2.2)
        else
        some (y.1, y.2.1, y.2.2.1, y.2.2.2.1, y.2.2.2.2.1, y.2.2.2.2.2.1, y.2.2.2.2.2.2.1, y.2.2.2.2.2.2.2.1, false, y.2.2.2.2.2.2.2.2.1, y.2.2.2.2.2.2.2.2.2.1, y.2.2.2.2.2.2.2.2.2.2.1, y.2.2.2.2.2.2.2.2.2.2.2)) fun v14 =>
    if v14.2.2.2.2.2.2.2.2.1 = true then
      some (.inr (.inr false))
    else
      some (.inl (v14.1, v14.2.1, v14.2.2.1, v14.2.2.2.1, v14.2.2.2.2.1, v14.2.2.2.2.2.1, v14.2.2.2.2.2.2.1, IntKind.wrap .i64 (v14.2.2.2.2.2.2.2.1 + 1), v14.2.2.2.2.2.2.2.2.2.1, v14.2.2.2.2.2.2.2.2.2.2.1, v14.2.2.2.2.2.2.2.2.2.2.2.1, v14.2.2.2.2.2.2.2.2.2.2.2.2))
    else none
    else none
  else
    some (.inr (.inl (y.1, y.2.1, y.2.2.1, y.2.2.2.1, y.2.2.2.2.1, y.2.2.2.2.2.1, y.2.2.2.2.2.2.2.2.1, y.2.2.2.2.2.2.2.2.2.1, y.2.2.2.2.2.2.2.2.2.2.1, y.2.2.2.2.2.2.2.2.2.2.2)))
def s_l6Tree_L3 (y : (List (List Int) × (List Int × (Int × (Int × (List (List Int) × (List Int × (List Int × List Int)))))))) : Option ((List (List Int) × (List Int × (Int × (Int × (List (List Int) × (List Int × (List Int × List Int))))))) ⊕ ((List (List Int) × List Int) ⊕ Bool)) :=
  if (decide ((y.2.2.2.1 : Int) < y.2.2.1)) = true then
    Option.bind (α := (List (List Int) × (List Int × (Int × (Int × (List (List Int) × (List Int × (List Int × List Int))))))) ⊕ Bool) (
        if (decide ((0 : Int) ≤ y.2.2.2.1)) = true then
        if (decide ((y.2.2.2.1 : Int) < ((List.length y.2.1 : Nat) : Int))) = true then
        Option.bind (y.2.1[0 + Int.toNat y.2.2.2.1]?) fun r4 =>
        if (decide ((r4 : Int) = 0)) = true then
          some (.inl (y.1, y.2.1, y.2.2.1, y.2.2.2.1, y.2.2.2.2.1, y.2.2.2.2.2.1, y.2.2.2.2.2.2.1, y.2.2.2.2.2.2.2))
        else
        if (decide ((0 : Int) ≤ 0)) = true then
        if (decide ((0 : Int) ≤ y.2.2.2.1)) = true then
        if (decide ((y.2.2.2.1 : Int) ≤ ((List.length y.2.1 : Nat) : Int))) = true then
        if (decide ((((List.length y.2.1 : Nat) : Int) : Int) ≤ ((List.length y.2.1 : Nat) : Int))) = true then
        Option.bind (loopG s_l6Tree_L1 (y.1, y.2.1, y.2.2.2.1, r4, y.2.2.1, y.2.2.2.1, (((Int.toNat 0) : Nat) : Int), (((Int.toNat y.2.2.2.1 - Int.toNat 0) : Nat) : Int), ((List.length ((y.2.1.drop (Int.toNat 0)).take (Int.toNat y.2.2.2.1 - Int.toNat 0)) : Nat) : Int), 0, y.2.2.2.2.1, y.2.2.2.2.2.1, y.2.2.2.2.2.2.1, y.2.2.2.2.2.2.2)) fun v6 =>
        match v6 with
        | .inl y7 =>
          Option.bind (s_l6Numbers y7.2.2.2.2.2.2.1 y7.2.2.2.2.2.2.2.1 y7.2.2.2.2.2.2.2.2.1 y7.2.2.2.2.2.2.2.2.2 y7.2.2.2.1 81) fun c9 =>
          Option.bind (α := (List (List Int) × (List Int × (Int × (List Int × (Int × (Int × (Bool × (List (List Int) × (List Int × (List Int × List Int))))))))))) (
              if (!c9.2) = true then
                some (y7.1, y7.2.1, y7.2.2.1, c9.1, y7.2.2.2.2.1, y7.2.2.2.2.2.1, true, y7.2.2.2.2.2.2.1, y7.2.2.2.2.2.2.2.1, y7.2.2.2.2.2.2.2.2.1, y7.2.2.2.2.2.2.2.2.2)
              else
                Option.bind (s_l6Any c9.1) fun c10 =>
                some (y7.1, y7.2.1, y7.2.2.1, c9.1, y7.2.2.2.2.1, y7.2.2.2.2.2.1, (!c10), y7.2.2.2.2.2.2.1, y7.2.2.2.2.2.2.2.1, y7.2.2.2.2.2.2.2.2.1, y7.2.2.2.2.2.2.2.2.2)) fun v11 =>
          if v11.2.2.2.2.2.2.1 = true then
            some (.inr false)
          else
            Option.bind (loopG s_l6Tree_L2 (v11.1, v11.2.1, v11.2.2.1, v11.2.2.2.1, v11.2.2.2.2.1, v11.2.2.2.2.2.1, ((List.length v11.2.2.2.1 : Nat) : Int), 0, v11.2.2.2.2.2.2.2.1, v11.2.2.2.2.2.2.2.2.1, v11.2.2.2.2.2.2.2.2.2.1, v11.2.2.2.2.2.2.2.2.2.2)) fun v15 =>
            match v15 with
            | .inl y16 =>
              if (decide ((0 : Int) ≤ y16.2.2.1)) = true then
              if (decide ((y16.2.2.1 : Int) < ((List.length y16.1 : Nat) : Int))) = true then
              Option.bind (y16.1[0 + Int.toNat y16.2.2.1]?) fun r18 =>
              Option.bind (y16.1[0 + Int.toNat y16.2.2.1]?) fun r19 =>
              some (.inl (y16.1.set (0 + Int.toNat y16.2.2.1) y16.2.2.2.1, y16.2.1, y16.2.2.2.2.1, y16.2.2.2.2.2.1, y16.2.2.2.2.2.2.1, y16.2.2.2.2.2.2.2.1, y16.2.2.2.2.2.2.2.2.1, y16.2.2.2.2.2.2.2.2.2))
              else none
              else none
            | .inr s17 =>
              some (.inr s17)
        | .inr s8 =>
          some (.inr s8)
        else none
        else none
        else none
        else none
        else none
        else none) fun v20 =>
    match v20 with
    | .inl y21 =>
      some (.inl (y21.1, y21.2.1, y21.2.2.1, IntKind.wrap .i64 (y21.2.2.2.1 + 1), y21.2.2.2.2.1, y21.2.2.2.2.2.1, y21.2.2.2.2.2.2.1, y21.2.2.2.2.2.2.2))
    | .inr s22 =>
      some (.inr (.inr s22))
  else
    some (.inr (.inl (y.1, y.2.1)))
def s_l6Tree (x0 : List (List Int)) (x1 : List Int) (x2 : List Int) (x3 : List Int) (x4 : Int) : Option ((List (List Int) × (List Int × Bool))) :=
  if (decide ((0 : Int) ≤ 32)) = true then
  if (decide ((32 : Int) ≤ 32)) = true then
  if (roomFor (Int.toNat 32) 24) = true then
  if (decide ((0 : Int) ≤ 32)) = true then
  if (decide ((32 : Int) ≤ 32)) = true then
  if (roomFor (Int.toNat 32) 8) = true then
  if (decide ((x4 : Int) = 0)) = true then
    some (List.replicate (Int.toNat 32) ([] : List Int), List.replicate (Int.toNat 32) (0 : Int), true)
  else
    Option.bind (s_l6Numbers x0 x1 x2 x3 x4 80) fun c1 =>
    Option.bind (α := (List (List Int) × (List Int × (Bool × (List (List Int) × (List Int × (List Int × List Int))))))) (
        if (!c1.2) = true then
          some (List.replicate (Int.toNat 32) ([] : List Int), c1.1, true, x0, x1, x2, x3)
        else
          Option.bind (s_l6Any c1.1) fun c2 =>
          some (List.replicate (Int.toNat 32) ([] : List Int), c1.1, (!c2), x0, x1, x2, x3)) fun v3 =>
    if v3.2.2.1 = true then
      some ([], [], false)
    else
      Option.bind (loopG s_l6Tree_L3 (v3.1, v3.2.1, ((List.length v3.2.1 : Nat) : Int), 0, v3.2.2.2.1, v3.2.2.2.2.1, v3.2.2.2.2.2.1, v3.2.2.2.2.2.2)) fun v23 =>
      match v23 with
      | .inl y24 =>
        some (y24.1, y24.2, true)
      | .inr s25 =>
        some ([], [], s25)
  else none
  else none
  else none
  else none
  else none
  else none
def s_GoodTree (x0 : List (List Int)) (x1 : List Int) (x2 : List Int) (x3 : List Int) (x4 : Int) : Option (Bool) :=
  Option.bind (s_GoodSpace x0 x1 x2 x3) fun c1 =>
  if (!c1) = true then
    some false
  else
    Option.bind (s_l6Tree x0 x1 x2 x3 x4) fun c2 =>
    some c2.2.2
def s_l6Sets_L1 (y : (List (Int × Int) × (List (Int × Int) × (Int × (Int × (List (List Int) × (List Int × (List Int × List Int)))))))) : Option ((List (Int × Int) × (List (Int × Int) × (Int × (Int × (List (List Int) × (List Int × (List Int × List Int))))))) ⊕ (Unit ⊕ Bool)) :=
  if (decide ((y.2.2.2.1 : Int) < y.2.2.1)) = true then
    if (decide ((0 : Int) ≤ y.2.2.2.1)) = true then
    Option.bind (y.2.1[Int.toNat y.2.2.2.1]?) fun r3 =>
    Option.bind (α := (List (Int × Int) × (List (Int × Int) × (Int × (Int × (Bool × (List (List Int) × (List Int × (List Int × List Int))))))))) (
        Option.bind (s_l1In r3.1 0 1023) fun c4 =>
        if (!c4) = true then
          some (y.1, y.2.1, y.2.2.1, y.2.2.2.1, true, y.2.2.2.2.1, y.2.2.2.2.2.1, y.2.2.2.2.2.2.1, y.2.2.2.2.2.2.2)
        else
        if (decide (¬ (r3.2 : Int) = 0)) = true then
          Option.bind (s_l5Live y.2.2.2.2.1 y.2.2.2.2.2.1 y.2.2.2.2.2.2.1 y.2.2.2.2.2.2.2 r3.2) fun c5 =>
          if (!c5) = true then
            some (y.1, y.2.1, y.2.2.1, y.2.2.2.1, true, y.2.2.2.2.1, y.2.2.2.2.2.1, y.2.2.2.2.2.2.1, y.2.2.2.2.2.2.2)
          else
          if (decide ((0 : Int) < y.2.2.2.1)) = true then
            if (decide ((0 : Int) ≤ IntKind.wrap .i64 (y.2.2.2.1 - 1))) = true then
            Option.bind (y.1[Int.toNat (IntKind.wrap .i64 (y.2.2.2.1 - 1))]?) fun r6 =>
            some (y.1, y.2.1, y.2.2.1, y.2.2.2.1, decide ((r3.1 : Int) ≤ r6.1), y.2.2.2.2.1, y.2.2.2.2.2.1, y.2.2.2.2.2.2.1, y.2.2.2.2.2.2.2)
            else none
          else
          some (y.1, y.2.1, y.2.2.1, y.2.2.2.1, false, y.2.2.2.2.1, y.2.2.2.2.2.1, y.2.2.2.2.2.2.1, y.2.2.2.2.2.2.2)
        else
        if (decide ((0 : Int) < y.2.2.2.1)) = true then
          if (decide ((0 : Int) ≤ IntKind.wrap .i64 (y.2.2.2.1 - 1))) = true then
          Option.bind (y.1[Int.toNat (IntKind.wrap .i64 (y.2.2.2.1 - 1))]?) fun r8 =>
          some (y.1, y.2.1, y.2.2.1, y.2.2.2.1, decide ((r3.1 : Int) ≤ r8.1), y.2.2.2.2.1, y.2.2.2.2.2.1, y.2.2.2.2.2.2.1, y.2.2.2.2.2.2.2)
          else none
        else
        some (y.1, y.2.1, y.2.2.1, y.2.2.2.1, false, y.2.2.2.2.1, y.2.2.2.2.2.1, y.2.2.2.2.2.2.1, y.2.2.2.2.2.2.2)) fun v9 =>
    if v9.2.2.2.2.1 = true then
      some (.inr (.inr false))
    else
      some (.inl (v9.1, v9.2.1, v9.2.2.1, IntKind.wrap .i64 (v9.2.2.2.1 + 1), v9.2.2.2.2.2.1, v9.2.2.2.2.2.2.1, v9.2.2.2.2.2.2.2.1, v9.2.2.2.2.2.2.2.2))
    else none
  else
    some (.inr (.inl ()))
def s_l6Sets (x0 : List (List Int)) (x1 : List Int) (x2 : List Int) (x3 : List Int) (x4 : Int) (x5 : List (Int × Int)) : Option (Bool) :=
  Option.bind (α := (List (Int × Int) × (Bool × (List (List Int) × (List Int × (List Int × List Int)))))) (
      Option.bind (s_GoodTree x0 x1 x2 x3 x4) fun c1 =>
      if (!c1) = true then
        some (x5, true, x0, x1, x2, x3)
      else
      some (x5, decide ((64 : Int) < ((List.length x5 : Nat) : Int)), x0, x1, x2, x3)) fun v2 =>
  if v2.2.1 = true then
    some false
  else
    Option.bind (loopG s_l6Sets_L1 (v2.1, v2.1, ((List.length v2.1 : Nat) : Int), 0, v2.2.2.1, v2.2.2.2.1, v2.2.2.2.2.1, v2.2.2.2.2.2)) fun v10 =>
    match v10 with
    | .inl y11 =>
      some true
    | .inr s12 =>
      some s12
def s_l5Free_L1 (y : (Int × (Int × (Int × (List (List Int) × (List Int × (List Int × List Int))))))) : Option ((Int × (Int × (Int × (List (List Int) × (List Int × (List Int × List Int)))))) ⊕ Int) :=
  if (decide ((y.2.2.1 : Int) < y.2.1)) = true then
    Option.bind (s_l5Used y.2.2.2.2.1 y.2.2.1) fun c1 =>
    Option.bind (α := (Int × (Int × (Int × (List (List Int) × (List Int × (List Int × List Int))))))) (
        if (!c1) = true then
          some (IntKind.wrap .i64 (y.1 + 1), y.2.1, y.2.2.1, y.2.2.2.1, y.2.2.2.2.1, y.2.2.2.2.2.1, y.2.2.2.2.2.2)
        else
          some (y.1, y.2.1, y.2.2.1, y.2.2.2.1, y.2.2.2.2.1, y.2.2.2.2.2.1, y.2.2.2.2.2.2)) fun v2 =>
    some (.inl (v2.1, v2.2.1, IntKind.wrap .i64 (v2.2.2.1 + 1), v2.2.2.2.1, v2.2.2.2.2.1, v2.2.2.2.2.2.1, v2.2.2.2.2.2.2))
  else
    some (.inr y.1)
def s_l5Free (x0 : List (List Int)) (x1 : List Int) (x2 : List Int) (x3 : List Int) : Option (Int) :=
  Option.bind (loopG s_l5Free_L1 (0, ((List.length x0 : Nat) : Int), 0, x0, x1, x2, x3)) fun v3 =>
  some v3
def s_l6After_L1 (y : (List (List Int) × (List Bool × (List (Int × Int) × (Int × Int))))) : Option ((List (List Int) × (List Bool × (List (Int × Int) × (Int × Int)))) ⊕ (List (List Int) × List Bool)) :=
  if (decide ((y.2.2.2.2 : Int) < y.2.2.2.1)) = true then
    if (decide ((0 : Int) ≤ y.2.2.2.2)) = true then
    Option.bind (y.2.2.1[Int.toNat y.2.2.2.2]?) fun r2 =>
    if (decide (¬ (32 : Int) = 0)) = true then
    if (decide ((0 : Int) ≤ IntKind.wrap .i64 (Int.tdiv r2.1 32))) = true then
    if (decide ((IntKind.wrap .i64 (Int.tdiv r2.1 32) : Int) < ((List.length y.2.1 : Nat) : Int))) = true then
    Option.bind (y.2.1[0 + Int.toNat (IntKind.wrap .i64 (Int.tdiv r2.1 32))]?) fun r3 =>
    Option.bind (y.2.1[0 + Int.toNat (IntKind.wrap .i64 (Int.tdiv r2.1 32))]?) fun r4 =>
    if (decide ((0 : Int) ≤ IntKind.wrap .i64 (Int.tdiv r2.1 32))) = true then
    if (decide ((IntKind.wrap .i64 (Int.tdiv r2.1 32) : Int) < ((List.length y.1 : Nat) : Int))) = true then
    Option.bind (y.1[0 + Int.toNat (IntKind.wrap .i64 (Int.tdiv r2.1 32))]?) fun r5 =>
    Option.bind (y.1[0 + Int.toNat (IntKind.wrap .i64 (Int.tdiv r2.1 32))]?) fun r6 =>
    Option.bind (α := (List (List Int) × (List Bool × (Int × (List (Int × Int) × (Int × (Int × (Int × Int)))))))) (
        if (decide ((((List.length r6 : Nat) : Int) : Int) = 0)) = true then
          if (decide ((0 : Int) ≤ 32)) = true then
          if (decide ((32 : Int) ≤ 32)) = true then
          if (roomFor (Int.toNat 32) 8) = true then
          if (decide ((0 : Int) ≤ IntKind.wrap .i64 (Int.tdiv r2.1 32))) = true then
          if (decide ((IntKind.wrap .i64 (Int.tdiv r2.1 32) : Int) < ((List.length y.1 : Nat) : Int))) = true then
          Option.bind (y.1[0 + Int.toNat (IntKind.wrap .i64 (Int.tdiv r2.1 32))]?) fun r7 =>
          Option.bind (y.1[0 + Int.toNat (IntKind.wrap .i64 (Int.tdiv r2.1 32))]?) fun r8 =>
          some (y.1.set (0 + Int.toNat (IntKind.wrap .i64 (Int.tdiv r2.1 32))) (List.replicate (Int.toNat 32) (0 : Int)), y.2.1.set (0 + Int.toNat (IntKind.wrap .i64 (Int.tdiv r2.1 32))) true, IntKind.wrap .i64 (Int.tdiv r2.1 32), y.2.2.1, y.2.2.2.1, y.2.2.2.2, r2.1, r2.2)
          else none
          else none
          else none
          else none
          else none
        else
          some (y.1, y.2.1.set (0 + Int.toNat (IntKind.wrap .i64 (Int.tdiv r2.1 32))) true, IntKind.wrap .i64 (Int.tdiv r2.1 32), y.2.2.1, y.2.2.2.1, y.2.2.2.2, r2.1, r2.2)) fun v9 =>
    if (decide ((0 : Int) ≤ v9.2.2.1)) = true then
    if (decide ((v9.2.2.1 : Int) < ((List.length v9.1 : Nat) : Int))) = true then
    Option.bind (v9.1[0 + Int.toNat v9.2.2.1]?) fun r10 =>
    if (decide (¬ (32 : Int) = 0)) = true then
    if (decide ((0 : Int) ≤ Int.tmod v9.2.2.2.2.2.2.1 32)) = true then
    Option.bind (v9.1[0 + Int.toNat v9.2.2.1]?) fun r11 =>
    if (decide ((Int.tmod v9.2.2.2.2.2.2.1 32 : Int) < ((List.length r11 : Nat) : Int))) = true then
    Option.bind (v9.1[0 + Int.toNat v9.2.2.1]?) fun r12 =>
    Option.bind (r12[0 + Int.toNat (Int.tmod v9.2.2.2.2.2.2.1 32)]?) fun r13 =>
    Option.bind (v9.1[0 + Int.toNat v9.2.2.1]?) fun r14 =>
    Option.bind (r14[0 + Int.toNat (Int.tmod v9.2.2.2.2.2.2.1 32)]?) fun r15 =>
    some (.inl (v9.1.set (0 + Int.toNat v9.2.2.1) (r14.set (0 + Int.toNat (Int.tmod v9.2.2.2.2.2.2.1 32)) v9.2.2.2.2.2.2.2), v9.2.1, v9.2.2.2.1, v9.2.2.2.2.1, IntKind.wrap .i64 (v9.2.2.2.2.2.1 + 1)))
    else none
    else none
    else none
    else none
    else none
    else none
    else none
    else none
    else none
    else none
    else none
  else
    some (.inr (y.1, y.2.1))
def s_l6After (x0 : List (List Int)) (x1 : List Int) (x2 : List Int) (x3 : List Int) (x4 : Int) (x5 : List (Int × Int)) : Option ((List (List Int) × List Bool)) :=
  Option.bind (s_l6Tree x0 x1 x2 x3 x4) fun c1 =>
  if (decide ((0 : Int) ≤ 32)) = true then
  if (decide ((32 : Int) ≤ 32)) = true then
  if (roomFor (Int.toNat 32) 1) = true then
  Option.bind (loopG s_l6After_L1 (c1.1, List.replicate (Int.toNat 32) (false : Bool), x5, ((List.length x5 : Nat) : Int), 0)) fun v16 =>
  some (v16.1, v16.2)
  else none
  else none
  else none
def s_l6Need_L1 (y : (List Bool × (Int × (Int × (List (List Int) × (Int × Int)))))) : Option ((List Bool × (Int × (Int × (List (List Int) × (Int × Int))))) ⊕ (Int × Int)) :=
  if (decide ((y.2.2.2.2.2 : Int) < y.2.2.2.2.1)) = true then
    if (decide ((0 : Int) ≤ y.2.2.2.2.2)) = true then
    if (decide ((y.2.2.2.2.2 : Int) < ((List.length y.2.2.2.1 : Nat) : Int))) = true then
    Option.bind (y.2.2.2.1[0 + Int.toNat y.2.2.2.2.2]?) fun r2 =>
    Option.bind (y.2.2.2.1[0 + Int.toNat y.2.2.2.2.2]?) fun r3 =>
    Option.bind (s_l6Any r3) fun c4 =>
    Option.bind (α := (List Bool × (Int × (Int × (List (List Int) × (Int × Int)))))) (
        if c4 = true then
          if (decide ((0 : Int) ≤ y.2.2.2.2.2)) = true then
          if (decide ((y.2.2.2.2.2 : Int) < ((List.length y.1 : Nat) : Int))) = true then
          Option.bind (y.1[0 + Int.toNat y.2.2.2.2.2]?) fun r5 =>
          Option.bind (α := (List Bool × (Int × (Int × (List (List Int) × (Int × Int)))))) (
              if r5 = true then
                some (y.1, IntKind.wrap .i64 (y.2.1 + 1), 1, y.2.2.2.1, y.2.2.2.2.1, y.2.2.2.2.2)
              else
                some (y.1, y.2.1, 1, y.2.2.2.1, y.2.2.2.2.1, y.2.2.2.2.2)) fun v6 =>
          some (v6.1, v6.2.1, v6.2.2.1, v6.2.2.2.1, v6.2.2.2.2.1, v6.2.2.2.2.2)
          else none
          else none
        else
          some (y.1, y.2.1, y.2.2.1, y.2.2.2.1, y.2.2.2.2.1, y.2.2.2.2.2)) fun v7 =>
    some (.inl (v7.1, v7.2.1, v7.2.2.1, v7.2.2.2.1, v7.2.2.2.2.1, IntKind.wrap .i64 (v7.2.2.2.2.2 + 1)))
    else none
    else none
  else
    some (.inr (y.2.1, y.2.2.1))
def s_l6Need (x0 : List (List Int)) (x1 : List Int) (x2 : List Int) (x3 : List Int) (x4 : Int) (x5 : List (Int × Int)) : Option (Int) :=
  if (decide ((((List.length x5 : Nat) : Int) : Int) = 0)) = true then
    some 0
  else
    Option.bind (s_l6After x0 x1 x2 x3 x4 x5) fun c1 =>
    Option.bind (loopG s_l6Need_L1 (c1.2, 0, 0, c1.1, ((List.length c1.1 : Nat) : Int), 0)) fun v8 =>
    some (IntKind.wrap .i64 (v8.1 + v8.2))
def s_l5Own_L1 (y : (List (List Int) × (List (List Int) × (Int × (Int × (List (List Int) × (List Int × (List Int × List Int)))))))) : Option ((List (List Int) × (List (List Int) × (Int × (Int × (List (List Int) × (List Int × (List Int × List Int))))))) ⊕ (List (List Int) × (List (List Int) × (List Int × (List Int × List Int))))) :=
  if (decide ((y.2.2.2.1 : Int) < y.2.2.1)) = true then
    if (decide ((0 : Int) ≤ y.2.2.2.1)) = true then
    Option.bind (y.2.1[Int.toNat y.2.2.2.1]?) fun r2 =>
    if (roomFor (List.length ([] : List Int) + List.length r2) 1) = true then
    if (roomFor (List.length y.1 + List.length ([([] : List Int) ++ r2] : List (List Int))) 24) = true then
    some (.inl (y.1 ++ ([([] : List Int) ++ r2] : List (List Int)), y.2.1, y.2.2.1, IntKind.wrap .i64 (y.2.2.2.1 + 1), y.2.2.2.2.1, y.2.2.2.2.2.1, y.2.2.2.2.2.2.1, y.2.2.2.2.2.2.2))
    else none
    else none
    else none
  else
    some (.inr (y.1, y.2.2.2.2.1, y.2.2.2.2.2.1, y.2.2.2.2.2.2.1, y.2.2.2.2.2.2.2))
def s_l5Own (x0 : List (List Int)) (x1 : List Int) (x2 : List Int) (x3 : List Int) : Option ((List (List Int) × (List Int × (List Int × List Int)))) :=
  Option.bind (loopG s_l5Own_L1 ([], x0, ((List.length x0 : Nat) : Int), 0, x0, x1, x2, x3)) fun v3 =>
  if (roomFor (List.length ([] : List Int) + List.length v3.2.2.1) 1) = true then
  if (roomFor (List.length ([] : List Int) + List.length v3.2.2.2.1) 8) = true then
  if (roomFor (List.length ([] : List Int) + List.length v3.2.2.2.2) 8) = true then
  some (v3.1, ([] : List Int) ++ v3.2.2.1, ([] : List Int) ++ v3.2.2.2.1, ([] : List Int) ++ v3.2.2.2.2)
  else none
  else none
  else none
def s_l5Lay_oooo (x0 : Int) (x1 : List Int) (x2 : List (List Int)) (x3 : List Int) (x4 : List Int) (x5 : List Int) : Option ((List (List Int) × (List Int × (List Int × List Int)))) :=
  if (decide ((0 : Int) ≤ 128)) = true then
  if (decide ((128 : Int) ≤ 128)) = true then
  if (roomFor (Int.toNat 128) 1) = true then
  if (decide ((0 : Int) ≤ x0)) = true then
  if (decide ((x0 : Int) < ((List.length x2 : Nat) : Int))) = true then
  Option.bind (x2[0 + Int.toNat x0]?) fun r1 =>
  Option.bind (x2[0 + Int.toNat x0]?) fun r2 =>
  Option.bind (s_l5Put x5 x0) fun c3 =>
  some (x2.set (0 + Int.toNat x0) ((x1).take (List.length (List.replicate (Int.toNat 128) (0 : Int))) ++ List.drop (List.length x1) (List.replicate (Int.toNat 128) (0 : Int))), x3, x4, c3)
  else none
  else none
  else none
  else none
  else none
def s_l6Page_oooo_L1 (y : (Int × (List Int × (List Int × (Int × (Int × (List (List Int) × (List Int × (List Int × List Int))))))))) : Option ((Int × (List Int × (List Int × (Int × (Int × (List (List Int) × (List Int × (List Int × List Int)))))))) ⊕ (Int × (List Int × (List (List Int) × (List Int × (List Int × List Int)))))) :=
  if (decide ((y.2.2.2.2.1 : Int) < y.2.2.2.1)) = true then
    if (decide ((0 : Int) ≤ y.2.2.2.2.1)) = true then
    Option.bind (y.2.2.1[Int.toNat y.2.2.2.2.1]?) fun r1 =>
    if (decide (¬ (256 : Int) = 0)) = true then
    if (roomFor (List.length y.2.1 + List.length ([IntKind.wrap .u8 (IntKind.wrap .i64 (Int.tdiv r1 256)), IntKind.wrap .u8 r1] : List Int)) 1) = true then
    some (.inl (y.1, y.2.1 ++ ([IntKind.wrap .u8 (IntKind.wrap .i64 (Int.tdiv r1 256)), IntKind.wrap .u8 r1] : List Int), y.2.2.1, y.2.2.2.1, IntKind.wrap .i64 (y.2.2.2.2.1 + 1), y.2.2.2.2.2.1, y.2.2.2.2.2.2.1, y.2.2.2.2.2.2.2.1, y.2.2.2.2.2.2.2.2))
    else none
    else none
    else none
  else
    some (.inr (y.1, y.2.1, y.2.2.2.2.2.1, y.2.2.2.2.2.2.1, y.2.2.2.2.2.2.2.1, y.2.2.2.2.2.2.2.2))
def s_l6Page_oooo (x0 : Int) (x1 : Int) (x2 : List Int) (x3 : List (List Int)) (x4 : List Int) (x5 : List Int) (x6 : List Int) : Option ((List (List Int) × (List Int × (List Int × List Int)))) :=
  Option.bind (loopG s_l6Page_oooo_L1 (x0, [x1], x2, ((List.length x2 : Nat) : Int), 0, x3, x4, x5, x6)) fun v2 =>
  Option.bind (s_l5Lay_oooo v2.1 v2.2.1 v2.2.2.1 v2.2.2.2.1 v2.2.2.2.2.1 v2.2.2.2.2.2) fun c3 =>
  some (c3.1, c3.2.1, c3.2.2.1, c3.2.2.2)
def s_l6Set_oooo_L1 (y : (List Int × (List Bool × (List Int × (List Int × (List (List Int) × (Int × (Int × (List (List Int) × (List Int × (List Int × List Int))))))))))) : Option ((List Int × (List Bool × (List Int × (List Int × (List (List Int) × (Int × (Int × (List (List Int) × (List Int × (List Int × List Int)))))))))) ⊕ (List Int × (List Int × (List (List Int) × (List Int × (List Int × List Int)))))) :=
  if (decide ((y.2.2.2.2.2.2.1 : Int) < y.2.2.2.2.2.1)) = true then
    Option.bind (α := (List Int × (List Bool × (List Int × (List Int × (List (List Int) × (Int × (Int × (List (List Int) × (List Int × (List Int × List Int))))))))))) (
        if (decide ((0 : Int) ≤ y.2.2.2.2.2.2.1)) = true then
        if (decide ((y.2.2.2.2.2.2.1 : Int) < ((List.length y.2.2.2.2.1 : Nat) : Int))) = true then
        Option.bind (y.2.2.2.2.1[0 + Int.toNat y.2.2.2.2.2.2.1]?) fun r4 =>
        if (decide ((0 : Int) ≤ y.2.2.2.2.2.2.1)) = true then
        if (decide ((y.2.2.2.2.2.2.1 : Int) < ((List.length y.2.1 : Nat) : Int))) = true then
        Option.bind (y.2.1[0 + Int.toNat y.2.2.2.2.2.2.1]?) fun r5 =>
        if (!r5) = true then
          some (y.1, y.2.1, y.2.2.1, y.2.2.2.1, y.2.2.2.2.1, y.2.2.2.2.2.1, y.2.2.2.2.2.2.1, y.2.2.2.2.2.2.2.1, y.2.2.2.2.2.2.2.2.1, y.2.2.2.2.2.2.2.2.2.1, y.2.2.2.2.2.2.2.2.2.2)
        else
        if (decide ((0 : Int) ≤ y.2.2.2.2.2.2.1)) = true then
        if (decide ((y.2.2.2.2.2.2.1 : Int) < ((List.length y.1 : Nat) : Int))) = true then
        Option.bind (y.1[0 + Int.toNat y.2.2.2.2.2.2.1]?) fun r6 =>
        Option.bind (α := (List Int × (List Bool × (List Int × (List Int × (Int × (List (List Int) × (Int × (Int × (Int × (List (List Int) × (List Int × (List Int × List Int))))))))))))) (
            if (decide (¬ (r6 : Int) = 0)) = true then
              if (decide ((0 : Int) ≤ y.2.2.2.2.2.2.1)) = true then
              if (decide ((y.2.2.2.2.2.2.1 : Int) < ((List.length y.1 : Nat) : Int))) = true then
              Option.bind (y.1[0 + Int.toNat y.2.2.2.2.2.2.1]?) fun r7 =>
              if (roomFor (List.length y.2.2.1 + List.length ([r7] : List Int)) 8) = true then
              some (y.1, y.2.1, y.2.2.1 ++ ([r7] : List Int), y.2.2.2.1, y.2.2.2.2.2.2.1, y.2.2.2.2.1, ((0 + Int.toNat y.2.2.2.2.2.2.1 : Nat) : Int), y.2.2.2.2.2.1, y.2.2.2.2.2.2.1, y.2.2.2.2.2.2.2.1, y.2.2.2.2.2.2.2.2.1, y.2.2.2.2.2.2.2.2.2.1, y.2.2.2.2.2.2.2.2.2.2)
              else none
              else none
              else none
            else
              some (y.1, y.2.1, y.2.2.1, y.2.2.2.1, y.2.2.2.2.2.2.1, y.2.2.2.2.1, ((0 + Int.toNat y.2.2.2.2.2.2.1 : Nat) : Int), y.2.2.2.2.2.1, y.2.2.2.2.2.2.1, y.2.2.2.2.2.2.2.1, y.2.2.2.2.2.2.2.2.1, y.2.2.2.2.2.2.2.2.2.1, y.2.2.2.2.2.2.2.2.2.2)) fun v8 =>
        if (decide ((0 : Int) ≤ v8.2.2.2.2.1)) = true then
        if (decide ((v8.2.2.2.2.1 : Int) < ((List.length v8.2.2.2.1 : Nat) : Int))) = true then
        Option.bind (v8.2.2.2.1[0 + Int.toNat v8.2.2.2.2.1]?) fun r9 =>
        Option.bind (v8.2.2.2.1[0 + Int.toNat v8.2.2.2.2.1]?) fun r10 =>
        Option.bind (v8.2.2.2.2.2.1[Int.toNat v8.2.2.2.2.2.2.1]?) fun r11 =>
        Option.bind (s_l6Any r11) fun c12 =>
        Option.bind (α := (List Int × (List Bool × (List Int × (List Int × (List (List Int) × (Int × (Int × (List (List Int) × (List Int × (List Int × List Int))))))))))) (
            if c12 = true then
              Option.bind (s_l5Take_oooo v8.2.2.2.2.2.2.2.2.2.1 v8.2.2.2.2.2.2.2.2.2.2.1 v8.2.2.2.2.2.2.2.2.2.2.2.1 v8.2.2.2.2.2.2.2.2.2.2.2.2) fun c13 =>
              if (decide ((0 : Int) ≤ v8.2.2.2.2.1)) = true then
              if (decide ((v8.2.2.2.2.1 : Int) < ((List.length (v8.2.2.2.1.set (0 + Int.toNat v8.2.2.2.2.1) 0) : Nat) : Int))) = true then
              Option.bind ((v8.2.2.2.1.set (0 + Int.toNat v8.2.2.2.2.1) 0)[0 + Int.toNat v8.2.2.2.2.1]?) fun r14 =>
              Option.bind ((v8.2.2.2.1.set (0 + Int.toNat v8.2.2.2.2.1) 0)[0 + Int.toNat v8.2.2.2.2.1]?) fun r15 =>
              if (decide ((0 : Int) ≤ v8.2.2.2.2.1)) = true then
              if (decide ((v8.2.2.2.2.1 : Int) < ((List.length ((v8.2.2.2.1.set (0 + Int.toNat v8.2.2.2.2.1) 0).set (0 + Int.toNat v8.2.2.2.2.1) c13.1) : Nat) : Int))) = true then
              Option.bind (((v8.2.2.2.1.set (0 + Int.toNat v8.2.2.2.2.1) 0).set (0 + Int.toNat v8.2.2.2.2.1) c13.1)[0 + Int.toNat v8.2.2.2.2.1]?) fun r16 =>
              Option.bind (v8.2.2.2.2.2.1[Int.toNat v8.2.2.2.2.2.2.1]?) fun r17 =>
              Option.bind (s_l6Page_oooo r16 81 r17 c13.2.1 c13.2.2.1 c13.2.2.2.1 c13.2.2.2.2) fun c18 =>
              some (v8.1, v8.2.1, v8.2.2.1, (v8.2.2.2.1.set (0 + Int.toNat v8.2.2.2.2.1) 0).set (0 + Int.toNat v8.2.2.2.2.1) c13.1, v8.2.2.2.2.2.1, v8.2.2.2.2.2.2.2.1, v8.2.2.2.2.2.2.2.2.1, c18.1, c18.2.1, c18.2.2.1, c18.2.2.2)
              else none
              else none
              else none
              else none
            else
              some (v8.1, v8.2.1, v8.2.2.1, v8.2.2.2.1.set (0 + Int.toNat v8.2.2.2.2.1) 0, v8.2.2.2.2.2.1, v8.2.2.2.2.2.2.2.1, v8.2.2.2.2.2.2.2.2.1, v8.2.2.2.2.2.2.2.2.2.1, v8.2.2.2.2.2.2.2.2.2.2.1, v8.2.2.2.2.2.2.2.2.2.2.2.1, v8.2.2.2.2.2.2.2.2.2.2.2.2)) fun v19 =>
        some (v19.1, v19.2.1, v19.2.2.1, v19.2.2.2.1, v19.2.2.2.2.1, v19.2.2.2.2.2.1, v19.2.2.2.2.2.2.1, v19.2.2.2.2.2.2.2.1, v19.2.2.2.2.2.2.2.2.1, v19.2.2.2.2.2.2.2.2.2.1, v19.2.2.2.2.2.2.2.2.2.2)
        else none
        else none
        else none
        else none
        else none
        else none
        else none
        else none) fun v20 =>
    some (.inl (v20.1, v20.2.1, v20.2.2.1, v20.2.2.2.1, v20.2.2.2.2.1, v20.2.2.2.2.2.1, IntKind.wrap .i64 (v20.2.2.2.2.2.2.1 + 1), v20.2.2.2.2.2.2.2.1, v20.2.2.2.2.2.2.2.2.1, v20.2.2.2.2.2.2.2.2.2.1, v20.2.2.2.2.2.2.2.2.2.2))
  else
    some (.inr (y.2.2.1, y.2.2.2.1, y.2.2.2.2.2.2.2.1, y.2.2.2.2.2.2.2.2.1, y.2.2.2.2.2.2.2.2.2.1, y.2.2.2.2.2.2.2.2.2.2))
def s_l6Set_oooo_L2 (y : (Int × (List Int × (Int × (Int × (List (List Int) × (List Int × (List Int × List Int)))))))) : Option ((Int × (List Int × (Int × (Int × (List (List Int) × (List Int × (List Int × List Int))))))) ⊕ (Int × (List (List Int) × (List Int × (List Int × List Int))))) :=
  if (decide ((y.2.2.2.1 : Int) < y.2.2.1)) = true then
    if (decide ((0 : Int) ≤ y.2.2.2.1)) = true then
    if (decide ((y.2.2.2.1 : Int) < ((List.length y.2.1 : Nat) : Int))) = true then
    Option.bind (y.2.1[0 + Int.toNat y.2.2.2.1]?) fun r26 =>
    Option.bind (s_l5Put y.2.2.2.2.2.2.1 r26) fun c27 =>
    some (.inl (y.1, y.2.1, y.2.2.1, IntKind.wrap .i64 (y.2.2.2.1 + 1), y.2.2.2.2.1, y.2.2.2.2.2.1, c27, y.2.2.2.2.2.2.2))
    else none
    else none
  else
    some (.inr (y.1, y.2.2.2.2.1, y.2.2.2.2.2.1, y.2.2.2.2.2.2.1, y.2.2.2.2.2.2.2))
def s_l6Set_oooo (x0 : Int) (x1 : List (Int × Int)) (x2 : List (List Int)) (x3 : List Int) (x4 : List Int) (x5 : List Int) : Option ((Int × (List (List Int) × (List Int × (List Int × List Int))))) :=
  if (decide ((((List.length x1 : Nat) : Int) : Int) = 0)) = true then
    some (x0, x2, x3, x4, x5)
  else
    Option.bind (s_l6Tree x2 x3 x4 x5 x0) fun c1 =>
    Option.bind (s_l6After x2 x3 x4 x5 x0 x1) fun c2 =>
    Option.bind (α := (List Int × (List (List Int) × (List Bool × (List Int × (List (List Int) × (List Int × (List Int × List Int)))))))) (
        if (decide (¬ (x0 : Int) = 0)) = true then
          if (roomFor (List.length ([] : List Int) + List.length ([x0] : List Int)) 8) = true then
          some (c1.2.1, c2.1, c2.2, ([] : List Int) ++ ([x0] : List Int), x2, x3, x4, x5)
          else none
        else
          some (c1.2.1, c2.1, c2.2, [], x2, x3, x4, x5)) fun v3 =>
    if (roomFor (List.length ([] : List Int) + List.length v3.1) 8) = true then
    Option.bind (loopG s_l6Set_oooo_L1 (v3.1, v3.2.2.1, v3.2.2.2.1, ([] : List Int) ++ v3.1, v3.2.1, ((List.length v3.2.1 : Nat) : Int), 0, v3.2.2.2.2.1, v3.2.2.2.2.2.1, v3.2.2.2.2.2.2.1, v3.2.2.2.2.2.2.2)) fun v21 =>
    Option.bind (s_l6Any v21.2.1) fun c22 =>
    Option.bind (α := (List Int × (Int × (List (List Int) × (List Int × (List Int × List Int)))))) (
        if c22 = true then
          Option.bind (s_l5Take_oooo v21.2.2.1 v21.2.2.2.1 v21.2.2.2.2.1 v21.2.2.2.2.2) fun c23 =>
          Option.bind (s_l6Page_oooo c23.1 80 v21.2.1 c23.2.1 c23.2.2.1 c23.2.2.2.1 c23.2.2.2.2) fun c24 =>
          some (v21.1, c23.1, c24.1, c24.2.1, c24.2.2.1, c24.2.2.2)
        else
          some (v21.1, 0, v21.2.2.1, v21.2.2.2.1, v21.2.2.2.2.1, v21.2.2.2.2.2)) fun v25 =>
    Option.bind (loopG s_l6Set_oooo_L2 (v25.2.1, v25.1, ((List.length v25.1 : Nat) : Int), 0, v25.2.2.1, v25.2.2.2.1, v25.2.2.2.2.1, v25.2.2.2.2.2)) fun v28 =>
    some (v28.1, v28.2.1, v28.2.2.1, v28.2.2.2.1, v28.2.2.2.2)
    else none
def s_SetKeys (x0 : List (List Int)) (x1 : List Int) (x2 : List Int) (x3 : List Int) (x4 : Int) (x5 : List (Int × Int)) : Option ((Int × (Bool × (List (List Int) × (List Int × (List Int × List Int)))))) :=
  Option.bind (α := (Int × (List (Int × Int) × (Bool × (List (List Int) × (List Int × (List Int × List Int))))))) (
      Option.bind (s_l6Sets x0 x1 x2 x3 x4 x5) fun c1 =>
      if (!c1) = true then
        some (x4, x5, true, x0, x1, x2, x3)
      else
        Option.bind (s_l5Free x0 x1 x2 x3) fun c2 =>
        Option.bind (s_l6Need x0 x1 x2 x3 x4 x5) fun c3 =>
        some (x4, x5, decide ((c2 : Int) < c3), x0, x1, x2, x3)) fun v4 =>
  if v4.2.2.1 = true then
    some (0, false, [], [], [], [])
  else
    Option.bind (s_l5Own v4.2.2.2.1 v4.2.2.2.2.1 v4.2.2.2.2.2.1 v4.2.2.2.2.2.2) fun c5 =>
    Option.bind (s_l6Set_oooo v4.1 v4.2.1 c5.1 c5.2.1 c5.2.2.1 c5.2.2.2) fun c6 =>
    some (c6.1, true, c6.2.1, c6.2.2.1, c6.2.2.2.1, c6.2.2.2.2)
def s_l1Cur_sets_l_f_L1 (y : (List (List Int) × (List Int × (List Int × (List Int × (List Int × (Int × (Int × (List Int × (Int × Int)))))))))) : Option ((List (List Int) × (List Int × (List Int × (List Int × (List Int × (Int × (Int × (List Int × (Int × Int))))))))) ⊕ (List (List Int) × (List Int × (List Int × (List Int × (List Int × (List Int × (Int × Int)))))))) :=
  if (decide ((y.2.2.2.2.2.2.1 : Int) < y.2.2.2.2.2.1)) = true then
    Option.bind (s_l5Live y.1 y.2.1 y.2.2.1 y.2.2.2.1 y.2.2.2.2.2.2.1) fun c3 =>
    Option.bind (α := (List (List Int) × (List Int × (List Int × (List Int × (List Int × (Int × (Int × (List Int × (Int × Int)))))))))) (
        if c3 = true then
          if (roomFor (List.length y.2.2.2.2.1 + List.length ([y.2.2.2.2.2.2.1] : List Int)) 8) = true then
          some (y.1, y.2.1, y.2.2.1, y.2.2.2.1, y.2.2.2.2.1 ++ ([y.2.2.2.2.2.2.1] : List Int), y.2.2.2.2.2.1, y.2.2.2.2.2.2.1, y.2.2.2.2.2.2.2.1, y.2.2.2.2.2.2.2.2.1, y.2.2.2.2.2.2.2.2.2)
          else none
        else
          some (y.1, y.2.1, y.2.2.1, y.2.2.2.1, y.2.2.2.2.1, y.2.2.2.2.2.1, y.2.2.2.2.2.2.1, y.2.2.2.2.2.2.2.1, y.2.2.2.2.2.2.2.2.1, y.2.2.2.2.2.2.2.2.2)) fun v4 =>
    some (.inl (v4.1, v4.2.1, v4.2.2.1, v4.2.2.2.1, v4.2.2.2.2.1, v4.2.2.2.2.2.1, IntKind.wrap .i64 (v4.2.2.2.2.2.2.1 + 1), v4.2.2.2.2.2.2.2.1, v4.2.2.2.2.2.2.2.2.1, v4.2.2.2.2.2.2.2.2.2))
  else
    some (.inr (y.1, y.2.1, y.2.2.1, y.2.2.2.1, y.2.2.2.2.1, y.2.2.2.2.2.2.2.1, y.2.2.2.2.2.2.2.2.1, y.2.2.2.2.2.2.2.2.2))
def s_l1Cur_sets_l_f_L2 (y : (List (List Int) × (List Int × (List Int × (List Int × (List Int × (List Int × (Int × (List Int × (Int × Int)))))))))) : Option ((List (List Int) × (List Int × (List Int × (List Int × (List Int × (List Int × (Int × (List Int × (Int × Int))))))))) ⊕ (List (List Int) × (List Int × (List Int × (List Int × (List Int × (List Int × (List Int × (Int × Int))))))))) :=
  if (decide ((0 : Int) < y.2.2.2.2.2.2.1)) = true then
    Option.bind (s_l1Cur_pick_f 70 y.2.2.2.2.2.2.2.1 y.2.2.2.2.2.2.2.2.1 y.2.2.2.2.2.2.2.2.2) fun c12 =>
    Option.bind (s_l1Cur_one_f 6 c12.2.1 c12.2.2.1 c12.2.2.2) fun c13 =>
    Option.bind (α := (List (List Int) × (List Int × (List Int × (List Int × (List Int × (List Int × (Int × (Int × (List Int × (Int × Int))))))))))) (
        if c13.1 = true then
          Option.bind (s_l1Cur_pick_f 1024 c13.2.1 c13.2.2.1 c13.2.2.2) fun c14 =>
          some (y.1, y.2.1, y.2.2.1, y.2.2.2.1, y.2.2.2.2.1, y.2.2.2.2.2.1, y.2.2.2.2.2.2.1, c14.1, c14.2.1, c14.2.2.1, c14.2.2.2)
        else
          some (y.1, y.2.1, y.2.2.1, y.2.2.2.1, y.2.2.2.2.1, y.2.2.2.2.2.1, y.2.2.2.2.2.2.1, c12.1, c13.2.1, c13.2.2.1, c13.2.2.2)) fun v15 =>
    Option.bind (s_l5Put v15.2.2.2.2.2.1 v15.2.2.2.2.2.2.2.1) fun c16 =>
    some (.inl (v15.1, v15.2.1, v15.2.2.1, v15.2.2.2.1, v15.2.2.2.2.1, c16, IntKind.wrap .i64 (v15.2.2.2.2.2.2.1 - 1), v15.2.2.2.2.2.2.2.2.1, v15.2.2.2.2.2.2.2.2.2.1, v15.2.2.2.2.2.2.2.2.2.2))
  else
    some (.inr (y.1, y.2.1, y.2.2.1, y.2.2.2.1, y.2.2.2.2.1, y.2.2.2.2.2.1, y.2.2.2.2.2.2.2.1, y.2.2.2.2.2.2.2.2.1, y.2.2.2.2.2.2.2.2.2))
def s_l1Cur_sets_l_f_L3 (y : (List (List Int) × (List Int × (List Int × (List Int × (List Int × (List (Int × Int) × (List Int × (Int × (Int × (List Int × (Int × Int)))))))))))) : Option ((List (List Int) × (List Int × (List Int × (List Int × (List Int × (List (Int × Int) × (List Int × (Int × (Int × (List Int × (Int × Int))))))))))) ⊕ (List (List Int) × (List Int × (List Int × (List Int × (List (Int × Int) × (List Int × (Int × Int)))))))) :=
  if (decide ((y.2.2.2.2.2.2.2.2.1 : Int) < y.2.2.2.2.2.2.2.1)) = true then
    if (decide ((0 : Int) ≤ y.2.2.2.2.2.2.2.2.1)) = true then
    if (decide ((y.2.2.2.2.2.2.2.2.1 : Int) < ((List.length y.2.2.2.2.2.2.1 : Nat) : Int))) = true then
    Option.bind (y.2.2.2.2.2.2.1[0 + Int.toNat y.2.2.2.2.2.2.2.2.1]?) fun r24 =>
    Option.bind (α := (List (List Int) × (List Int × (List Int × (List Int × (List Int × (List (Int × Int) × (List Int × (Int × (Int × (Bool × (Int × (Int × (List Int × (Int × Int))))))))))))))) (
        if (decide ((0 : Int) < ((List.length y.2.2.2.2.1 : Nat) : Int))) = true then
          Option.bind (s_l1Cur_one_f 4 y.2.2.2.2.2.2.2.2.2.1 y.2.2.2.2.2.2.2.2.2.2.1 y.2.2.2.2.2.2.2.2.2.2.2) fun c25 =>
          some (y.1, y.2.1, y.2.2.1, y.2.2.2.1, y.2.2.2.2.1, y.2.2.2.2.2.1, y.2.2.2.2.2.2.1, y.2.2.2.2.2.2.2.1, y.2.2.2.2.2.2.2.2.1, (!c25.1), r24, 0, c25.2.1, c25.2.2.1, c25.2.2.2)
        else
        some (y.1, y.2.1, y.2.2.1, y.2.2.2.1, y.2.2.2.2.1, y.2.2.2.2.2.1, y.2.2.2.2.2.2.1, y.2.2.2.2.2.2.2.1, y.2.2.2.2.2.2.2.2.1, false, r24, 0, y.2.2.2.2.2.2.2.2.2.1, y.2.2.2.2.2.2.2.2.2.2.1, y.2.2.2.2.2.2.2.2.2.2.2)) fun v26 =>
    Option.bind (α := (List (List Int) × (List Int × (List Int × (List Int × (List Int × (List (Int × Int) × (List Int × (Int × (Int × (Int × (Int × (List Int × (Int × Int)))))))))))))) (
        if v26.2.2.2.2.2.2.2.2.2.1 = true then
          Option.bind (s_l1Cur_pick_f ((List.length v26.2.2.2.2.1 : Nat) : Int) v26.2.2.2.2.2.2.2.2.2.2.2.2.1 v26.2.2.2.2.2.2.2.2.2.2.2.2.2.1 v26.2.2.2.2.2.2.2.2.2.2.2.2.2.2) fun c27 =>
          if (decide ((0 : Int) ≤ c27.1)) = true then
          if (decide ((c27.1 : Int) < ((List.length v26.2.2.2.2.1 : Nat) : Int))) = true then
          Option.bind (v26.2.2.2.2.1[0 + Int.toNat c27.1]?) fun r28 =>
          some (v26.1, v26.2.1, v26.2.2.1, v26.2.2.2.1, v26.2.2.2.2.1, v26.2.2.2.2.2.1, v26.2.2.2.2.2.2.1, v26.2.2.2.2.2.2.2.1, v26.2.2.2.2.2.2.2.2.1, v26.2.2.2.2.2.2.2.2.2.2.1, r28, c27.2.1, c27.2.2.1, c27.2.2.2)
          else none
          else none
        else
          some (v26.1, v26.2.1, v26.2.2.1, v26.2.2.2.1, v26.2.2.2.2.1, v26.2.2.2.2.2.1, v26.2.2.2.2.2.2.1, v26.2.2.2.2.2.2.2.1, v26.2.2.2.2.2.2.2.2.1, v26.2.2.2.2.2.2.2.2.2.2.1, v26.2.2.2.2.2.2.2.2.2.2.2.1, v26.2.2.2.2.2.2.2.2.2.2.2.2.1, v26.2.2.2.2.2.2.2.2.2.2.2.2.2.1, v26.2.2.2.2.2.2.2.2.2.2.2.2.2.2)) fun v29 =>
    if (roomFor (List.length v29.2.2.2.2.2.1 + List.length ([(v29.2.2.2.2.2.2.2.2.2.1, v29.2.2.2.2.2.2.2.2.2.2.1)] : List (Int × Int))) 16) = true then
    some (.inl (v29.1, v29.2.1, v29.2.2.1, v29.2.2.2.1, v29.2.2.2.2.1, v29.2.2.2.2.2.1 ++ ([(v29.2.2.2.2.2.2.2.2.2.1, v29.2.2.2.2.2.2.2.2.2.2.1)] : List (Int × Int)), v29.2.2.2.2.2.2.1, v29.2.2.2.2.2.2.2.1, IntKind.wrap .i64 (v29.2.2.2.2.2.2.2.2.1 + 1), v29.2.2.2.2.2.2.2.2.2.2.2.1, v29.2.2.2.2.2.2.2.2.2.2.2.2.1, v29.2.2.2.2.2.2.2.2.2.2.2.2.2))
    else none
    else none
    else none
  else
    some (.inr (y.1, y.2.1, y.2.2.1, y.2.2.2.1, y.2.2.2.2.2.1, y.2.2.2.2.2.2.2.2.2.1, y.2.2.2.2.2.2.2.2.2.2.1, y.2.2.2.2.2.2.2.2.2.2.2))
def s_l1Cur_sets_l_f (x0 : List (List Int)) (x1 : List Int) (x2 : List Int) (x3 : List Int) (x4 : List Int) (x5 : Int) (x6 : Int) : Option ((List (List Int) × (List Int × (List Int × (List Int × (List (Int × Int) × (List Int × (Int × Int)))))))) :=
  Option.bind (loopG s_l1Cur_sets_l_f_L1 (x0, x1, x2, x3, [], ((List.length x0 : Nat) : Int), 0, x4, x5, x6)) fun v5 =>
  Option.bind (s_l1Cur_pick_f 6 v5.2.2.2.2.2.1 v5.2.2.2.2.2.2.1 v5.2.2.2.2.2.2.2) fun c6 =>
  Option.bind (loopG s_l1Cur_sets_l_f_L2 (v5.1, v5.2.1, v5.2.2.1, v5.2.2.2.1, v5.2.2.2.2.1, [], c6.1, c6.2.1, c6.2.2.1, c6.2.2.2)) fun v17 =>
  Option.bind (loopG s_l1Cur_sets_l_f_L3 (v17.1, v17.2.1, v17.2.2.1, v17.2.2.2.1, v17.2.2.2.2.1, [], v17.2.2.2.2.2.1, ((List.length v17.2.2.2.2.2.1 : Nat) : Int), 0, v17.2.2.2.2.2.2.1, v17.2.2.2.2.2.2.2.1, v17.2.2.2.2.2.2.2.2)) fun v30 =>
  Option.bind (s_l1Cur_one_f 30 v30.2.2.2.2.2.1 v30.2.2.2.2.2.2.1 v30.2.2.2.2.2.2.2) fun c31 =>
  Option.bind (α := (List (List Int) × (List Int × (List Int × (List Int × (List (Int × Int) × (List Int × (Int × Int)))))))) (
      if c31.1 = true then
        Option.bind (s_l1Cur_among_f [(-1), 3, 1023, 1024] c31.2.1 c31.2.2.1 c31.2.2.2) fun c32 =>
        Option.bind (s_l1Cur_among_f [0, 2, 159] c32.2.1 c32.2.2.1 c32.2.2.2) fun c33 =>
        if (roomFor (List.length v30.2.2.2.2.1 + List.length ([(c32.1, c33.1)] : List (Int × Int))) 16) = true then
        some (v30.1, v30.2.1, v30.2.2.1, v30.2.2.2.1, v30.2.2.2.2.1 ++ ([(c32.1, c33.1)] : List (Int × Int)), c33.2.1, c33.2.2.1, c33.2.2.2)
        else none
      else
        some (v30.1, v30.2.1, v30.2.2.1, v30.2.2.2.1, v30.2.2.2.2.1, c31.2.1, c31.2.2.1, c31.2.2.2)) fun v34 =>
  some (v34.1, v34.2.1, v34.2.2.1, v34.2.2.2.1, v34.2.2.2.2.1, v34.2.2.2.2.2.1, v34.2.2.2.2.2.2.1, v34.2.2.2.2.2.2.2)
def s_l1Cur_tree_f_L1 (y : (Int × (List (List Int) × (List Int × (List Int × (List Int × (List Int × (Int × Int)))))))) : Option ((Int × (List (List Int) × (List Int × (List Int × (List Int × (List Int × (Int × Int))))))) ⊕ (List (List Int) × (List Int × (List Int × (List Int × (List Int × (Int × Int))))))) :=
  if (decide ((0 : Int) < y.1)) = true then
    Option.bind (s_l5Take_oooo y.2.1 y.2.2.1 y.2.2.2.1 y.2.2.2.2.1) fun c4 =>
    some (.inl (IntKind.wrap .i64 (y.1 - 1), c4.2.1, c4.2.2.1, c4.2.2.2.1, c4.2.2.2.2, y.2.2.2.2.2.1, y.2.2.2.2.2.2.1, y.2.2.2.2.2.2.2))
  else
    some (.inr (y.2.1, y.2.2.1, y.2.2.2.1, y.2.2.2.2.1, y.2.2.2.2.2.1, y.2.2.2.2.2.2.1, y.2.2.2.2.2.2.2))
def s_l1Cur_tree_f_L2 (y : (Int × (Int × (List Int × (Int × (Int × (List (List Int) × (List Int × (List Int × (List Int × (Int × Int))))))))))) : Option ((Int × (Int × (List Int × (Int × (Int × (List (List Int) × (List Int × (List Int × (List Int × (Int × Int)))))))))) ⊕ (Int × (Int × (List (List Int) × (List Int × (List Int × (List Int × (List Int × (Int × Int))))))))) :=
  if (decide ((y.2.2.2.2.1 : Int) < y.2.2.2.1)) = true then
    if (decide ((0 : Int) ≤ y.2.2.2.2.1)) = true then
    if (decide ((y.2.2.2.2.1 : Int) < ((List.length y.2.2.1 : Nat) : Int))) = true then
    Option.bind (y.2.2.1[0 + Int.toNat y.2.2.2.2.1]?) fun r10 =>
    Option.bind (s_l5Set_l y.2.2.2.2.2.2.1 r10 false) fun c11 =>
    some (.inl (y.1, y.2.1, y.2.2.1, y.2.2.2.1, IntKind.wrap .i64 (y.2.2.2.2.1 + 1), y.2.2.2.2.2.1, c11, y.2.2.2.2.2.2.2.1, y.2.2.2.2.2.2.2.2.1, y.2.2.2.2.2.2.2.2.2.1, y.2.2.2.2.2.2.2.2.2.2))
    else none
    else none
  else
    some (.inr (y.1, y.2.1, y.2.2.2.2.2.1, y.2.2.2.2.2.2.1, y.2.2.1, y.2.2.2.2.2.2.2.1, y.2.2.2.2.2.2.2.2.1, y.2.2.2.2.2.2.2.2.2.1, y.2.2.2.2.2.2.2.2.2.2))
def s_l1Cur_tree_f_L3 (y : (Int × (Int × (List (List Int) × (List Int × (List Int × (List Int × (List Int × (Int × Int))))))))) : Option ((Int × (Int × (List (List Int) × (List Int × (List Int × (List Int × (List Int × (Int × Int)))))))) ⊕ (Int × (List (List Int) × (List Int × (List Int × (List Int × (List Int × (Int × Int)))))))) :=
  if (decide ((0 : Int) < y.2.1)) = true then
    Option.bind (s_l1Cur_sets_l_f y.2.2.1 y.2.2.2.1 y.2.2.2.2.1 y.2.2.2.2.2.1 y.2.2.2.2.2.2.1 y.2.2.2.2.2.2.2.1 y.2.2.2.2.2.2.2.2) fun c7 =>
    Option.bind (s_SetKeys c7.1 c7.2.1 c7.2.2.1 c7.2.2.2.1 y.1 c7.2.2.2.2.1) fun c8 =>
    Option.bind (α := (Int × (Int × (List (List Int) × (List Int × (List Int × (List Int × (List Int × (Int × Int))))))))) (
        if c8.2.1 = true then
          Option.bind (s_l1Cur_one_f 2 c7.2.2.2.2.2.1 c7.2.2.2.2.2.2.1 c7.2.2.2.2.2.2.2) fun c9 =>
          Option.bind (α := (Int × (Int × (List (List Int) × (List Int × (List Int × (List Int × (List Int × (Int × Int))))))))) (
              if c9.1 = true then
                Option.bind (loopG s_l1Cur_tree_f_L2 (c8.1, y.2.1, c8.2.2.2.2.1, ((List.length c8.2.2.2.2.1 : Nat) : Int), 0, c8.2.2.1, c8.2.2.2.1, c8.2.2.2.2.2, c9.2.1, c9.2.2.1, c9.2.2.2)) fun v12 =>
                some (v12.1, v12.2.1, v12.2.2.1, v12.2.2.2.1, [], [], v12.2.2.2.2.2.2.1, v12.2.2.2.2.2.2.2.1, v12.2.2.2.2.2.2.2.2)
              else
                some (c8.1, y.2.1, c8.2.2.1, c8.2.2.2.1, c8.2.2.2.2.1, c8.2.2.2.2.2, c9.2.1, c9.2.2.1, c9.2.2.2)) fun v13 =>
          some (v13.1, v13.2.1, v13.2.2.1, v13.2.2.2.1, v13.2.2.2.2.1, v13.2.2.2.2.2.1, v13.2.2.2.2.2.2.1, v13.2.2.2.2.2.2.2.1, v13.2.2.2.2.2.2.2.2)
        else
          some (y.1, y.2.1, c7.1, c7.2.1, c7.2.2.1, c7.2.2.2.1, c7.2.2.2.2.2.1, c7.2.2.2.2.2.2.1, c7.2.2.2.2.2.2.2)) fun v14 =>
    some (.inl (v14.1, IntKind.wrap .i64 (v14.2.1 - 1), v14.2.2.1, v14.2.2.2.1, v14.2.2.2.2.1, v14.2.2.2.2.2.1, v14.2.2.2.2.2.2.1, v14.2.2.2.2.2.2.2.1, v14.2.2.2.2.2.2.2.2))
  else
    some (.inr (y.1, y.2.2.1, y.2.2.2.1, y.2.2.2.2.1, y.2.2.2.2.2.1, y.2.2.2.2.2.2.1, y.2.2.2.2.2.2.2.1, y.2.2.2.2.2.2.2.2))
def s_l1Cur_tree_f (x0 : List Int) (x1 : Int) (x2 : Int) : Option ((Int × (List (List Int) × (List Int × (List Int × (List Int × (List Int × (Int × Int)))))))) :=
  Option.bind (s_l1Cur_pick_f 30 x0 x1 x2) fun c1 =>
  Option.bind (s_l5Fresh (IntKind.wrap .i64 (48 + c1.1))) fun c2 =>
  Option.bind (s_l1Cur_pick_f 4 c1.2.1 c1.2.2.1 c1.2.2.2) fun c3 =>
  Option.bind (loopG s_l1Cur_tree_f_L1 (IntKind.wrap .i64 (2 + c3.1), c2.1, c2.2, [], [], c3.2.1, c3.2.2.1, c3.2.2.2)) fun v5 =>
  Option.bind (s_l1Cur_pick_f 4 v5.2.2.2.2.1 v5.2.2.2.2.2.1 v5.2.2.2.2.2.2) fun c6 =>
  Option.bind (loopG s_l1Cur_tree_f_L3 (0, c6.1, v5.1, v5.2.1, v5.2.2.1, v5.2.2.2.1, c6.2.1, c6.2.2.1, c6.2.2.2)) fun v15 =>
  Option.bind (s_l1Cur_pick_f 40 v15.2.2.2.2.2.1 v15.2.2.2.2.2.2.1 v15.2.2.2.2.2.2.2) fun c16 =>
  Option.bind (α := (Int × (List (List Int) × (List Int × (List Int × (List Int × (List Int × (Int × Int)))))))) (
      if (decide ((c16.1 : Int) = 0)) = true then
        Option.bind (α := (Int × (List (List Int) × (List Int × (List Int × (List Int × (List Int × (Int × Int)))))))) (
            if (decide ((0 : Int) < v15.1)) = true then
              if (decide ((0 : Int) ≤ v15.1)) = true then
              if (decide ((v15.1 : Int) < ((List.length v15.2.1 : Nat) : Int))) = true then
              Option.bind (v15.2.1[0 + Int.toNat v15.1]?) fun r17 =>
              Option.bind (s_l1Cur_pick_f 128 c16.2.1 c16.2.2.1 c16.2.2.2) fun c18 =>
              if (decide ((0 : Int) ≤ c18.1)) = true then
              Option.bind (v15.2.1[0 + Int.toNat v15.1]?) fun r19 =>
              if (decide ((c18.1 : Int) < ((List.length r19 : Nat) : Int))) = true then
              Option.bind (v15.2.1[0 + Int.toNat v15.1]?) fun r20 =>
              Option.bind (r20[0 + Int.toNat c18.1]?) fun r21 =>
              if (decide ((0 : Int) ≤ c18.1)) = true then
              Option.bind (v15.2.1[0 + Int.toNat v15.1]?) fun r22 =>
              if (decide ((c18.1 : Int) < ((List.length r22 : Nat) : Int))) = true then
              Option.bind (v15.2.1[0 + Int.toNat v15.1]?) fun r23 =>
              Option.bind (r23[0 + Int.toNat c18.1]?) fun r24 =>
              Option.bind (v15.2.1[0 + Int.toNat v15.1]?) fun r25 =>
              Option.bind (r25[0 + Int.toNat c18.1]?) fun r26 =>
              some (v15.1, v15.2.1.set (0 + Int.toNat v15.1) (r25.set (0 + Int.toNat c18.1) (IntKind.wrap .u8 (((BitVec.ofInt (IntKind.bits .u8) r21 ^^^ BitVec.ofInt (IntKind.bits .u8) 1).toNat : Int)))), v15.2.2.1, v15.2.2.2.1, v15.2.2.2.2.1, c18.2.1, c18.2.2.1, c18.2.2.2)
              else none
              else none
              else none
              else none
              else none
              else none
            else
              some (v15.1, v15.2.1, v15.2.2.1, v15.2.2.2.1, v15.2.2.2.2.1, c16.2.1, c16.2.2.1, c16.2.2.2)) fun v27 =>
        some (v27.1, v27.2.1, v27.2.2.1, v27.2.2.2.1, v27.2.2.2.2.1, v27.2.2.2.2.2.1, v27.2.2.2.2.2.2.1, v27.2.2.2.2.2.2.2)
      else
        Option.bind (α := (Int × (List (List Int) × (List Int × (List Int × (List Int × (List Int × (Int × Int)))))))) (
            if (decide ((c16.1 : Int) = 1)) = true then
              Option.bind (s_l1Cur_among_f [(-1), 1, 33, 160] c16.2.1 c16.2.2.1 c16.2.2.2) fun c28 =>
              some (c28.1, v15.2.1, v15.2.2.1, v15.2.2.2.1, v15.2.2.2.2.1, c28.2.1, c28.2.2.1, c28.2.2.2)
            else
              some (v15.1, v15.2.1, v15.2.2.1, v15.2.2.2.1, v15.2.2.2.2.1, c16.2.1, c16.2.2.1, c16.2.2.2)) fun v29 =>
        some (v29.1, v29.2.1, v29.2.2.1, v29.2.2.2.1, v29.2.2.2.2.1, v29.2.2.2.2.2.1, v29.2.2.2.2.2.2.1, v29.2.2.2.2.2.2.2)) fun v30 =>
  some (v30.1, v30.2.1, v30.2.2.1, v30.2.2.2.1, v30.2.2.2.2.1, v30.2.2.2.2.2.1, v30.2.2.2.2.2.2.1, v30.2.2.2.2.2.2.2)
def s_DrawSetKeys_L1 (y : (Int × (List (Int × Int) × (List (List Int) × (List Int × (List Int × (List Int × (List Int × (Int × Int))))))))) : Option ((Int × (List (Int × Int) × (List (List Int) × (List Int × (List Int × (List Int × (List Int × (Int × Int)))))))) ⊕ (Int × (List (Int × Int) × (List (List Int) × (List Int × (List Int × List Int)))))) :=
  Option.bind (s_l5Free y.2.2.1 y.2.2.2.1 y.2.2.2.2.1 y.2.2.2.2.2.1) fun c4 =>
  Option.bind (s_l1Cur_pick_f 4 y.2.2.2.2.2.2.1 y.2.2.2.2.2.2.2.1 y.2.2.2.2.2.2.2.2) fun c5 =>
  if (decide ((c5.1 : Int) < c4)) = true then
    Option.bind (s_l5Take_oooo y.2.2.1 y.2.2.2.1 y.2.2.2.2.1 y.2.2.2.2.2.1) fun c6 =>
    some (.inl (y.1, y.2.1, c6.2.1, c6.2.2.1, c6.2.2.2.1, c6.2.2.2.2, c5.2.1, c5.2.2.1, c5.2.2.2))
  else
    some (.inr (y.1, y.2.1, y.2.2.1, y.2.2.2.1, y.2.2.2.2.1, y.2.2.2.2.2.1))
def s_DrawSetKeys (x0 : List Int) : Option ((Int × (List (Int × Int) × (List (List Int) × (List Int × (List Int × List Int)))))) :=
  Option.bind (s_l1Cur_tree_f x0 0 0) fun c1 =>
  Option.bind (s_l1Cur_sets_l_f c1.2.1 c1.2.2.1 c1.2.2.2.1 c1.2.2.2.2.1 c1.2.2.2.2.2.1 c1.2.2.2.2.2.2.1 c1.2.2.2.2.2.2.2) fun c2 =>
  Option.bind (s_l1Cur_one_f 12 c2.2.2.2.2.2.1 c2.2.2.2.2.2.2.1 c2.2.2.2.2.2.2.2) fun c3 =>
  Option.bind (α := (Int × (List (Int × Int) × (List (List Int) × (List Int × (List Int × List Int)))))) (
      if c3.1 = true then
        Option.bind (loopG s_DrawSetKeys_L1 (c1.1, c2.2.2.2.2.1, c2.1, c2.2.1, c2.2.2.1, c2.2.2.2.1, c3.2.1, c3.2.2.1, c3.2.2.2)) fun v7 =>
        some (v7.1, v7.2.1, v7.2.2.1, v7.2.2.2.1, v7.2.2.2.2.1, v7.2.2.2.2.2)
      else
        some (c1.1, c2.2.2.2.2.1, c2.1, c2.2.1, c2.2.2.1, c2.2.2.2.1)) fun v8 =>
  some (v8.1, v8.2.1, v8.2.2.1, v8.2.2.2.1, v8.2.2.2.2.1, v8.2.2.2.2.2)
def i_within (x0 : Int) (x1 : Int) (x2 : Int) : Option (Bool) :=
  Option.bind (α := Bool) (
      if (decide ((x1 : Int) ≤ x0)) = true then
        some (decide ((x0 : Int) ≤ x2))
      else
      some false) fun v1 =>
  some v1
def i_areBlocks_1 (x0 : List Int) : Option (Bool) :=
  some (decide (¬ (((List.length x0 : Nat) : Int) : Int) = 128))
def slices_IndexFunc_byte_byte_i_areBlocks_1_L1 (y : (List (List Int) × (Int × Int))) : Option ((List (List Int) × (Int × Int)) ⊕ (Unit ⊕ Int)) :=
  if (decide ((y.2.2 : Int) < y.2.1)) = true then
    if (decide ((0 : Int) ≤ y.2.2)) = true then
    Option.bind (y.1[Int.toNat y.2.2]?) fun r1 =>
    Option.bind (i_areBlocks_1 r1) fun c2 =>
    if c2 = true then
      some (.inr (.inr y.2.2))
    else
      some (.inl (y.1, y.2.1, IntKind.wrap .i64 (y.2.2 + 1)))
    else none
  else
    some (.inr (.inl ()))
def slices_IndexFunc_byte_byte_i_areBlocks_1 (x0 : List (List Int)) : Option (Int) :=
  Option.bind (loopG slices_IndexFunc_byte_byte_i_areBlocks_1_L1 (x0, ((List.length x0 : Nat) : Int), 0)) fun v3 =>
  match v3 with
  | .inl y4 =>
    some (-1)
  | .inr s5 =>
    some s5
def slices_ContainsFunc_byte_byte_i_areBlocks_1 (x0 : List (List Int)) : Option (Bool) :=
  Option.bind (slices_IndexFunc_byte_byte_i_areBlocks_1 x0) fun c1 =>
  some (decide ((0 : Int) ≤ c1))
def i_areBlocks (x0 : List (List Int)) : Option (Bool) :=
  Option.bind (α := Bool) (
      Option.bind (i_within ((List.length x0 : Nat) : Int) 40 160) fun c1 =>
      if c1 = true then
        Option.bind (slices_ContainsFunc_byte_byte_i_areBlocks_1 x0) fun c2 =>
        some (!c2)
      else
      some false) fun v3 =>
  some v3
def i_Space_used_ffff (x0 : Int) (x1 : List (List Int)) (x2 : List Int) (x3 : List Int) (x4 : List Int) : Option ((Bool × (List (List Int) × (List Int × (List Int × List Int))))) :=
  if (decide (¬ (8 : Int) = 0)) = true then
  if (decide ((0 : Int) ≤ IntKind.wrap .i64 (Int.tdiv x0 8))) = true then
  Option.bind (x2[Int.toNat (IntKind.wrap .i64 (Int.tdiv x0 8))]?) fun r1 =>
  if (decide (¬ (8 : Int) = 0)) = true then
  if (decide ((0 : Int) ≤ Int.tmod x0 8)) = true then
  some (decide ((IntKind.wrap .u8 (((BitVec.ofInt (IntKind.bits .u8) (Int.fdiv r1 (2 ^ (min (Int.toNat (Int.tmod x0 8)) (IntKind.bits .u8)))) &&& BitVec.ofInt (IntKind.bits .u8) 1).toNat : Int)) : Int) = 1), x1, x2, x3, x4)
  else none
  else none
  else none
  else none
def i_Space_isBlock_ffff (x0 : Int) (x1 : List (List Int)) (x2 : List Int) (x3 : List Int) (x4 : List Int) : Option ((Bool × (List (List Int) × (List Int × (List Int × List Int))))) :=
  Option.bind (α := (Bool × (List (List Int) × (List Int × (List Int × List Int))))) (
      Option.bind (i_within x0 33 (IntKind.wrap .i64 (((List.length x1 : Nat) : Int) - 1))) fun c1 =>
      if c1 = true then
        Option.bind (i_Space_used_ffff x0 x1 x2 x3 x4) fun c2 =>
        some (c2.1, c2.2.1, c2.2.2.1, c2.2.2.2.1, c2.2.2.2.2)
      else
      some (false, x1, x2, x3, x4)) fun v3 =>
  some (v3.1, v3.2.1, v3.2.2.1, v3.2.2.2.1, v3.2.2.2.2)
def i_Space_areUsed_ffff_L1 (y : (List Int × (List Int × (Int × (Int × (List (List Int) × (List Int × (List Int × List Int)))))))) : Option ((List Int × (List Int × (Int × (Int × (List (List Int) × (List Int × (List Int × List Int))))))) ⊕ ((List (List Int) × (List Int × (List Int × List Int))) ⊕ (Bool × (List (List Int) × (List Int × (List Int × List Int)))))) :=
  if (decide ((y.2.2.2.1 : Int) < y.2.2.1)) = true then
    if (decide ((0 : Int) ≤ y.2.2.2.1)) = true then
    Option.bind (y.2.1[Int.toNat y.2.2.2.1]?) fun r1 =>
    Option.bind (α := (List Int × (List Int × (Int × (Int × (Bool × (List (List Int) × (List Int × (List Int × List Int))))))))) (
        Option.bind (i_Space_isBlock_ffff r1 y.2.2.2.2.1 y.2.2.2.2.2.1 y.2.2.2.2.2.2.1 y.2.2.2.2.2.2.2) fun c2 =>
        if (!c2.1) = true then
          some (y.1, y.2.1, y.2.2.1, y.2.2.2.1, true, c2.2.1, c2.2.2.1, c2.2.2.2.1, c2.2.2.2.2)
        else
        if (decide ((0 : Int) < y.2.2.2.1)) = true then
          if (decide ((0 : Int) ≤ IntKind.wrap .i64 (y.2.2.2.1 - 1))) = true then
          Option.bind (y.1[Int.toNat (IntKind.wrap .i64 (y.2.2.2.1 - 1))]?) fun r3 =>
          some (y.1, y.2.1, y.2.2.1, y.2.2.2.1, decide ((r1 : Int) ≤ r3), c2.2.1, c2.2.2.1, c2.2.2.2.1, c2.2.2.2.2)
          else none
        else
        some (y.1, y.2.1, y.2.2.1, y.2.2.2.1, false, c2.2.1, c2.2.2.1, c2.2.2.2.1, c2.2.2.2.2)) fun v4 =>
    if v4.2.2.2.2.1 = true then
      some (.inr (.inr (false, v4.2.2.2.2.2.1, v4.2.2.2.2.2.2.1, v4.2.2.2.2.2.2.2.1, v4.2.2.2.2.2.2.2.2)))
    else
      some (.inl (v4.1, v4.2.1, v4.2.2.1, IntKind.wrap .i64 (v4.2.2.2.1 + 1), v4.2.2.2.2.2.1, v4.2.2.2.2.2.2.1, v4.2.2.2.2.2.2.2.1, v4.2.2.2.2.2.2.2.2))
    else none
  else
    some (.inr (.inl (y.2.2.2.2.1, y.2.2.2.2.2.1, y.2.2.2.2.2.2.1, y.2.2.2.2.2.2.2)))
def i_Space_areUsed_ffff (x0 : List Int) (x1 : List (List Int)) (x2 : List Int) (x3 : List Int) (x4 : List Int) : Option ((Bool × (List (List Int) × (List Int × (List Int × List Int))))) :=
  Option.bind (loopG i_Space_areUsed_ffff_L1 (x0, x0, ((List.length x0 : Nat) : Int), 0, x1, x2, x3, x4)) fun v5 =>
  match v5 with
  | .inl y6 =>
    some (true, y6.1, y6.2.1, y6.2.2.1, y6.2.2.2)
  | .inr s7 =>
    some (s7.1, s7.2.1, s7.2.2.1, s7.2.2.2.1, s7.2.2.2.2)
def i_GoodSpace_L1 (y : (Int × (List (List Int) × (List Int × (List Int × List Int))))) : Option ((Int × (List (List Int) × (List Int × (List Int × List Int)))) ⊕ ((List (List Int) × (List Int × (List Int × List Int))) ⊕ Bool)) :=
  if (decide ((y.1 : Int) < 160)) = true then
    Option.bind (i_Space_used_ffff y.1 y.2.1 y.2.2.1 y.2.2.2.1 y.2.2.2.2) fun c3 =>
    Option.bind (α := (Int × (Bool × (List (List Int) × (List Int × (List Int × List Int)))))) (
        if (decide ((y.1 : Int) < 33)) = true then
          if (!c3.1) = true then
            some (y.1, true, c3.2.1, c3.2.2.1, c3.2.2.2.1, c3.2.2.2.2)
          else
          if (decide ((((List.length c3.2.1 : Nat) : Int) : Int) ≤ y.1)) = true then
            some (y.1, c3.1, c3.2.1, c3.2.2.1, c3.2.2.2.1, c3.2.2.2.2)
          else
          some (y.1, false, c3.2.1, c3.2.2.1, c3.2.2.2.1, c3.2.2.2.2)
        else
        if (decide ((((List.length c3.2.1 : Nat) : Int) : Int) ≤ y.1)) = true then
          some (y.1, c3.1, c3.2.1, c3.2.2.1, c3.2.2.2.1, c3.2.2.2.2)
        else
        some (y.1, false, c3.2.1, c3.2.2.1, c3.2.2.2.1, c3.2.2.2.2)) fun v4 =>
    if v4.2.1 = true then
      some (.inr (.inr false))
    else
      some (.inl (IntKind.wrap .i64 (v4.1 + 1), v4.2.2.1, v4.2.2.2.1, v4.2.2.2.2.1, v4.2.2.2.2.2))
  else
    some (.inr (.inl (y.2.1, y.2.2.1, y.2.2.2.1, y.2.2.2.2)))
def i_GoodSpace (x0 : List (List Int)) (x1 : List Int) (x2 : List Int) (x3 : List Int) : Option (Bool) :=
  Option.bind (α := (Bool × (List (List Int) × (List Int × (List Int × List Int))))) (
      Option.bind (i_areBlocks x0) fun c1 =>
      if (!c1) = true then
        some (true, x0, x1, x2, x3)
      else
      some (decide (¬ (((List.length x1 : Nat) : Int) : Int) = 20), x0, x1, x2, x3)) fun v2 =>
  if v2.1 = true then
    some false
  else
    Option.bind (loopG i_GoodSpace_L1 (0, v2.2.1, v2.2.2.1, v2.2.2.2.1, v2.2.2.2.2)) fun v5 =>
    match v5 with
    | .inl y6 =>
      Option.bind (α := Bool) (
          Option.bind (i_Space_areUsed_ffff y6.2.2.1 y6.1 y6.2.1 y6.2.2.1 y6.2.2.2) fun c8 =>
          if c8.1 = true then
            Option.bind (i_Space_areUsed_ffff c8.2.2.2.2 c8.2.1 c8.2.2.1 c8.2.2.2.1 c8.2.2.2.2) fun c9 =>
            some c9.1
          else
          some false) fun v10 =>
      some v10
    | .inr s7 =>
      some s7
def slices_Index_int_int_L1 (y : (List Int × (Int × (Int × Int)))) : Option ((List Int × (Int × (Int × Int))) ⊕ (Unit ⊕ Int)) :=
  if (decide ((y.2.2.2 : Int) < y.2.2.1)) = true then
    if (decide ((0 : Int) ≤ y.2.2.2)) = true then
    Option.bind (y.1[Int.toNat y.2.2.2]?) fun r1 =>
    if (decide ((y.2.1 : Int) = r1)) = true then
      some (.inr (.inr y.2.2.2))
    else
      some (.inl (y.1, y.2.1, y.2.2.1, IntKind.wrap .i64 (y.2.2.2 + 1)))
    else none
  else
    some (.inr (.inl ()))
def slices_Index_int_int (x0 : List Int) (x1 : Int) : Option (Int) :=
  Option.bind (loopG slices_Index_int_int_L1 (x0, x1, ((List.length x0 : Nat) : Int), 0)) fun v2 =>
  match v2 with
  | .inl y3 =>
    some (-1)
  | .inr s4 =>
    some s4
def slices_Contains_int_int (x0 : List Int) (x1 : Int) : Option (Bool) :=
  Option.bind (slices_Index_int_int x0 x1) fun c1 =>
  some (decide ((0 : Int) ≤ c1))
def i_Space_isHere_ffff (x0 : Int) (x1 : List (List Int)) (x2 : List Int) (x3 : List Int) (x4 : List Int) : Option ((Bool × (List (List Int) × (List Int × (List Int × List Int))))) :=
  Option.bind (α := (Bool × (List (List Int) × (List Int × (List Int × List Int))))) (
      Option.bind (i_Space_isBlock_ffff x0 x1 x2 x3 x4) fun c1 =>
      if c1.1 = true then
        Option.bind (slices_Contains_int_int c1.2.2.2.1 x0) fun c2 =>
        some ((!c2), c1.2.1, c1.2.2.1, c1.2.2.2.1, c1.2.2.2.2)
      else
      some (false, c1.2.1, c1.2.2.1, c1.2.2.2.1, c1.2.2.2.2)) fun v3 =>
  some (v3.1, v3.2.1, v3.2.2.1, v3.2.2.2.1, v3.2.2.2.2)
def i_Space_page_1 (x0 : Int) : Option (Bool) :=
  some (decide (¬ (x0 : Int) = 0))
def i_numberAt (x0 : List Int) (x1 : Int) : Option (Int) :=
  if (decide ((0 : Int) ≤ x1)) = true then
  Option.bind (x0[Int.toNat x1]?) fun r1 =>
  if (decide ((0 : Int) ≤ 8)) = true then
  if (decide ((0 : Int) ≤ IntKind.wrap .i64 (x1 + 1))) = true then
  Option.bind (x0[Int.toNat (IntKind.wrap .i64 (x1 + 1))]?) fun r2 =>
  some (IntKind.wrap .i64 (((BitVec.ofInt (IntKind.bits .i64) (IntKind.wrap .i64 ((IntKind.wrap .i64 r1) * 2 ^ (min (Int.toNat 8) (IntKind.bits .i64)))) ||| BitVec.ofInt (IntKind.bits .i64) (IntKind.wrap .i64 r2)).toNat : Int)))
  else none
  else none
  else none
def i_Space_used_r (x0 : (List (List Int) × (List Int × (List Int × List Int)))) (x1 : Int) : Option (Bool) :=
  if (decide (¬ (8 : Int) = 0)) = true then
  if (decide ((0 : Int) ≤ IntKind.wrap .i64 (Int.tdiv x1 8))) = true then
  Option.bind (x0.2.1[Int.toNat (IntKind.wrap .i64 (Int.tdiv x1 8))]?) fun r1 =>
  if (decide (¬ (8 : Int) = 0)) = true then
  if (decide ((0 : Int) ≤ Int.tmod x1 8)) = true then
  some (decide ((IntKind.wrap .u8 (((BitVec.ofInt (IntKind.bits .u8) (Int.fdiv r1 (2 ^ (min (Int.toNat (Int.tmod x1 8)) (IntKind.bits .u8)))) &&& BitVec.ofInt (IntKind.bits .u8) 1).toNat : Int)) : Int) = 1))
  else none
  else none
  else none
  else none
def i_Space_isBlock_r (x0 : (List (List Int) × (List Int × (List Int × List Int)))) (x1 : Int) : Option (Bool) :=
  Option.bind (α := Bool) (
      Option.bind (i_within x1 33 (IntKind.wrap .i64 (((List.length x0.1 : Nat) : Int) - 1))) fun c1 =>
      if c1 = true then
        Option.bind (i_Space_used_r x0 x1) fun c2 =>
        some c2
      else
      some false) fun v3 =>
  some v3
def i_Space_isHere_r (x0 : (List (List Int) × (List Int × (List Int × List Int)))) (x1 : Int) : Option (Bool) :=
  Option.bind (α := Bool) (
      Option.bind (i_Space_isBlock_r x0 x1) fun c1 =>
      if c1 = true then
        Option.bind (slices_Contains_int_int x0.2.2.1 x1) fun c2 =>
        some (!c2)
      else
      some false) fun v3 =>
  some v3
def slices_IndexFunc_byte_byte_i_Space_page_1_L1 (y : (List Int × (Int × Int))) : Option ((List Int × (Int × Int)) ⊕ (Unit ⊕ Int)) :=
  if (decide ((y.2.2 : Int) < y.2.1)) = true then
    if (decide ((0 : Int) ≤ y.2.2)) = true then
    Option.bind (y.1[Int.toNat y.2.2]?) fun r1 =>
    Option.bind (i_Space_page_1 r1) fun c2 =>
    if c2 = true then
      some (.inr (.inr y.2.2))
    else
      some (.inl (y.1, y.2.1, IntKind.wrap .i64 (y.2.2 + 1)))
    else none
  else
    some (.inr (.inl ()))
def slices_IndexFunc_byte_byte_i_Space_page_1 (x0 : List Int) : Option (Int) :=
  Option.bind (loopG slices_IndexFunc_byte_byte_i_Space_page_1_L1 (x0, ((List.length x0 : Nat) : Int), 0)) fun v3 =>
  match v3 with
  | .inl y4 =>
    some (-1)
  | .inr s5 =>
    some s5
def slices_ContainsFunc_byte_byte_i_Space_page_1 (x0 : List Int) : Option (Bool) :=
  Option.bind (slices_IndexFunc_byte_byte_i_Space_page_1 x0) fun c1 =>
  some (decide ((0 : Int) ≤ c1))
def i_Space_page_L1 (y : (List Int × (List Int × Int))) : Option ((List Int × (List Int × Int)) ⊕ (List Int)) :=
  if (decide ((y.2.2 : Int) < 32)) = true then
    Option.bind (i_numberAt y.1 (IntKind.wrap .i64 (1 + (IntKind.wrap .i64 (2 * y.2.2))))) fun c7 =>
    if (roomFor (List.length y.2.1 + List.length ([c7] : List Int)) 8) = true then
    some (.inl (y.1, y.2.1 ++ ([c7] : List Int), IntKind.wrap .i64 (y.2.2 + 1)))
    else none
  else
    some (.inr y.2.1)
def i_Space_page (x0 : (List (List Int) × (List Int × (List Int × List Int)))) (x1 : Int) (x2 : Int) : Option ((List Int × Bool)) :=
  Option.bind (α := ((List (List Int) × (List Int × (List Int × List Int))) × (Int × Bool))) (
      Option.bind (i_Space_isHere_r x0 x1) fun c1 =>
      if (!c1) = true then
        some (x0, x1, true)
      else
      if (decide ((0 : Int) ≤ x1)) = true then
      Option.bind (x0.1[Int.toNat x1]?) fun r2 =>
      if (decide ((0 : Int) ≤ 0)) = true then
      Option.bind (r2[Int.toNat 0]?) fun r3 =>
      some (x0, x1, decide (¬ (r3 : Int) = x2))
      else none
      else none) fun v4 =>
  if v4.2.2 = true then
    some ([], false)
  else
  if (decide ((0 : Int) ≤ v4.2.1)) = true then
  Option.bind (v4.1.1[Int.toNat v4.2.1]?) fun r5 =>
  if (decide ((0 : Int) ≤ 65)) = true then
  if (decide ((65 : Int) ≤ ((List.length r5 : Nat) : Int))) = true then
  if (decide ((((List.length r5 : Nat) : Int) : Int) ≤ ((List.length r5 : Nat) : Int))) = true then
  if (decide ((((List.length r5 : Nat) : Int) : Int) ≤ ((List.length r5 : Nat) : Int))) = true then
  Option.bind (slices_ContainsFunc_byte_byte_i_Space_page_1 ((List.drop (Int.toNat 65) r5).take (Int.toNat ((List.length r5 : Nat) : Int) - Int.toNat 65))) fun c6 =>
  if c6 = true then
    some ([], false)
  else
    Option.bind (loopG i_Space_page_L1 (r5, [], 0)) fun v8 =>
    some (v8, true)
  else none
  else none
  else none
  else none
  else none
def i_isEmpty_1 (x0 : Int) : Option (Bool) :=
  some (decide (¬ (x0 : Int) = 0))
def slices_IndexFunc_int_int_i_isEmpty_1_L1 (y : (List Int × (Int × Int))) : Option ((List Int × (Int × Int)) ⊕ (Unit ⊕ Int)) :=
  if (decide ((y.2.2 : Int) < y.2.1)) = true then
    if (decide ((0 : Int) ≤ y.2.2)) = true then
    Option.bind (y.1[Int.toNat y.2.2]?) fun r1 =>
    Option.bind (i_isEmpty_1 r1) fun c2 =>
    if c2 = true then
      some (.inr (.inr y.2.2))
    else
      some (.inl (y.1, y.2.1, IntKind.wrap .i64 (y.2.2 + 1)))
    else none
  else
    some (.inr (.inl ()))
def slices_IndexFunc_int_int_i_isEmpty_1 (x0 : List Int) : Option (Int) :=
  Option.bind (loopG slices_IndexFunc_int_int_i_isEmpty_1_L1 (x0, ((List.length x0 : Nat) : Int), 0)) fun v3 =>
  match v3 with
  | .inl y4 =>
    some (-1)
  | .inr s5 =>
    some s5
def slices_ContainsFunc_int_int_i_isEmpty_1 (x0 : List Int) : Option (Bool) :=
  Option.bind (slices_IndexFunc_int_int_i_isEmpty_1 x0) fun c1 =>
  some (decide ((0 : Int) ≤ c1))
def i_isEmpty (x0 : List Int) : Option (Bool) :=
  Option.bind (slices_ContainsFunc_int_int_i_isEmpty_1 x0) fun c1 =>
  some (!c1)
def i_Space_tree_1 (x0 : Int) (x1 : (Option (List (List Int) × (List Int × (List Int × List Int))))) : Option ((Bool × (Option (List (List Int) × (List Int × (List Int × List Int)))))) :=
  Option.bind (α := (Bool × (Option (List (List Int) × (List Int × (List Int × List Int)))))) (
      if (decide (¬ (x0 : Int) = 0)) = true then
        Option.bind (x1) fun p1 =>
        Option.bind (i_Space_isBlock_r p1 x0) fun c2 =>
        some ((!c2), x1)
      else
      some (false, x1)) fun v3 =>
  some (v3.1, v3.2)
def slices_IndexFunc_int_int_l_i_Space_tree_1_L1 (y : (List Int × (Int × (Int × (Option (List (List Int) × (List Int × (List Int × List Int)))))))) : Option ((List Int × (Int × (Int × (Option (List (List Int) × (List Int × (List Int × List Int))))))) ⊕ ((List Int × (Option (List (List Int) × (List Int × (List Int × List Int))))) ⊕ (List Int × (Int × (Option (List (List Int) × (List Int × (List Int × List Int)))))))) :=
  if (decide ((y.2.2.1 : Int) < y.2.1)) = true then
    if (decide ((0 : Int) ≤ y.2.2.1)) = true then
    if (decide ((y.2.2.1 : Int) < ((List.length y.1 : Nat) : Int))) = true then
    Option.bind (y.1[0 + Int.toNat y.2.2.1]?) fun r1 =>
    Option.bind (i_Space_tree_1 r1 y.2.2.2) fun c2 =>
    if c2.1 = true then
      some (.inr (.inr (y.1, y.2.2.1, c2.2)))
    else
      some (.inl (y.1, y.2.1, IntKind.wrap .i64 (y.2.2.1 + 1), c2.2))
    else none
    else none
  else
    some (.inr (.inl (y.1, y.2.2.2)))
def slices_IndexFunc_int_int_l_i_Space_tree_1 (x0 : List Int) (x1 : (Option (List (List Int) × (List Int × (List Int × List Int))))) : Option ((List Int × (Int × (Option (List (List Int) × (List Int × (List Int × List Int))))))) :=
  Option.bind (loopG slices_IndexFunc_int_int_l_i_Space_tree_1_L1 (x0, ((List.length x0 : Nat) : Int), 0, x1)) fun v3 =>
  match v3 with
  | .inl y4 =>
    some (y4.1, (-1), y4.2)
  | .inr s5 =>
    some (s5.1, s5.2.1, s5.2.2)
def slices_ContainsFunc_int_int_l_i_Space_tree_1 (x0 : List Int) (x1 : (Option (List (List Int) × (List Int × (List Int × List Int))))) : Option ((List Int × (Bool × (Option (List (List Int) × (List Int × (List Int × List Int))))))) :=
  Option.bind (slices_IndexFunc_int_int_l_i_Space_tree_1 x0 x1) fun c1 =>
  some (c1.1, decide ((0 : Int) ≤ c1.2.1), c1.2.2)
def i_Space_tree_L1 (y : (Int × (Int × (Int × ((Option (List (List Int) × (List Int × (List Int × List Int)))) × (Int × (Int × (List Int × List (List Int))))))))) : Option ((Int × (Int × (Int × ((Option (List (List Int) × (List Int × (List Int × List Int)))) × (Int × (Int × (List Int × List (List Int)))))))) ⊕ (Int × ((Option (List (List Int) × (List Int × (List Int × List Int)))) × (Int × (Int × (List Int × List (List Int))))))) :=
  if (decide ((y.2.2.1 : Int) < y.2.1)) = true then
    if (decide ((0 : Int) ≤ 32)) = true then
    if (decide ((32 : Int) ≤ 32)) = true then
    if (roomFor (Int.toNat 32) 8) = true then
    if (decide ((0 : Int) ≤ y.2.2.1)) = true then
    if (decide ((y.2.2.1 : Int) < ((List.length y.2.2.2.2.2.2.2 : Nat) : Int))) = true then
    Option.bind (y.2.2.2.2.2.2.2[0 + Int.toNat y.2.2.1]?) fun r1 =>
    Option.bind (y.2.2.2.2.2.2.2[0 + Int.toNat y.2.2.1]?) fun r2 =>
    some (.inl (y.1, y.2.1, IntKind.wrap .i64 (y.2.2.1 + 1), y.2.2.2.1, y.2.2.2.2.1, y.2.2.2.2.2.1, y.2.2.2.2.2.2.1, y.2.2.2.2.2.2.2.set (0 + Int.toNat y.2.2.1) (List.replicate (Int.toNat 32) (0 : Int))))
    else none
    else none
    else none
    else none
    else none
  else
    some (.inr (y.1, y.2.2.2.1, y.2.2.2.2.1, y.2.2.2.2.2.1, y.2.2.2.2.2.2.1, y.2.2.2.2.2.2.2))
def i_Space_tree_L2 (y : (List Int × (Int × (Int × ((Option (List (List Int) × (List Int × (List Int × List Int)))) × (Int × (Int × (List Int × List (List Int))))))))) : Option ((List Int × (Int × (Int × ((Option (List (List Int) × (List Int × (List Int × List Int)))) × (Int × (Int × (List Int × List (List Int)))))))) ⊕ ((Int × (Int × (List Int × List (List Int)))) ⊕ (Bool × Int))) :=
  if (decide ((y.2.2.1 : Int) < y.2.1)) = true then
    Option.bind (α := (List Int × (Int × (Int × ((Option (List (List Int) × (List Int × (List Int × List Int)))) × (Int × (Int × (List Int × List (List Int)))))))) ⊕ (Bool × Int)) (
        if (decide ((0 : Int) ≤ y.2.2.1)) = true then
        if (decide ((y.2.2.1 : Int) < ((List.length y.1 : Nat) : Int))) = true then
        Option.bind (y.1[0 + Int.toNat y.2.2.1]?) fun r8 =>
        if (decide ((r8 : Int) = 0)) = true then
          some (.inl (y.1, y.2.1, y.2.2.1, y.2.2.2.1, y.2.2.2.2.1, y.2.2.2.2.2.1, y.2.2.2.2.2.2.1, y.2.2.2.2.2.2.2))
        else
          Option.bind (y.2.2.2.1) fun p9 =>
          Option.bind (i_Space_page p9 r8 81) fun c10 =>
          Option.bind (α := (List Int × (Int × (Int × (List Int × (Int × (Int × (Bool × ((Option (List (List Int) × (List Int × (List Int × List Int)))) × (Int × (Int × (List Int × List (List Int))))))))))))) (
              if (!c10.2) = true then
                some (y.1, y.2.2.1, r8, c10.1, y.2.1, y.2.2.1, true, y.2.2.2.1, y.2.2.2.2.1, y.2.2.2.2.2.1, y.2.2.2.2.2.2.1, y.2.2.2.2.2.2.2)
              else
                Option.bind (i_isEmpty c10.1) fun c11 =>
                if c11 = true then
                  some (y.1, y.2.2.1, r8, c10.1, y.2.1, y.2.2.1, true, y.2.2.2.1, y.2.2.2.2.1, y.2.2.2.2.2.1, y.2.2.2.2.2.2.1, y.2.2.2.2.2.2.2)
                else
                if (decide ((0 : Int) ≤ 0)) = true then
                if (decide ((0 : Int) ≤ y.2.2.1)) = true then
                if (decide ((y.2.2.1 : Int) ≤ ((List.length y.1 : Nat) : Int))) = true then
                if (decide ((((List.length y.1 : Nat) : Int) : Int) ≤ ((List.length y.1 : Nat) : Int))) = true then
                Option.bind (slices_Contains_int_int ((y.1.drop (Int.toNat 0)).take (Int.toNat y.2.2.1 - Int.toNat 0)) r8) fun c12 =>
                if c12 = true then
                  some (y.1, y.2.2.1, r8, c10.1, y.2.1, y.2.2.1, true, y.2.2.2.1, y.2.2.2.2.1, y.2.2.2.2.2.1, y.2.2.2.2.2.2.1, y.2.2.2.2.2.2.2)
                else
                  Option.bind (slices_ContainsFunc_int_int_l_i_Space_tree_1 c10.1 y.2.2.2.1) fun c13 =>
                  some (y.1, y.2.2.1, r8, c13.1, y.2.1, y.2.2.1, c13.2.1, c13.2.2, y.2.2.2.2.1, y.2.2.2.2.2.1, y.2.2.2.2.2.2.1, y.2.2.2.2.2.2.2)
                else none
                else none
                else none
                else none) fun v14 =>
          if v14.2.2.2.2.2.2.1 = true then
            some (.inr (false, 0))
          else
          if (decide ((0 : Int) ≤ v14.2.1)) = true then
          if (decide ((v14.2.1 : Int) < ((List.length v14.2.2.2.2.2.2.2.2.2.2.1 : Nat) : Int))) = true then
          Option.bind (v14.2.2.2.2.2.2.2.2.2.2.1[0 + Int.toNat v14.2.1]?) fun r15 =>
          Option.bind (v14.2.2.2.2.2.2.2.2.2.2.1[0 + Int.toNat v14.2.1]?) fun r16 =>
          if (decide ((0 : Int) ≤ v14.2.1)) = true then
          if (decide ((v14.2.1 : Int) < ((List.length v14.2.2.2.2.2.2.2.2.2.2.2 : Nat) : Int))) = true then
          Option.bind (v14.2.2.2.2.2.2.2.2.2.2.2[0 + Int.toNat v14.2.1]?) fun r17 =>
          Option.bind (v14.2.2.2.2.2.2.2.2.2.2.2[0 + Int.toNat v14.2.1]?) fun r18 =>
          some (.inl (v14.1, v14.2.2.2.2.1, v14.2.2.2.2.2.1, v14.2.2.2.2.2.2.2.1, v14.2.2.2.2.2.2.2.2.1, v14.2.2.2.2.2.2.2.2.2.1, v14.2.2.2.2.2.2.2.2.2.2.1.set (0 + Int.toNat v14.2.1) v14.2.2.1, v14.2.2.2.2.2.2.2.2.2.2.2.set (0 + Int.toNat v14.2.1) v14.2.2.2.1))
          else none
          else none
          else none
          else none
        else none
        else none) fun v19 =>
    match v19 with
    | .inl y20 =>
      some (.inl (y20.1, y20.2.1, IntKind.wrap .i64 (y20.2.2.1 + 1), y20.2.2.2.1, y20.2.2.2.2.1, y20.2.2.2.2.2.1, y20.2.2.2.2.2.2.1, y20.2.2.2.2.2.2.2))
    | .inr s21 =>
      some (.inr (.inr (s21.1, s21.2)))
  else
    some (.inr (.inl (y.2.2.2.2.1, y.2.2.2.2.2.1, y.2.2.2.2.2.2.1, y.2.2.2.2.2.2.2)))
def i_Space_tree (x0 : (List (List Int) × (List Int × (List Int × List Int)))) (x1 : Int) : Option ((Bool × (Int × (List Int × List (List Int))))) :=
  if (decide ((0 : Int) ≤ 32)) = true then
  if (decide ((32 : Int) ≤ 32)) = true then
  if (roomFor (Int.toNat 32) 8) = true then
  if (decide ((0 : Int) ≤ 32)) = true then
  if (decide ((32 : Int) ≤ 32)) = true then
  if (roomFor (Int.toNat 32) 24) = true then
  Option.bind (loopG i_Space_tree_L1 (x1, ((List.length (List.replicate (Int.toNat 32) ([] : List Int)) : Nat) : Int), 0, some x0, 0, x1, List.replicate (Int.toNat 32) (0 : Int), List.replicate (Int.toNat 32) ([] : List Int))) fun v3 =>
  if (decide ((v3.1 : Int) = 0)) = true then
    some (true, v3.2.2.2.1, v3.2.2.2.2.1, v3.2.2.2.2.2)
  else
    Option.bind (v3.2.1) fun p4 =>
    Option.bind (i_Space_page p4 v3.1 80) fun c5 =>
    Option.bind (α := (List Int × (Bool × ((Option (List (List Int) × (List Int × (List Int × List Int)))) × (Int × (Int × (List Int × List (List Int)))))))) (
        if (!c5.2) = true then
          some (c5.1, true, v3.2.1, v3.2.2.1, v3.2.2.2.1, v3.2.2.2.2.1, v3.2.2.2.2.2)
        else
          Option.bind (i_isEmpty c5.1) fun c6 =>
          some (c5.1, c6, v3.2.1, v3.2.2.1, v3.2.2.2.1, v3.2.2.2.2.1, v3.2.2.2.2.2)) fun v7 =>
    if v7.2.1 = true then
      some (false, 0, [], [])
    else
      Option.bind (loopG i_Space_tree_L2 (v7.1, ((List.length v7.1 : Nat) : Int), 0, v7.2.2.1, v7.2.2.2.1, v7.2.2.2.2.1, v7.2.2.2.2.2.1, v7.2.2.2.2.2.2)) fun v22 =>
      match v22 with
      | .inl y23 =>
        some (true, y23.2.1, y23.2.2.1, y23.2.2.2)
      | .inr s24 =>
        some (s24.1, s24.2, [], [])
  else none
  else none
  else none
  else none
  else none
  else none
def i_treeOf (x0 : List (List Int)) (x1 : List Int) (x2 : List Int) (x3 : List Int) (x4 : Int) : Option ((Bool × (Int × (List Int × List (List Int))))) :=
  Option.bind (i_GoodSpace x0 x1 x2 x3) fun c1 =>
  if (!c1) = true then
    some (false, 0, [], [])
  else
    Option.bind (i_Space_tree (x0, (x1, (x2, x3))) x4) fun c2 =>
    some (c2.1, c2.2.1, c2.2.2.1, c2.2.2.2)
def i_Space_areSets_ffff_L1 (y : (List (Int × Int) × (List (Int × Int) × (Int × (Int × (List (List Int) × (List Int × (List Int × List Int)))))))) : Option ((List (Int × Int) × (List (Int × Int) × (Int × (Int × (List (List Int) × (List Int × (List Int × List Int))))))) ⊕ ((List (Int × Int) × (List (List Int) × (List Int × (List Int × List Int)))) ⊕ (Bool × (List (List Int) × (List Int × (List Int × List Int)))))) :=
  if (decide ((y.2.2.2.1 : Int) < y.2.2.1)) = true then
    if (decide ((0 : Int) ≤ y.2.2.2.1)) = true then
    Option.bind (y.2.1[Int.toNat y.2.2.2.1]?) fun r1 =>
    Option.bind (α := (List (Int × Int) × (List (Int × Int) × (Int × (Int × (Bool × (List (List Int) × (List Int × (List Int × List Int))))))))) (
        Option.bind (i_within r1.1 0 1023) fun c2 =>
        if (!c2) = true then
          some (y.1, y.2.1, y.2.2.1, y.2.2.2.1, true, y.2.2.2.2.1, y.2.2.2.2.2.1, y.2.2.2.2.2.2.1, y.2.2.2.2.2.2.2)
        else
        if (decide ((0 : Int) < y.2.2.2.1)) = true then
          if (decide ((0 : Int) ≤ IntKind.wrap .i64 (y.2.2.2.1 - 1))) = true then
          Option.bind (y.1[Int.toNat (IntKind.wrap .i64 (y.2.2.2.1 - 1))]?) fun r3 =>
          if (decide ((r1.1 : Int) ≤ r3.1)) = true then
            some (y.1, y.2.1, y.2.2.1, y.2.2.2.1, true, y.2.2.2.2.1, y.2.2.2.2.2.1, y.2.2.2.2.2.2.1, y.2.2.2.2.2.2.2)
          else
          if (decide (¬ (r1.2 : Int) = 0)) = true then
            Option.bind (i_Space_isHere_ffff r1.2 y.2.2.2.2.1 y.2.2.2.2.2.1 y.2.2.2.2.2.2.1 y.2.2.2.2.2.2.2) fun c4 =>
            some (y.1, y.2.1, y.2.2.1, y.2.2.2.1, (!c4.1), c4.2.1, c4.2.2.1, c4.2.2.2.1, c4.2.2.2.2)
          else
          some (y.1, y.2.1, y.2.2.1, y.2.2.2.1, false, y.2.2.2.2.1, y.2.2.2.2.2.1, y.2.2.2.2.2.2.1, y.2.2.2.2.2.2.2)
          else none
        else
        if (decide (¬ (r1.2 : Int) = 0)) = true then
          Option.bind (i_Space_isHere_ffff r1.2 y.2.2.2.2.1 y.2.2.2.2.2.1 y.2.2.2.2.2.2.1 y.2.2.2.2.2.2.2) fun c6 =>
          some (y.1, y.2.1, y.2.2.1, y.2.2.2.1, (!c6.1), c6.2.1, c6.2.2.1, c6.2.2.2.1, c6.2.2.2.2)
        else
        some (y.1, y.2.1, y.2.2.1, y.2.2.2.1, false, y.2.2.2.2.1, y.2.2.2.2.2.1, y.2.2.2.2.2.2.1, y.2.2.2.2.2.2.2)) fun v7 =>
    if v7.2.2.2.2.1 = true then
      some (.inr (.inr (false, v7.2.2.2.2.2.1, v7.2.2.2.2.2.2.1, v7.2.2.2.2.2.2.2.1, v7.2.2.2.2.2.2.2.2)))
    else
      some (.inl (v7.1, v7.2.1, v7.2.2.1, IntKind.wrap .i64 (v7.2.2.2.1 + 1), v7.2.2.2.2.2.1, v7.2.2.2.2.2.2.1, v7.2.2.2.2.2.2.2.1, v7.2.2.2.2.2.2.2.2))
    else none
  else
    some (.inr (.inl (y.1, y.2.2.2.2.1, y.2.2.2.2.2.1, y.2.2.2.2.2.2.1, y.2.2.2.2.2.2.2)))
def i_Space_areSets_ffff (x0 : List (Int × Int)) (x1 : List (List Int)) (x2 : List Int) (x3 : List Int) (x4 : List Int) : Option ((Bool × (List (List Int) × (List Int × (List Int × List Int))))) :=
  Option.bind (loopG i_Space_areSets_ffff_L1 (x0, x0, ((List.length x0 : Nat) : Int), 0, x1, x2, x3, x4)) fun v8 =>
  match v8 with
  | .inl y9 =>
    some (decide ((((List.length y9.1 : Nat) : Int) : Int) ≤ 64), y9.2.1, y9.2.2.1, y9.2.2.2.1, y9.2.2.2.2)
  | .inr s10 =>
    some (s10.1, s10.2.1, s10.2.2.1, s10.2.2.2.1, s10.2.2.2.2)
def slices_Clone_byte_byte (x0 : List Int) : Option (List Int) :=
  Option.bind (α := List Int) (bothQ (List.isEmpty x0) (
      some []) (
      if (roomFor (List.length ([] : List Int) + List.length x0) 1) = true then
      some (([] : List Int) ++ x0)
      else none)) fun v1 =>
  some v1
def i_copyBlocks_L1 (y : (List (List Int) × (List (List Int) × (Int × Int)))) : Option ((List (List Int) × (List (List Int) × (Int × Int))) ⊕ (List (List Int))) :=
  if (decide ((y.2.2.2 : Int) < y.2.2.1)) = true then
    if (decide ((0 : Int) ≤ y.2.2.2)) = true then
    Option.bind (y.2.1[Int.toNat y.2.2.2]?) fun r1 =>
    Option.bind (slices_Clone_byte_byte r1) fun c2 =>
    if (roomFor (List.length y.1 + List.length ([c2] : List (List Int))) 24) = true then
    some (.inl (y.1 ++ ([c2] : List (List Int)), y.2.1, y.2.2.1, IntKind.wrap .i64 (y.2.2.2 + 1)))
    else none
    else none
  else
    some (.inr y.1)
def i_copyBlocks (x0 : List (List Int)) : Option (List (List Int)) :=
  Option.bind (loopG i_copyBlocks_L1 ([], x0, ((List.length x0 : Nat) : Int), 0)) fun v3 =>
  some v3
def slices_Clone_int_int (x0 : List Int) : Option (List Int) :=
  Option.bind (α := List Int) (bothQ (List.isEmpty x0) (
      some []) (
      if (roomFor (List.length ([] : List Int) + List.length x0) 8) = true then
      some (([] : List Int) ++ x0)
      else none)) fun v1 =>
  some v1
def i_Space_copied (x0 : List (List Int)) (x1 : List Int) (x2 : List Int) (x3 : List Int) : Option ((List (List Int) × (List Int × (List Int × List Int)))) :=
  Option.bind (i_copyBlocks x0) fun c1 =>
  Option.bind (slices_Clone_byte_byte x1) fun c2 =>
  Option.bind (slices_Clone_int_int x2) fun c3 =>
  Option.bind (slices_Clone_int_int x3) fun c4 =>
  some (c1, c2, c3, c4)
def cmp_isNaN_int (x0 : Int) : Option (Bool) :=
  some (decide (¬ (x0 : Int) = x0))
def cmp_Less_int (x0 : Int) (x1 : Int) : Option (Bool) :=
  Option.bind (α := Bool) (
      Option.bind (cmp_isNaN_int x0) fun c1 =>
      if c1 = true then
        Option.bind (cmp_isNaN_int x1) fun c2 =>
        if (!c2) = true then
          some true
        else
        some (decide ((x0 : Int) < x1))
      else
      some (decide ((x0 : Int) < x1))) fun v3 =>
  some v3
def slices_isNaN_int (x0 : Int) : Option (Bool) :=
  some (decide (¬ (x0 : Int) = x0))
def slices_BinarySearch_int_int_L1 (y : (List Int × (Int × (Int × (Int × Int))))) : Option ((List Int × (Int × (Int × (Int × Int)))) ⊕ (List Int × (Int × (Int × Int)))) :=
  if (decide ((y.2.2.2.1 : Int) < y.2.2.2.2)) = true then
    if (decide ((0 : Int) ≤ 1)) = true then
    if (decide ((0 : Int) ≤ IntKind.wrap .i64 (Int.fdiv (IntKind.wrap .u64 (IntKind.wrap .i64 (y.2.2.2.1 + y.2.2.2.2))) (2 ^ (min (Int.toNat 1) (IntKind.bits .u64)))))) = true then
    Option.bind (y.1[Int.toNat (IntKind.wrap .i64 (Int.fdiv (IntKind.wrap .u64 (IntKind.wrap .i64 (y.2.2.2.1 + y.2.2.2.2))) (2 ^ (min (Int.toNat 1) (IntKind.bits .u64)))))]?) fun r1 =>
    Option.bind (cmp_Less_int r1 y.2.1) fun c2 =>
    Option.bind (α := (List Int × (Int × (Int × (Int × Int))))) (
        if c2 = true then
          some (y.1, y.2.1, y.2.2.1, IntKind.wrap .i64 ((IntKind.wrap .i64 (Int.fdiv (IntKind.wrap .u64 (IntKind.wrap .i64 (y.2.2.2.1 + y.2.2.2.2))) (2 ^ (min (Int.toNat 1) (IntKind.bits .u64))))) + 1), y.2.2.2.2)
        else
          some (y.1, y.2.1, y.2.2.1, y.2.2.2.1, IntKind.wrap .i64 (Int.fdiv (IntKind.wrap .u64 (IntKind.wrap .i64 (y.2.2.2.1 + y.2.2.2.2))) (2 ^ (min (Int.toNat 1) (IntKind.bits .u64)))))) fun v3 =>
    some (.inl (v3.1, v3.2.1, v3.2.2.1, v3.2.2.2.1, v3.2.2.2.2))
    else none
    else none
  else
    some (.inr (y.1, y.2.1, y.2.2.1, y.2.2.2.1))
def slices_BinarySearch_int_int (x0 : List Int) (x1 : Int) : Option ((Int × Bool)) :=
  Option.bind (loopG slices_BinarySearch_int_int_L1 (x0, x1, ((List.length x0 : Nat) : Int), 0, ((List.length x0 : Nat) : Int))) fun v4 =>
  Option.bind (α := (Int × Bool)) (
      if (decide ((v4.2.2.2 : Int) < v4.2.2.1)) = true then
        if (decide ((0 : Int) ≤ v4.2.2.2)) = true then
        Option.bind (v4.1[Int.toNat v4.2.2.2]?) fun r5 =>
        if (decide ((r5 : Int) = v4.2.1)) = true then
          some (v4.2.2.2, true)
        else
        if (decide ((0 : Int) ≤ v4.2.2.2)) = true then
        Option.bind (v4.1[Int.toNat v4.2.2.2]?) fun r6 =>
        Option.bind (slices_isNaN_int r6) fun c7 =>
        if c7 = true then
          Option.bind (slices_isNaN_int v4.2.1) fun c8 =>
          some (v4.2.2.2, c8)
        else
        some (v4.2.2.2, false)
        else none
        else none
      else
      some (v4.2.2.2, false)) fun v9 =>
  some (v9.1, v9.2)
def slices_Insert_int_int (x0 : List Int) (x1 : Int) (x2 : List Int) : Option (List Int) :=
  if 0 ≤ x1 ∧ x1.toNat ≤ x0.length ∧ x2 ≠ [] ∧ (x0.length + x2.length) * 8 ≤ 140737488355328 then some (x0.take x1.toNat ++ (x2 ++ x0.drop x1.toNat)) else none
def i_insert (x0 : List Int) (x1 : Int) : Option (List Int) :=
  Option.bind (slices_BinarySearch_int_int x0 x1) fun c1 =>
  if c1.2 = true then
    some x0
  else
    Option.bind (slices_Insert_int_int x0 c1.1 [x1]) fun c2 =>
    some c2
def i_Space_lay_oooo (x0 : Int) (x1 : List Int) (x2 : List (List Int)) (x3 : List Int) (x4 : List Int) (x5 : List Int) : Option ((List (List Int) × (List Int × (List Int × List Int)))) :=
  Option.bind (slices_Clone_byte_byte x1) fun c1 =>
  if (decide ((0 : Int) ≤ x0)) = true then
  if (decide ((x0 : Int) < ((List.length x2 : Nat) : Int))) = true then
  Option.bind (x2[0 + Int.toNat x0]?) fun r2 =>
  Option.bind (x2[0 + Int.toNat x0]?) fun r3 =>
  Option.bind (i_insert x5 x0) fun c4 =>
  some (x2.set (0 + Int.toNat x0) c1, x3, x4, c4)
  else none
  else none
def i_Space_used_oooo (x0 : Int) (x1 : List (List Int)) (x2 : List Int) (x3 : List Int) (x4 : List Int) : Option ((Bool × (List (List Int) × (List Int × (List Int × List Int))))) :=
  if (decide (¬ (8 : Int) = 0)) = true then
  if (decide ((0 : Int) ≤ IntKind.wrap .i64 (Int.tdiv x0 8))) = true then
  if (decide ((IntKind.wrap .i64 (Int.tdiv x0 8) : Int) < ((List.length x2 : Nat) : Int))) = true then
  Option.bind (x2[0 + Int.toNat (IntKind.wrap .i64 (Int.tdiv x0 8))]?) fun r1 =>
  if (decide (¬ (8 : Int) = 0)) = true then
  if (decide ((0 : Int) ≤ Int.tmod x0 8)) = true then
  some (decide ((IntKind.wrap .u8 (((BitVec.ofInt (IntKind.bits .u8) (Int.fdiv r1 (2 ^ (min (Int.toNat (Int.tmod x0 8)) (IntKind.bits .u8)))) &&& BitVec.ofInt (IntKind.bits .u8) 1).toNat : Int)) : Int) = 1), x1, x2, x3, x4)
  else none
  else none
  else none
  else none
  else none
def i_Space_take_oooo_L1 (y : (Int × (Int × (List (List Int) × (List Int × (List Int × List Int)))))) : Option ((Int × (Int × (List (List Int) × (List Int × (List Int × List Int))))) ⊕ ((List (List Int) × (List Int × (List Int × List Int))) ⊕ (Int × (Bool × (List (List Int) × (List Int × (List Int × List Int))))))) :=
  if (decide ((y.2.1 : Int) < y.1)) = true then
    Option.bind (i_Space_used_oooo y.2.1 y.2.2.1 y.2.2.2.1 y.2.2.2.2.1 y.2.2.2.2.2) fun c1 =>
    if (!c1.1) = true then
      if (decide (¬ (8 : Int) = 0)) = true then
      if (decide ((0 : Int) ≤ IntKind.wrap .i64 (Int.tdiv y.2.1 8))) = true then
      if (decide ((IntKind.wrap .i64 (Int.tdiv y.2.1 8) : Int) < ((List.length c1.2.2.1 : Nat) : Int))) = true then
      Option.bind (c1.2.2.1[0 + Int.toNat (IntKind.wrap .i64 (Int.tdiv y.2.1 8))]?) fun r2 =>
      if (decide (¬ (8 : Int) = 0)) = true then
      if (decide ((0 : Int) ≤ Int.tmod y.2.1 8)) = true then
      if (decide ((0 : Int) ≤ IntKind.wrap .i64 (Int.tdiv y.2.1 8))) = true then
      if (decide ((IntKind.wrap .i64 (Int.tdiv y.2.1 8) : Int) < ((List.length c1.2.2.1 : Nat) : Int))) = true then
      Option.bind (c1.2.2.1[0 + Int.toNat (IntKind.wrap .i64 (Int.tdiv y.2.1 8))]?) fun r3 =>
      Option.bind (c1.2.2.1[0 + Int.toNat (IntKind.wrap .i64 (Int.tdiv y.2.1 8))]?) fun r4 =>
      if (decide ((0 : Int) ≤ 128)) = true then
      if (decide ((128 : Int) ≤ 128)) = true then
      if (roomFor (Int.toNat 128) 1) = true then
      Option.bind (i_Space_lay_oooo y.2.1 (List.replicate (Int.toNat 128) (0 : Int)) c1.2.1 (c1.2.2.1.set (0 + Int.toNat (IntKind.wrap .i64 (Int.tdiv y.2.1 8))) (IntKind.wrap .u8 (((BitVec.ofInt (IntKind.bits .u8) r2 ||| BitVec.ofInt (IntKind.bits .u8) (IntKind.wrap .u8 (1 * 2 ^ (min (Int.toNat (Int.tmod y.2.1 8)) (IntKind.bits .u8))))).toNat : Int)))) c1.2.2.2.1 c1.2.2.2.2) fun c5 =>
      some (.inr (.inr (y.2.1, true, c5.1, c5.2.1, c5.2.2.1, c5.2.2.2)))
      else none
      else none
      else none
      else none
      else none
      else none
      else none
      else none
      else none
      else none
    else
      some (.inl (y.1, IntKind.wrap .i64 (y.2.1 + 1), c1.2.1, c1.2.2.1, c1.2.2.2.1, c1.2.2.2.2))
  else
    some (.inr (.inl (y.2.2.1, y.2.2.2.1, y.2.2.2.2.1, y.2.2.2.2.2)))
def i_Space_take_oooo (x0 : List (List Int)) (x1 : List Int) (x2 : List Int) (x3 : List Int) : Option ((Int × (Bool × (List (List Int) × (List Int × (List Int × List Int)))))) :=
  Option.bind (loopG i_Space_take_oooo_L1 (((List.length x0 : Nat) : Int), 0, x0, x1, x2, x3)) fun v6 =>
  match v6 with
  | .inl y7 =>
    some (0, false, y7.1, y7.2.1, y7.2.2.1, y7.2.2.2)
  | .inr s8 =>
    some (s8.1, s8.2.1, s8.2.2.1, s8.2.2.2.1, s8.2.2.2.2.1, s8.2.2.2.2.2)
def i_two (x0 : Int) : Option (List Int) :=
  if (decide ((0 : Int) ≤ 8)) = true then
  some [IntKind.wrap .u8 (Int.fdiv x0 (2 ^ (min (Int.toNat 8) (IntKind.bits .i64)))), IntKind.wrap .u8 x0]
  else none
def i_padded (x0 : List Int) (x1 : Int) : Option (List Int) :=
  if (decide ((0 : Int) ≤ IntKind.wrap .i64 (x1 - ((List.length x0 : Nat) : Int)))) = true then
  if (roomFor (List.length x0 + List.length (List.replicate (Int.toNat (IntKind.wrap .i64 (x1 - ((List.length x0 : Nat) : Int)))) (0 : Int))) 1) = true then
  some (x0 ++ (List.replicate (Int.toNat (IntKind.wrap .i64 (x1 - ((List.length x0 : Nat) : Int)))) (0 : Int)))
  else none
  else none
def i_Space_layPage_oooo_L1 (y : (Int × (List Int × (List Int × (Int × (Int × (List (List Int) × (List Int × (List Int × List Int))))))))) : Option ((Int × (List Int × (List Int × (Int × (Int × (List (List Int) × (List Int × (List Int × List Int)))))))) ⊕ (Int × (List Int × (List (List Int) × (List Int × (List Int × List Int)))))) :=
  if (decide ((y.2.2.2.2.1 : Int) < y.2.2.2.1)) = true then
    if (decide ((0 : Int) ≤ y.2.2.2.2.1)) = true then
    Option.bind (y.2.2.1[Int.toNat y.2.2.2.2.1]?) fun r1 =>
    Option.bind (i_two r1) fun c2 =>
    if (roomFor (List.length y.2.1 + List.length c2) 1) = true then
    some (.inl (y.1, y.2.1 ++ c2, y.2.2.1, y.2.2.2.1, IntKind.wrap .i64 (y.2.2.2.2.1 + 1), y.2.2.2.2.2.1, y.2.2.2.2.2.2.1, y.2.2.2.2.2.2.2.1, y.2.2.2.2.2.2.2.2))
    else none
    else none
  else
    some (.inr (y.1, y.2.1, y.2.2.2.2.2.1, y.2.2.2.2.2.2.1, y.2.2.2.2.2.2.2.1, y.2.2.2.2.2.2.2.2))
def i_Space_layPage_oooo (x0 : Int) (x1 : Int) (x2 : List Int) (x3 : List (List Int)) (x4 : List Int) (x5 : List Int) (x6 : List Int) : Option ((List (List Int) × (List Int × (List Int × List Int)))) :=
  Option.bind (loopG i_Space_layPage_oooo_L1 (x0, [x1], x2, ((List.length x2 : Nat) : Int), 0, x3, x4, x5, x6)) fun v3 =>
  Option.bind (i_padded v3.2.1 128) fun c4 =>
  Option.bind (i_Space_lay_oooo v3.1 c4 v3.2.2.1 v3.2.2.2.1 v3.2.2.2.2.1 v3.2.2.2.2.2) fun c5 =>
  some (c5.1, c5.2.1, c5.2.2.1, c5.2.2.2)
def i_Space_give_oooo (x0 : Int) (x1 : List (List Int)) (x2 : List Int) (x3 : List Int) (x4 : List Int) : Option ((List (List Int) × (List Int × (List Int × List Int)))) :=
  Option.bind (i_insert x3 x0) fun c1 =>
  some (x1, x2, c1, x4)
def i_Space_set_oooo_L1 (y : (List (Int × Int) × (List Int × (List (List Int) × (List Int × (Int × (Int × (Int × (List Int × (List (List Int) × (List (List Int) × (List Int × (List Int × List Int))))))))))))) : Option ((List (Int × Int) × (List Int × (List (List Int) × (List Int × (Int × (Int × (Int × (List Int × (List (List Int) × (List (List Int) × (List Int × (List Int × List Int)))))))))))) ⊕ (List (Int × Int) × (List Int × (List (List Int) × (List Int × (Int × (List Int × (List (List Int) × (List (List Int) × (List Int × (List Int × List Int))))))))))) :=
  if (decide ((y.2.2.2.2.2.1 : Int) < y.2.2.2.2.1)) = true then
    if (decide ((0 : Int) ≤ y.2.2.2.2.2.1)) = true then
    Option.bind (y.2.2.2.2.2.2.2.2.1[Int.toNat y.2.2.2.2.2.1]?) fun r2 =>
    Option.bind (slices_Clone_int_int r2) fun c3 =>
    if (decide ((0 : Int) ≤ y.2.2.2.2.2.1)) = true then
    if (decide ((y.2.2.2.2.2.1 : Int) < ((List.length y.2.2.1 : Nat) : Int))) = true then
    Option.bind (y.2.2.1[0 + Int.toNat y.2.2.2.2.2.1]?) fun r4 =>
    Option.bind (y.2.2.1[0 + Int.toNat y.2.2.2.2.2.1]?) fun r5 =>
    some (.inl (y.1, y.2.1, y.2.2.1.set (0 + Int.toNat y.2.2.2.2.2.1) c3, y.2.2.2.1, y.2.2.2.2.1, IntKind.wrap .i64 (y.2.2.2.2.2.1 + 1), y.2.2.2.2.2.2.1, y.2.2.2.2.2.2.2.1, y.2.2.2.2.2.2.2.2.1, y.2.2.2.2.2.2.2.2.2.1, y.2.2.2.2.2.2.2.2.2.2.1, y.2.2.2.2.2.2.2.2.2.2.2.1, y.2.2.2.2.2.2.2.2.2.2.2.2))
    else none
    else none
    else none
  else
    some (.inr (y.1, y.2.1, y.2.2.1, y.2.2.2.1, y.2.2.2.2.2.2.1, y.2.2.2.2.2.2.2.1, y.2.2.2.2.2.2.2.2.1, y.2.2.2.2.2.2.2.2.2.1, y.2.2.2.2.2.2.2.2.2.2.1, y.2.2.2.2.2.2.2.2.2.2.2.1, y.2.2.2.2.2.2.2.2.2.2.2.2))
def i_Space_set_oooo_L2 (y : (List Int × (List (List Int) × (List Int × (List (Int × Int) × (Int × (Int × (Int × (List Int × (List (List Int) × (List (List Int) × (List Int × (List Int × List Int))))))))))))) : Option ((List Int × (List (List Int) × (List Int × (List (Int × Int) × (Int × (Int × (Int × (List Int × (List (List Int) × (List (List Int) × (List Int × (List Int × List Int)))))))))))) ⊕ (List Int × (List (List Int) × (List Int × (Int × (List Int × (List (List Int) × (List (List Int) × (List Int × (List Int × List Int)))))))))) :=
  if (decide ((y.2.2.2.2.2.1 : Int) < y.2.2.2.2.1)) = true then
    if (decide ((0 : Int) ≤ y.2.2.2.2.2.1)) = true then
    Option.bind (y.2.2.2.1[Int.toNat y.2.2.2.2.2.1]?) fun r7 =>
    if (decide (¬ (32 : Int) = 0)) = true then
    if (decide ((0 : Int) ≤ IntKind.wrap .i64 (Int.tdiv r7.1 32))) = true then
    if (decide ((IntKind.wrap .i64 (Int.tdiv r7.1 32) : Int) < ((List.length y.2.1 : Nat) : Int))) = true then
    Option.bind (y.2.1[0 + Int.toNat (IntKind.wrap .i64 (Int.tdiv r7.1 32))]?) fun r8 =>
    if (decide (¬ (32 : Int) = 0)) = true then
    if (decide ((0 : Int) ≤ Int.tmod r7.1 32)) = true then
    Option.bind (y.2.1[0 + Int.toNat (IntKind.wrap .i64 (Int.tdiv r7.1 32))]?) fun r9 =>
    if (decide ((Int.tmod r7.1 32 : Int) < ((List.length r9 : Nat) : Int))) = true then
    Option.bind (y.2.1[0 + Int.toNat (IntKind.wrap .i64 (Int.tdiv r7.1 32))]?) fun r10 =>
    Option.bind (r10[0 + Int.toNat (Int.tmod r7.1 32)]?) fun r11 =>
    Option.bind (y.2.1[0 + Int.toNat (IntKind.wrap .i64 (Int.tdiv r7.1 32))]?) fun r12 =>
    Option.bind (r12[0 + Int.toNat (Int.tmod r7.1 32)]?) fun r13 =>
    if (decide (¬ (32 : Int) = 0)) = true then
    Option.bind (i_insert y.2.2.1 (IntKind.wrap .i64 (Int.tdiv r7.1 32))) fun c14 =>
    some (.inl (y.1, y.2.1.set (0 + Int.toNat (IntKind.wrap .i64 (Int.tdiv r7.1 32))) (r12.set (0 + Int.toNat (Int.tmod r7.1 32)) r7.2), c14, y.2.2.2.1, y.2.2.2.2.1, IntKind.wrap .i64 (y.2.2.2.2.2.1 + 1), y.2.2.2.2.2.2.1, y.2.2.2.2.2.2.2.1, y.2.2.2.2.2.2.2.2.1, y.2.2.2.2.2.2.2.2.2.1, y.2.2.2.2.2.2.2.2.2.2.1, y.2.2.2.2.2.2.2.2.2.2.2.1, y.2.2.2.2.2.2.2.2.2.2.2.2))
    else none
    else none
    else none
    else none
    else none
    else none
    else none
    else none
  else
    some (.inr (y.1, y.2.1, y.2.2.1, y.2.2.2.2.2.2.1, y.2.2.2.2.2.2.2.1, y.2.2.2.2.2.2.2.2.1, y.2.2.2.2.2.2.2.2.2.1, y.2.2.2.2.2.2.2.2.2.2.1, y.2.2.2.2.2.2.2.2.2.2.2.1, y.2.2.2.2.2.2.2.2.2.2.2.2))
def i_Space_set_oooo_L3 (y : (List Int × (List (List Int) × (List Int × (List Int × (Int × (Int × (Int × (List Int × (List (List Int) × (List (List Int) × (List Int × (List Int × List Int))))))))))))) : Option ((List Int × (List (List Int) × (List Int × (List Int × (Int × (Int × (Int × (List Int × (List (List Int) × (List (List Int) × (List Int × (List Int × List Int)))))))))))) ⊕ ((List Int × (List Int × (Int × (List Int × (List (List Int) × (List (List Int) × (List Int × (List Int × List Int)))))))) ⊕ (Int × (Bool × (List (List Int) × (List Int × (List Int × List Int))))))) :=
  if (decide ((y.2.2.2.2.2.1 : Int) < y.2.2.2.2.1)) = true then
    Option.bind (α := (List Int × (List (List Int) × (List Int × (List Int × (Int × (Int × (Int × (List Int × (List (List Int) × (List (List Int) × (List Int × (List Int × List Int)))))))))))) ⊕ (Int × (Bool × (List (List Int) × (List Int × (List Int × List Int)))))) (
        if (decide ((0 : Int) ≤ y.2.2.2.2.2.1)) = true then
        if (decide ((y.2.2.2.2.2.1 : Int) < ((List.length y.2.2.2.1 : Nat) : Int))) = true then
        Option.bind (y.2.2.2.1[0 + Int.toNat y.2.2.2.2.2.1]?) fun r16 =>
        if (decide ((0 : Int) ≤ r16)) = true then
        if (decide ((r16 : Int) < ((List.length y.1 : Nat) : Int))) = true then
        Option.bind (y.1[0 + Int.toNat r16]?) fun r17 =>
        Option.bind (α := (List Int × (List (List Int) × (List Int × (Int × (List Int × (Int × (Int × (Int × (List Int × (List (List Int) × (List (List Int) × (List Int × (List Int × List Int)))))))))))))) (
            if (decide (¬ (r17 : Int) = 0)) = true then
              if (decide ((0 : Int) ≤ r16)) = true then
              if (decide ((r16 : Int) < ((List.length y.1 : Nat) : Int))) = true then
              Option.bind (y.1[0 + Int.toNat r16]?) fun r18 =>
              if (roomFor (List.length y.2.2.1 + List.length ([r18] : List Int)) 8) = true then
              some (y.1, y.2.1, y.2.2.1 ++ ([r18] : List Int), r16, y.2.2.2.1, y.2.2.2.2.1, y.2.2.2.2.2.1, y.2.2.2.2.2.2.1, y.2.2.2.2.2.2.2.1, y.2.2.2.2.2.2.2.2.1, y.2.2.2.2.2.2.2.2.2.1, y.2.2.2.2.2.2.2.2.2.2.1, y.2.2.2.2.2.2.2.2.2.2.2.1, y.2.2.2.2.2.2.2.2.2.2.2.2)
              else none
              else none
              else none
            else
              some (y.1, y.2.1, y.2.2.1, r16, y.2.2.2.1, y.2.2.2.2.1, y.2.2.2.2.2.1, y.2.2.2.2.2.2.1, y.2.2.2.2.2.2.2.1, y.2.2.2.2.2.2.2.2.1, y.2.2.2.2.2.2.2.2.2.1, y.2.2.2.2.2.2.2.2.2.2.1, y.2.2.2.2.2.2.2.2.2.2.2.1, y.2.2.2.2.2.2.2.2.2.2.2.2)) fun v19 =>
        if (decide ((0 : Int) ≤ v19.2.2.2.1)) = true then
        if (decide ((v19.2.2.2.1 : Int) < ((List.length v19.1 : Nat) : Int))) = true then
        Option.bind (v19.1[0 + Int.toNat v19.2.2.2.1]?) fun r20 =>
        Option.bind (v19.1[0 + Int.toNat v19.2.2.2.1]?) fun r21 =>
        if (decide ((0 : Int) ≤ v19.2.2.2.1)) = true then
        if (decide ((v19.2.2.2.1 : Int) < ((List.length v19.2.1 : Nat) : Int))) = true then
        Option.bind (v19.2.1[0 + Int.toNat v19.2.2.2.1]?) fun r22 =>
        Option.bind (v19.2.1[0 + Int.toNat v19.2.2.2.1]?) fun r23 =>
        Option.bind (i_isEmpty r23) fun c24 =>
        if c24 = true then
          some (.inl (v19.1.set (0 + Int.toNat v19.2.2.2.1) 0, v19.2.1, v19.2.2.1, v19.2.2.2.2.1, v19.2.2.2.2.2.1, v19.2.2.2.2.2.2.1, v19.2.2.2.2.2.2.2.1, v19.2.2.2.2.2.2.2.2.1, v19.2.2.2.2.2.2.2.2.2.1, v19.2.2.2.2.2.2.2.2.2.2.1, v19.2.2.2.2.2.2.2.2.2.2.2.1, v19.2.2.2.2.2.2.2.2.2.2.2.2.1, v19.2.2.2.2.2.2.2.2.2.2.2.2.2))
        else
          Option.bind (i_Space_take_oooo v19.2.2.2.2.2.2.2.2.2.2.1 v19.2.2.2.2.2.2.2.2.2.2.2.1 v19.2.2.2.2.2.2.2.2.2.2.2.2.1 v19.2.2.2.2.2.2.2.2.2.2.2.2.2) fun c25 =>
          if (!c25.2.1) = true then
            some (.inr (0, false, c25.2.2.1, c25.2.2.2.1, c25.2.2.2.2.1, c25.2.2.2.2.2))
          else
          if (decide ((0 : Int) ≤ v19.2.2.2.1)) = true then
          if (decide ((v19.2.2.2.1 : Int) < ((List.length v19.2.1 : Nat) : Int))) = true then
          Option.bind (v19.2.1[0 + Int.toNat v19.2.2.2.1]?) fun r26 =>
          Option.bind (v19.2.1[0 + Int.toNat v19.2.2.2.1]?) fun r27 =>
          Option.bind (i_Space_layPage_oooo c25.1 81 r27 c25.2.2.1 c25.2.2.2.1 c25.2.2.2.2.1 c25.2.2.2.2.2) fun c28 =>
          if (decide ((0 : Int) ≤ v19.2.2.2.1)) = true then
          if (decide ((v19.2.2.2.1 : Int) < ((List.length (v19.1.set (0 + Int.toNat v19.2.2.2.1) 0) : Nat) : Int))) = true then
          Option.bind ((v19.1.set (0 + Int.toNat v19.2.2.2.1) 0)[0 + Int.toNat v19.2.2.2.1]?) fun r29 =>
          Option.bind ((v19.1.set (0 + Int.toNat v19.2.2.2.1) 0)[0 + Int.toNat v19.2.2.2.1]?) fun r30 =>
          some (.inl ((v19.1.set (0 + Int.toNat v19.2.2.2.1) 0).set (0 + Int.toNat v19.2.2.2.1) c25.1, v19.2.1, v19.2.2.1, v19.2.2.2.2.1, v19.2.2.2.2.2.1, v19.2.2.2.2.2.2.1, v19.2.2.2.2.2.2.2.1, v19.2.2.2.2.2.2.2.2.1, v19.2.2.2.2.2.2.2.2.2.1, c28.1, c28.2.1, c28.2.2.1, c28.2.2.2))
          else none
          else none
          else none
          else none
        else none
        else none
        else none
        else none
        else none
        else none
        else none
        else none) fun v31 =>
    match v31 with
    | .inl y32 =>
      some (.inl (y32.1, y32.2.1, y32.2.2.1, y32.2.2.2.1, y32.2.2.2.2.1, IntKind.wrap .i64 (y32.2.2.2.2.2.1 + 1), y32.2.2.2.2.2.2.1, y32.2.2.2.2.2.2.2.1, y32.2.2.2.2.2.2.2.2.1, y32.2.2.2.2.2.2.2.2.2.1, y32.2.2.2.2.2.2.2.2.2.2.1, y32.2.2.2.2.2.2.2.2.2.2.2.1, y32.2.2.2.2.2.2.2.2.2.2.2.2))
    | .inr s33 =>
      some (.inr (.inr (s33.1, s33.2.1, s33.2.2.1, s33.2.2.2.1, s33.2.2.2.2.1, s33.2.2.2.2.2)))
  else
    some (.inr (.inl (y.1, y.2.2.1, y.2.2.2.2.2.2.1, y.2.2.2.2.2.2.2.1, y.2.2.2.2.2.2.2.2.1, y.2.2.2.2.2.2.2.2.2.1, y.2.2.2.2.2.2.2.2.2.2.1, y.2.2.2.2.2.2.2.2.2.2.2.1, y.2.2.2.2.2.2.2.2.2.2.2.2)))
def i_Space_set_oooo_L4 (y : (Int × (List Int × (Int × (Int × (List (List Int) × (List Int × (List Int × List Int)))))))) : Option ((Int × (List Int × (Int × (Int × (List (List Int) × (List Int × (List Int × List Int))))))) ⊕ (Int × (List (List Int) × (List Int × (List Int × List Int))))) :=
  if (decide ((y.2.2.2.1 : Int) < y.2.2.1)) = true then
    if (decide ((0 : Int) ≤ y.2.2.2.1)) = true then
    if (decide ((y.2.2.2.1 : Int) < ((List.length y.2.1 : Nat) : Int))) = true then
    Option.bind (y.2.1[0 + Int.toNat y.2.2.2.1]?) fun r44 =>
    Option.bind (i_Space_give_oooo r44 y.2.2.2.2.1 y.2.2.2.2.2.1 y.2.2.2.2.2.2.1 y.2.2.2.2.2.2.2) fun c45 =>
    some (.inl (y.1, y.2.1, y.2.2.1, IntKind.wrap .i64 (y.2.2.2.1 + 1), c45.1, c45.2.1, c45.2.2.1, c45.2.2.2))
    else none
    else none
  else
    some (.inr (y.1, y.2.2.2.2.1, y.2.2.2.2.2.1, y.2.2.2.2.2.2.1, y.2.2.2.2.2.2.2))
def i_Space_set_oooo (x0 : Int) (x1 : List Int) (x2 : List (List Int)) (x3 : List (Int × Int)) (x4 : List (List Int)) (x5 : List Int) (x6 : List Int) (x7 : List Int) : Option ((Int × (Bool × (List (List Int) × (List Int × (List Int × List Int)))))) :=
  if (decide ((((List.length x3 : Nat) : Int) : Int) = 0)) = true then
    some (x0, true, x4, x5, x6, x7)
  else
    Option.bind (slices_Clone_int_int x1) fun c1 =>
    if (decide ((0 : Int) ≤ 32)) = true then
    if (decide ((32 : Int) ≤ 32)) = true then
    if (roomFor (Int.toNat 32) 24) = true then
    Option.bind (loopG i_Space_set_oooo_L1 (x3, c1, List.replicate (Int.toNat 32) ([] : List Int), [], ((List.length (List.replicate (Int.toNat 32) ([] : List Int)) : Nat) : Int), 0, x0, x1, x2, x4, x5, x6, x7)) fun v6 =>
    Option.bind (loopG i_Space_set_oooo_L2 (v6.2.1, v6.2.2.1, v6.2.2.2.1, v6.1, ((List.length v6.1 : Nat) : Int), 0, v6.2.2.2.2.1, v6.2.2.2.2.2.1, v6.2.2.2.2.2.2.1, v6.2.2.2.2.2.2.2.1, v6.2.2.2.2.2.2.2.2.1, v6.2.2.2.2.2.2.2.2.2.1, v6.2.2.2.2.2.2.2.2.2.2)) fun v15 =>
    Option.bind (loopG i_Space_set_oooo_L3 (v15.1, v15.2.1, [], v15.2.2.1, ((List.length v15.2.2.1 : Nat) : Int), 0, v15.2.2.2.1, v15.2.2.2.2.1, v15.2.2.2.2.2.1, v15.2.2.2.2.2.2.1, v15.2.2.2.2.2.2.2.1, v15.2.2.2.2.2.2.2.2.1, v15.2.2.2.2.2.2.2.2.2)) fun v34 =>
    match v34 with
    | .inl y35 =>
      Option.bind (i_isEmpty y35.1) fun c37 =>
      Option.bind (α := (List Int × (Int × (Int × (List Int × (List (List Int) × (List (List Int) × (List Int × (List Int × List Int)))))))) ⊕ (Int × (Bool × (List (List Int) × (List Int × (List Int × List Int)))))) (
          if (!c37) = true then
            Option.bind (i_Space_take_oooo y35.2.2.2.2.2.1 y35.2.2.2.2.2.2.1 y35.2.2.2.2.2.2.2.1 y35.2.2.2.2.2.2.2.2) fun c38 =>
            if (!c38.2.1) = true then
              some (.inr (0, false, c38.2.2.1, c38.2.2.2.1, c38.2.2.2.2.1, c38.2.2.2.2.2))
            else
              Option.bind (i_Space_layPage_oooo c38.1 80 y35.1 c38.2.2.1 c38.2.2.2.1 c38.2.2.2.2.1 c38.2.2.2.2.2) fun c39 =>
              some (.inl (y35.2.1, c38.1, y35.2.2.1, y35.2.2.2.1, y35.2.2.2.2.1, c39.1, c39.2.1, c39.2.2.1, c39.2.2.2))
          else
            some (.inl (y35.2.1, 0, y35.2.2.1, y35.2.2.2.1, y35.2.2.2.2.1, y35.2.2.2.2.2.1, y35.2.2.2.2.2.2.1, y35.2.2.2.2.2.2.2.1, y35.2.2.2.2.2.2.2.2))) fun v40 =>
      match v40 with
      | .inl y41 =>
        Option.bind (α := (List Int × (Int × (List (List Int) × (List Int × (List Int × List Int)))))) (
            if (decide (¬ (y41.2.2.1 : Int) = 0)) = true then
              if (roomFor (List.length y41.1 + List.length ([y41.2.2.1] : List Int)) 8) = true then
              some (y41.1 ++ ([y41.2.2.1] : List Int), y41.2.1, y41.2.2.2.2.2.1, y41.2.2.2.2.2.2.1, y41.2.2.2.2.2.2.2.1, y41.2.2.2.2.2.2.2.2)
              else none
            else
              some (y41.1, y41.2.1, y41.2.2.2.2.2.1, y41.2.2.2.2.2.2.1, y41.2.2.2.2.2.2.2.1, y41.2.2.2.2.2.2.2.2)) fun v43 =>
        Option.bind (loopG i_Space_set_oooo_L4 (v43.2.1, v43.1, ((List.length v43.1 : Nat) : Int), 0, v43.2.2.1, v43.2.2.2.1, v43.2.2.2.2.1, v43.2.2.2.2.2)) fun v46 =>
        some (v46.1, true, v46.2.1, v46.2.2.1, v46.2.2.2.1, v46.2.2.2.2)
      | .inr s42 =>
        some (s42.1, s42.2.1, s42.2.2.1, s42.2.2.2.1, s42.2.2.2.2.1, s42.2.2.2.2.2)
    | .inr s36 =>
      some (s36.1, s36.2.1, s36.2.2.1, s36.2.2.2.1, s36.2.2.2.2.1, s36.2.2.2.2.2)
    else none
    else none
    else none
def i_SetKeys (x0 : List (List Int)) (x1 : List Int) (x2 : List Int) (x3 : List Int) (x4 : Int) (x5 : List (Int × Int)) : Option ((Int × (Bool × (List (List Int) × (List Int × (List Int × List Int)))))) :=
  Option.bind (i_treeOf x0 x1 x2 x3 x4) fun c1 =>
  Option.bind (α := (List (Int × Int) × (Bool × (List (List Int) × (List Int × (List Int × (List Int × (Int × (List Int × List (List Int)))))))))) (
      if (!c1.1) = true then
        some (x5, true, x0, x1, x2, x3, c1.2.1, c1.2.2.1, c1.2.2.2)
      else
        Option.bind (i_Space_areSets_ffff x5 x0 x1 x2 x3) fun c2 =>
        some (x5, (!c2.1), c2.2.1, c2.2.2.1, c2.2.2.2.1, c2.2.2.2.2, c1.2.1, c1.2.2.1, c1.2.2.2)) fun v3 =>
  if v3.2.1 = true then
    some (0, false, [], [], [], [])
  else
    Option.bind (i_Space_copied v3.2.2.1 v3.2.2.2.1 v3.2.2.2.2.1 v3.2.2.2.2.2.1) fun c4 =>
    Option.bind (i_Space_set_oooo v3.2.2.2.2.2.2.1 v3.2.2.2.2.2.2.2.1 v3.2.2.2.2.2.2.2.2 v3.1 c4.1 c4.2.1 c4.2.2.1 c4.2.2.2) fun c5 =>
    if (!c5.2.1) = true then
      some (0, false, [], [], [], [])
    else
      some (c5.1, true, c5.2.2.1, c5.2.2.2.1, c5.2.2.2.2.1, c5.2.2.2.2.2)
def s_KeysIn_L1 (y : (List (Int × Int) × (Int × (List (List Int) × (Int × (Int × (Int × (Int × Int)))))))) : Option ((List (Int × Int) × (Int × (List (List Int) × (Int × (Int × (Int × (Int × Int))))))) ⊕ (List (Int × Int) × (List (List Int) × (Int × Int)))) :=
  if (decide ((y.2.2.2.2.2.2.2 : Int) < y.2.2.2.2.2.2.1)) = true then
    if (decide ((0 : Int) ≤ y.2.2.2.2.2.2.2)) = true then
    Option.bind (y.2.2.1[Int.toNat y.2.2.2.2.2.1]?) fun r16 =>
    if (decide ((y.2.2.2.2.2.2.2 : Int) < ((List.length r16 : Nat) : Int))) = true then
    Option.bind (y.2.2.1[Int.toNat y.2.2.2.2.2.1]?) fun r17 =>
    Option.bind (r17[0 + Int.toNat y.2.2.2.2.2.2.2]?) fun r18 =>
    Option.bind (α := (List (Int × Int) × (Int × (List (List Int) × (Int × (Int × (Int × (Int × Int)))))))) (
        if (decide (¬ (r18 : Int) = 0)) = true then
          if (roomFor (List.length y.1 + List.length ([(IntKind.wrap .i64 ((IntKind.wrap .i64 (32 * y.2.1)) + y.2.2.2.2.2.2.2), r18)] : List (Int × Int))) 16) = true then
          some (y.1 ++ ([(IntKind.wrap .i64 ((IntKind.wrap .i64 (32 * y.2.1)) + y.2.2.2.2.2.2.2), r18)] : List (Int × Int)), y.2.1, y.2.2.1, y.2.2.2.1, y.2.2.2.2.1, ((Int.toNat y.2.2.2.2.2.1 : Nat) : Int), y.2.2.2.2.2.2.1, y.2.2.2.2.2.2.2)
          else none
        else
          some (y.1, y.2.1, y.2.2.1, y.2.2.2.1, y.2.2.2.2.1, ((Int.toNat y.2.2.2.2.2.1 : Nat) : Int), y.2.2.2.2.2.2.1, y.2.2.2.2.2.2.2)) fun v19 =>
    some (.inl (v19.1, v19.2.1, v19.2.2.1, v19.2.2.2.1, v19.2.2.2.2.1, ((Int.toNat v19.2.2.2.2.2.1 : Nat) : Int), v19.2.2.2.2.2.2.1, IntKind.wrap .i64 (v19.2.2.2.2.2.2.2 + 1)))
    else none
    else none
  else
    some (.inr (y.1, y.2.2.1, y.2.2.2.1, y.2.2.2.2.1))
def s_KeysIn_L2 (y : (List (Int × Int) × (List (List Int) × (Int × Int)))) : Option ((List (Int × Int) × (List (List Int) × (Int × Int))) ⊕ (List (Int × Int))) :=
  if (decide ((y.2.2.2 : Int) < y.2.2.1)) = true then
    if (decide ((0 : Int) ≤ y.2.2.2)) = true then
    if (decide ((y.2.2.2 : Int) < ((List.length y.2.1 : Nat) : Int))) = true then
    Option.bind (y.2.1[0 + Int.toNat y.2.2.2]?) fun r14 =>
    Option.bind (y.2.1[0 + Int.toNat y.2.2.2]?) fun r15 =>
    Option.bind (loopG s_KeysIn_L1 (y.1, y.2.2.2, y.2.1, y.2.2.1, y.2.2.2, ((0 + Int.toNat y.2.2.2 : Nat) : Int), ((List.length r15 : Nat) : Int), 0)) fun v20 =>
    some (.inl (v20.1, v20.2.1, v20.2.2.1, IntKind.wrap .i64 (v20.2.2.2 + 1)))
    else none
    else none
  else
    some (.inr y.1)
def s_KeysIn (x0 : List (List Int)) (x1 : List Int) (x2 : List Int) (x3 : List Int) (x4 : Int) : Option ((List (Int × Int) × Bool)) :=
  Option.bind (s_GoodTree x0 x1 x2 x3 x4) fun c1 =>
  if (!c1) = true then
    some ([], false)
  else
    Option.bind (s_l6Tree x0 x1 x2 x3 x4) fun c2 =>
    Option.bind (loopG s_KeysIn_L2 ([], c2.1, ((List.length c2.1 : Nat) : Int), 0)) fun v21 =>
    some (v21, true)
def i_tree_value (x0 : Int) (x1 : List Int) (x2 : List (List Int)) (x3 : Int) : Option (Int) :=
  if (decide (¬ (32 : Int) = 0)) = true then
  if (decide ((0 : Int) ≤ IntKind.wrap .i64 (Int.tdiv x3 32))) = true then
  Option.bind (x2[Int.toNat (IntKind.wrap .i64 (Int.tdiv x3 32))]?) fun r1 =>
  if (decide (¬ (32 : Int) = 0)) = true then
  if (decide ((0 : Int) ≤ Int.tmod x3 32)) = true then
  Option.bind (r1[Int.toNat (Int.tmod x3 32)]?) fun r2 =>
  some r2
  else none
  else none
  else none
  else none
def i_tree_keys_L1 (y : (List (Int × Int) × (Int × (Int × (List Int × List (List Int)))))) : Option ((List (Int × Int) × (Int × (Int × (List Int × List (List Int))))) ⊕ (List (Int × Int))) :=
  if (decide ((y.2.1 : Int) < 1024)) = true then
    Option.bind (i_tree_value y.2.2.1 y.2.2.2.1 y.2.2.2.2 y.2.1) fun c1 =>
    Option.bind (α := (List (Int × Int) × (Int × (Int × (List Int × List (List Int)))))) (
        if (decide (¬ (c1 : Int) = 0)) = true then
          if (roomFor (List.length y.1 + List.length ([(y.2.1, c1)] : List (Int × Int))) 16) = true then
          some (y.1 ++ ([(y.2.1, c1)] : List (Int × Int)), y.2.1, y.2.2.1, y.2.2.2.1, y.2.2.2.2)
          else none
        else
          some (y.1, y.2.1, y.2.2.1, y.2.2.2.1, y.2.2.2.2)) fun v2 =>
    some (.inl (v2.1, IntKind.wrap .i64 (v2.2.1 + 1), v2.2.2.1, v2.2.2.2.1, v2.2.2.2.2))
  else
    some (.inr y.1)
def i_tree_keys (x0 : Int) (x1 : List Int) (x2 : List (List Int)) : Option (List (Int × Int)) :=
  Option.bind (loopG i_tree_keys_L1 ([], 0, x0, x1, x2)) fun v3 =>
  some v3
def i_KeysIn (x0 : List (List Int)) (x1 : List Int) (x2 : List Int) (x3 : List Int) (x4 : Int) : Option ((List (Int × Int) × Bool)) :=
  Option.bind (i_treeOf x0 x1 x2 x3 x4) fun c1 =>
  if (!c1.1) = true then
    some ([], false)
  else
    Option.bind (i_tree_keys c1.2.1 c1.2.2.1 c1.2.2.2) fun c2 =>
    some (c2, true)
def l_sameInts_L1 (y : (List Int × (List Int × (Int × Int)))) : Option ((List Int × (List Int × (Int × Int))) ⊕ (Unit ⊕ Bool)) :=
  if (decide ((y.2.2.2 : Int) < y.2.2.1)) = true then
    if (decide ((0 : Int) ≤ y.2.2.2)) = true then
    Option.bind (y.1[Int.toNat y.2.2.2]?) fun r1 =>
    if (decide ((0 : Int) ≤ y.2.2.2)) = true then
    Option.bind (y.2.1[Int.toNat y.2.2.2]?) fun r2 =>
    if (decide (¬ (r1 : Int) = r2)) = true then
      some (.inr (.inr false))
    else
      some (.inl (y.1, y.2.1, y.2.2.1, IntKind.wrap .i64 (y.2.2.2 + 1)))
    else none
    else none
  else
    some (.inr (.inl ()))
def l_sameInts (x0 : List Int) (x1 : List Int) : Option (Bool) :=
  if (decide (¬ (((List.length x0 : Nat) : Int) : Int) = ((List.length x1 : Nat) : Int))) = true then
    some false
  else
    Option.bind (loopG l_sameInts_L1 (x0, x1, ((List.length x0 : Nat) : Int), 0)) fun v3 =>
    match v3 with
    | .inl y4 =>
      some true
    | .inr s5 =>
      some s5
def s_PagesIn_L1 (y : (List Int × (List Int × (Int × Int)))) : Option ((List Int × (List Int × (Int × Int))) ⊕ (List Int)) :=
  if (decide ((y.2.2.2 : Int) < y.2.2.1)) = true then
    if (decide ((0 : Int) ≤ y.2.2.2)) = true then
    if (decide ((y.2.2.2 : Int) < ((List.length y.2.1 : Nat) : Int))) = true then
    Option.bind (y.2.1[0 + Int.toNat y.2.2.2]?) fun r6 =>
    Option.bind (α := (List Int × (List Int × (Int × Int)))) (
        if (decide (¬ (r6 : Int) = 0)) = true then
          Option.bind (s_l5Put y.1 r6) fun c7 =>
          some (c7, y.2.1, y.2.2.1, y.2.2.2)
        else
          some (y.1, y.2.1, y.2.2.1, y.2.2.2)) fun v8 =>
    some (.inl (v8.1, v8.2.1, v8.2.2.1, IntKind.wrap .i64 (v8.2.2.2 + 1)))
    else none
    else none
  else
    some (.inr y.1)
def s_PagesIn (x0 : List (List Int)) (x1 : List Int) (x2 : List Int) (x3 : List Int) (x4 : Int) : Option ((List Int × Bool)) :=
  Option.bind (s_GoodTree x0 x1 x2 x3 x4) fun c1 =>
  if (!c1) = true then
    some ([], false)
  else
    Option.bind (s_l6Tree x0 x1 x2 x3 x4) fun c2 =>
    if (roomFor (List.length c2.2.1 + List.length ([x4] : List Int)) 8) = true then
    Option.bind (loopG s_PagesIn_L1 ([], c2.2.1 ++ ([x4] : List Int), ((List.length (c2.2.1 ++ ([x4] : List Int)) : Nat) : Int), 0)) fun v9 =>
    some (v9, true)
    else none
def i_tree_need_L1 (y : (List (Int × Int) × (Int × (Bool × (Int × (List Int × (Bool × (Int × (List (Int × Int) × (Int × (Int × (Int × (List Int × List (List Int)))))))))))))) : Option ((List (Int × Int) × (Int × (Bool × (Int × (List Int × (Bool × (Int × (List (Int × Int) × (Int × (Int × (Int × (List Int × List (List Int))))))))))))) ⊕ (List (Int × Int) × (Int × (Bool × (List Int × (Bool × (Int × (Int × (List Int × List (List Int)))))))))) :=
  if (decide ((y.2.2.2.2.2.2.2.2.2.1 : Int) < y.2.2.2.2.2.2.2.2.1)) = true then
    if (decide ((0 : Int) ≤ y.2.2.2.2.2.2.2.2.2.1)) = true then
    Option.bind (y.2.2.2.2.2.2.2.1[Int.toNat y.2.2.2.2.2.2.2.2.2.1]?) fun r3 =>
    if (decide (¬ (32 : Int) = 0)) = true then
    Option.bind (α := (List (Int × Int) × (Int × (Bool × (Int × (List Int × (Bool × (Int × (List (Int × Int) × (Int × (Int × (Int × (List Int × List (List Int)))))))))))))) (
        if (decide ((IntKind.wrap .i64 (Int.tdiv r3.1 32) : Int) = y.2.2.2.1)) = true then
          if (decide (¬ (32 : Int) = 0)) = true then
          if (decide ((0 : Int) ≤ Int.tmod r3.1 32)) = true then
          if (decide ((Int.tmod r3.1 32 : Int) < ((List.length y.2.2.2.2.1 : Nat) : Int))) = true then
          Option.bind (y.2.2.2.2.1[0 + Int.toNat (Int.tmod r3.1 32)]?) fun r4 =>
          Option.bind (y.2.2.2.2.1[0 + Int.toNat (Int.tmod r3.1 32)]?) fun r5 =>
          some (y.1, y.2.1, y.2.2.1, y.2.2.2.1, y.2.2.2.2.1.set (0 + Int.toNat (Int.tmod r3.1 32)) r3.2, true, y.2.2.2.2.2.2.1, y.2.2.2.2.2.2.2.1, y.2.2.2.2.2.2.2.2.1, y.2.2.2.2.2.2.2.2.2.1, y.2.2.2.2.2.2.2.2.2.2.1, y.2.2.2.2.2.2.2.2.2.2.2.1, y.2.2.2.2.2.2.2.2.2.2.2.2)
          else none
          else none
          else none
        else
          some (y.1, y.2.1, y.2.2.1, y.2.2.2.1, y.2.2.2.2.1, y.2.2.2.2.2.1, y.2.2.2.2.2.2.1, y.2.2.2.2.2.2.2.1, y.2.2.2.2.2.2.2.2.1, y.2.2.2.2.2.2.2.2.2.1, y.2.2.2.2.2.2.2.2.2.2.1, y.2.2.2.2.2.2.2.2.2.2.2.1, y.2.2.2.2.2.2.2.2.2.2.2.2)) fun v6 =>
    some (.inl (v6.1, v6.2.1, v6.2.2.1, v6.2.2.2.1, v6.2.2.2.2.1, v6.2.2.2.2.2.1, v6.2.2.2.2.2.2.1, v6.2.2.2.2.2.2.2.1, v6.2.2.2.2.2.2.2.2.1, IntKind.wrap .i64 (v6.2.2.2.2.2.2.2.2.2.1 + 1), v6.2.2.2.2.2.2.2.2.2.2.1, v6.2.2.2.2.2.2.2.2.2.2.2.1, v6.2.2.2.2.2.2.2.2.2.2.2.2))
    else none
    else none
  else
    some (.inr (y.1, y.2.1, y.2.2.1, y.2.2.2.2.1, y.2.2.2.2.2.1, y.2.2.2.2.2.2.1, y.2.2.2.2.2.2.2.2.2.2.1, y.2.2.2.2.2.2.2.2.2.2.2.1, y.2.2.2.2.2.2.2.2.2.2.2.2))
def i_tree_need_L2 (y : (List (Int × Int) × (Int × (Bool × (Int × (Int × (List Int × List (List Int)))))))) : Option ((List (Int × Int) × (Int × (Bool × (Int × (Int × (List Int × List (List Int))))))) ⊕ (Int × Bool)) :=
  if (decide ((y.2.2.2.1 : Int) < 32)) = true then
    if (decide ((0 : Int) ≤ y.2.2.2.1)) = true then
    Option.bind (y.2.2.2.2.2.2[Int.toNat y.2.2.2.1]?) fun r1 =>
    Option.bind (slices_Clone_int_int r1) fun c2 =>
    Option.bind (loopG i_tree_need_L1 (y.1, y.2.1, y.2.2.1, y.2.2.2.1, c2, false, y.2.2.2.1, y.1, ((List.length y.1 : Nat) : Int), 0, y.2.2.2.2.1, y.2.2.2.2.2.1, y.2.2.2.2.2.2)) fun v7 =>
    Option.bind (α := (List (Int × Int) × (Int × (Bool × (List Int × (Bool × (Int × (Int × (List Int × List (List Int)))))))))) (
        if v7.2.2.1 = true then
          some (v7.1, v7.2.1, true, v7.2.2.2.1, v7.2.2.2.2.1, v7.2.2.2.2.2.1, v7.2.2.2.2.2.2.1, v7.2.2.2.2.2.2.2.1, v7.2.2.2.2.2.2.2.2)
        else
          Option.bind (i_isEmpty v7.2.2.2.1) fun c8 =>
          some (v7.1, v7.2.1, (!c8), v7.2.2.2.1, v7.2.2.2.2.1, v7.2.2.2.2.2.1, v7.2.2.2.2.2.2.1, v7.2.2.2.2.2.2.2.1, v7.2.2.2.2.2.2.2.2)) fun v9 =>
    Option.bind (α := (List (Int × Int) × (Int × (Bool × (Int × (Bool × (Int × (List Int × List (List Int))))))))) (
        if v9.2.2.2.2.1 = true then
          Option.bind (i_isEmpty v9.2.2.2.1) fun c10 =>
          some (v9.1, v9.2.1, v9.2.2.1, v9.2.2.2.2.2.1, (!c10), v9.2.2.2.2.2.2.1, v9.2.2.2.2.2.2.2.1, v9.2.2.2.2.2.2.2.2)
        else
        some (v9.1, v9.2.1, v9.2.2.1, v9.2.2.2.2.2.1, false, v9.2.2.2.2.2.2.1, v9.2.2.2.2.2.2.2.1, v9.2.2.2.2.2.2.2.2)) fun v11 =>
    Option.bind (α := (List (Int × Int) × (Int × (Bool × (Int × (Int × (List Int × List (List Int)))))))) (
        if v11.2.2.2.2.1 = true then
          some (v11.1, IntKind.wrap .i64 (v11.2.1 + 1), v11.2.2.1, v11.2.2.2.1, v11.2.2.2.2.2.1, v11.2.2.2.2.2.2.1, v11.2.2.2.2.2.2.2)
        else
          some (v11.1, v11.2.1, v11.2.2.1, v11.2.2.2.1, v11.2.2.2.2.2.1, v11.2.2.2.2.2.2.1, v11.2.2.2.2.2.2.2)) fun v12 =>
    some (.inl (v12.1, v12.2.1, v12.2.2.1, IntKind.wrap .i64 (v12.2.2.2.1 + 1), v12.2.2.2.2.1, v12.2.2.2.2.2.1, v12.2.2.2.2.2.2))
    else none
  else
    some (.inr (y.2.1, y.2.2.1))
def i_tree_need (x0 : Int) (x1 : List Int) (x2 : List (List Int)) (x3 : List (Int × Int)) : Option (Int) :=
  if (decide ((((List.length x3 : Nat) : Int) : Int) = 0)) = true then
    some 0
  else
    Option.bind (loopG i_tree_need_L2 (x3, 0, false, 0, x0, x1, x2)) fun v13 =>
    Option.bind (α := Int) (
        if v13.2 = true then
          some (IntKind.wrap .i64 (v13.1 + 1))
        else
          some v13.1) fun v14 =>
    some v14
def i_NeedForKeys (x0 : List (List Int)) (x1 : List Int) (x2 : List Int) (x3 : List Int) (x4 : Int) (x5 : List (Int × Int)) : Option ((Int × Bool)) :=
  Option.bind (i_treeOf x0 x1 x2 x3 x4) fun c1 =>
  Option.bind (α := (List (Int × Int) × (Bool × (Int × (List Int × List (List Int)))))) (
      if (!c1.1) = true then
        some (x5, true, c1.2.1, c1.2.2.1, c1.2.2.2)
      else
        Option.bind (i_Space_areSets_ffff x5 x0 x1 x2 x3) fun c2 =>
        some (x5, (!c2.1), c1.2.1, c1.2.2.1, c1.2.2.2)) fun v3 =>
  if v3.2.1 = true then
    some (0, false)
  else
    Option.bind (i_tree_need v3.2.2.1 v3.2.2.2.1 v3.2.2.2.2 v3.1) fun c4 =>
    some (c4, true)
def i_FreeIn_L1 (y : (Int × (Int × (Int × (List (List Int) × (List Int × (List Int × List Int))))))) : Option ((Int × (Int × (Int × (List (List Int) × (List Int × (List Int × List Int)))))) ⊕ Int) :=
  if (decide ((y.2.2.1 : Int) < y.2.1)) = true then
    Option.bind (i_Space_used_ffff y.2.2.1 y.2.2.2.1 y.2.2.2.2.1 y.2.2.2.2.2.1 y.2.2.2.2.2.2) fun c2 =>
    Option.bind (α := (Int × (Int × (Int × (List (List Int) × (List Int × (List Int × List Int))))))) (
        if (!c2.1) = true then
          some (IntKind.wrap .i64 (y.1 + 1), y.2.1, y.2.2.1, c2.2.1, c2.2.2.1, c2.2.2.2.1, c2.2.2.2.2)
        else
          some (y.1, y.2.1, y.2.2.1, c2.2.1, c2.2.2.1, c2.2.2.2.1, c2.2.2.2.2)) fun v3 =>
    some (.inl (v3.1, v3.2.1, IntKind.wrap .i64 (v3.2.2.1 + 1), v3.2.2.2.1, v3.2.2.2.2.1, v3.2.2.2.2.2.1, v3.2.2.2.2.2.2))
  else
    some (.inr y.1)
def i_FreeIn (x0 : List (List Int)) (x1 : List Int) (x2 : List Int) (x3 : List Int) : Option ((Int × Bool)) :=
  Option.bind (i_GoodSpace x0 x1 x2 x3) fun c1 =>
  if (!c1) = true then
    some (0, false)
  else
    Option.bind (loopG i_FreeIn_L1 (0, ((List.length x0 : Nat) : Int), 0, x0, x1, x2, x3)) fun v4 =>
    some (v4, true)
def l_FnTrees_L1 (y : (Int × (List (Int × Int) × (List (Int × Int) × (List Int × (List (Int × Int) × (Int × (Int × (List (List Int) × (List Int × (List Int × (List Int × (List (List Int) × (List Int × (List Int × List Int))))))))))))))) : Option ((Int × (List (Int × Int) × (List (Int × Int) × (List Int × (List (Int × Int) × (Int × (Int × (List (List Int) × (List Int × (List Int × (List Int × (List (List Int) × (List Int × (List Int × List Int)))))))))))))) ⊕ (Int × (List (Int × Int) × (List (Int × Int) × (List Int × (List (List Int) × (List Int × (List Int × (List Int × (List (List Int) × (List Int × (List Int × List Int)))))))))))) :=
  if (decide ((y.2.2.2.2.2.2.1 : Int) < y.2.2.2.2.2.1)) = true then
    if (decide ((0 : Int) ≤ y.2.2.2.2.2.2.1)) = true then
    if (decide ((y.2.2.2.2.2.2.1 : Int) < ((List.length y.2.2.2.2.1 : Nat) : Int))) = true then
    Option.bind (y.2.2.2.2.1[0 + Int.toNat y.2.2.2.2.2.2.1]?) fun r6 =>
    Option.bind (y.2.2.2.2.1[0 + Int.toNat y.2.2.2.2.2.2.1]?) fun r7 =>
    if (decide ((0 : Int) ≤ r6.1)) = true then
    if (decide ((r6.1 : Int) < ((List.length y.2.2.2.1 : Nat) : Int))) = true then
    Option.bind (y.2.2.2.1[0 + Int.toNat r6.1]?) fun r8 =>
    Option.bind (y.2.2.2.1[0 + Int.toNat r6.1]?) fun r9 =>
    some (.inl (y.1, y.2.1, y.2.2.1, y.2.2.2.1.set (0 + Int.toNat r6.1) r7.2, y.2.2.2.2.1, y.2.2.2.2.2.1, IntKind.wrap .i64 (y.2.2.2.2.2.2.1 + 1), y.2.2.2.2.2.2.2.1, y.2.2.2.2.2.2.2.2.1, y.2.2.2.2.2.2.2.2.2.1, y.2.2.2.2.2.2.2.2.2.2.1, y.2.2.2.2.2.2.2.2.2.2.2.1, y.2.2.2.2.2.2.2.2.2.2.2.2.1, y.2.2.2.2.2.2.2.2.2.2.2.2.2.1, y.2.2.2.2.2.2.2.2.2.2.2.2.2.2))
    else none
    else none
    else none
    else none
  else
    some (.inr (y.1, y.2.1, y.2.2.1, y.2.2.2.1, y.2.2.2.2.2.2.2.1, y.2.2.2.2.2.2.2.2.1, y.2.2.2.2.2.2.2.2.2.1, y.2.2.2.2.2.2.2.2.2.2.1, y.2.2.2.2.2.2.2.2.2.2.2.1, y.2.2.2.2.2.2.2.2.2.2.2.2.1, y.2.2.2.2.2.2.2.2.2.2.2.2.2.1, y.2.2.2.2.2.2.2.2.2.2.2.2.2.2))
def l_FnTrees_L2 (y : (Int × (List (Int × Int) × (List (Int × Int) × (List Int × (Int × (Int × (List (List Int) × (List Int × (List Int × (List Int × (List (List Int) × (List Int × (List Int × List Int)))))))))))))) : Option ((Int × (List (Int × Int) × (List (Int × Int) × (List Int × (Int × (Int × (List (List Int) × (List Int × (List Int × (List Int × (List (List Int) × (List Int × (List Int × List Int))))))))))))) ⊕ (Int × (List (Int × Int) × (List (Int × Int) × (List Int × (List (List Int) × (List Int × (List Int × (List Int × (List (List Int) × (List Int × (List Int × List Int)))))))))))) :=
  if (decide ((y.2.2.2.2.2.1 : Int) < y.2.2.2.2.1)) = true then
    if (decide ((0 : Int) ≤ y.2.2.2.2.2.1)) = true then
    if (decide ((y.2.2.2.2.2.1 : Int) < ((List.length y.2.1 : Nat) : Int))) = true then
    Option.bind (y.2.1[0 + Int.toNat y.2.2.2.2.2.1]?) fun r11 =>
    Option.bind (y.2.1[0 + Int.toNat y.2.2.2.2.2.1]?) fun r12 =>
    if (decide ((0 : Int) ≤ r11.1)) = true then
    if (decide ((r11.1 : Int) < ((List.length y.2.2.2.1 : Nat) : Int))) = true then
    Option.bind (y.2.2.2.1[0 + Int.toNat r11.1]?) fun r13 =>
    Option.bind (y.2.2.2.1[0 + Int.toNat r11.1]?) fun r14 =>
    some (.inl (y.1, y.2.1, y.2.2.1, y.2.2.2.1.set (0 + Int.toNat r11.1) r12.2, y.2.2.2.2.1, IntKind.wrap .i64 (y.2.2.2.2.2.1 + 1), y.2.2.2.2.2.2.1, y.2.2.2.2.2.2.2.1, y.2.2.2.2.2.2.2.2.1, y.2.2.2.2.2.2.2.2.2.1, y.2.2.2.2.2.2.2.2.2.2.1, y.2.2.2.2.2.2.2.2.2.2.2.1, y.2.2.2.2.2.2.2.2.2.2.2.2.1, y.2.2.2.2.2.2.2.2.2.2.2.2.2))
    else none
    else none
    else none
    else none
  else
    some (.inr (y.1, y.2.1, y.2.2.1, y.2.2.2.1, y.2.2.2.2.2.2.1, y.2.2.2.2.2.2.2.1, y.2.2.2.2.2.2.2.2.1, y.2.2.2.2.2.2.2.2.2.1, y.2.2.2.2.2.2.2.2.2.2.1, y.2.2.2.2.2.2.2.2.2.2.2.1, y.2.2.2.2.2.2.2.2.2.2.2.2.1, y.2.2.2.2.2.2.2.2.2.2.2.2.2))
def l_FnTrees_L3 (y : (Int × (List (Int × Int) × (List Int × (List Int × (List (Int × Int) × (Int × (Int × (List (List Int) × (List Int × (List Int × (List Int × (List (List Int) × (List Int × (List Int × List Int))))))))))))))) : Option ((Int × (List (Int × Int) × (List Int × (List Int × (List (Int × Int) × (Int × (Int × (List (List Int) × (List Int × (List Int × (List Int × (List (List Int) × (List Int × (List Int × List Int)))))))))))))) ⊕ (Int × (List (Int × Int) × (List Int × (List Int × (List (List Int) × (List Int × (List Int × (List Int × (List (List Int) × (List Int × (List Int × List Int)))))))))))) :=
  if (decide ((y.2.2.2.2.2.2.1 : Int) < y.2.2.2.2.2.1)) = true then
    if (decide ((0 : Int) ≤ y.2.2.2.2.2.2.1)) = true then
    if (decide ((y.2.2.2.2.2.2.1 : Int) < ((List.length y.2.2.2.2.1 : Nat) : Int))) = true then
    Option.bind (y.2.2.2.2.1[0 + Int.toNat y.2.2.2.2.2.2.1]?) fun r16 =>
    Option.bind (y.2.2.2.2.1[0 + Int.toNat y.2.2.2.2.2.2.1]?) fun r17 =>
    if (decide ((0 : Int) ≤ r16.1)) = true then
    if (decide ((r16.1 : Int) < ((List.length y.2.2.2.1 : Nat) : Int))) = true then
    Option.bind (y.2.2.2.1[0 + Int.toNat r16.1]?) fun r18 =>
    Option.bind (y.2.2.2.1[0 + Int.toNat r16.1]?) fun r19 =>
    some (.inl (y.1, y.2.1, y.2.2.1, y.2.2.2.1.set (0 + Int.toNat r16.1) r17.2, y.2.2.2.2.1, y.2.2.2.2.2.1, IntKind.wrap .i64 (y.2.2.2.2.2.2.1 + 1), y.2.2.2.2.2.2.2.1, y.2.2.2.2.2.2.2.2.1, y.2.2.2.2.2.2.2.2.2.1, y.2.2.2.2.2.2.2.2.2.2.1, y.2.2.2.2.2.2.2.2.2.2.2.1, y.2.2.2.2.2.2.2.2.2.2.2.2.1, y.2.2.2.2.2.2.2.2.2.2.2.2.2.1, y.2.2.2.2.2.2.2.2.2.2.2.2.2.2))
    else none
    else none
    else none
    else none
  else
    some (.inr (y.1, y.2.1, y.2.2.1, y.2.2.2.1, y.2.2.2.2.2.2.2.1, y.2.2.2.2.2.2.2.2.1, y.2.2.2.2.2.2.2.2.2.1, y.2.2.2.2.2.2.2.2.2.2.1, y.2.2.2.2.2.2.2.2.2.2.2.1, y.2.2.2.2.2.2.2.2.2.2.2.2.1, y.2.2.2.2.2.2.2.2.2.2.2.2.2.1, y.2.2.2.2.2.2.2.2.2.2.2.2.2.2))
def l_FnTrees_L4 (y : (Int × (List (Int × Int) × (List Int × (Int × (Int × (List (List Int) × (List Int × (List Int × (List Int × (List (List Int) × (List Int × (List Int × List Int))))))))))))) : Option ((Int × (List (Int × Int) × (List Int × (Int × (Int × (List (List Int) × (List Int × (List Int × (List Int × (List (List Int) × (List Int × (List Int × List Int)))))))))))) ⊕ ((Int × (List (Int × Int) × (List (List Int) × (List Int × (List Int × (List Int × (List (List Int) × (List Int × (List Int × List Int))))))))) ⊕ Bool)) :=
  if (decide ((y.2.2.2.2.1 : Int) < y.2.2.2.1)) = true then
    if (decide ((0 : Int) ≤ y.2.2.2.2.1)) = true then
    if (decide ((y.2.2.2.2.1 : Int) < ((List.length y.2.2.1 : Nat) : Int))) = true then
    Option.bind (y.2.2.1[0 + Int.toNat y.2.2.2.2.1]?) fun r23 =>
    if (decide ((0 : Int) ≤ r23)) = true then
    if (decide ((r23 : Int) < ((List.length y.2.2.2.2.2.1 : Nat) : Int))) = true then
    Option.bind (y.2.2.2.2.2.1[0 + Int.toNat r23]?) fun r24 =>
    Option.bind (y.2.2.2.2.2.1[0 + Int.toNat r23]?) fun r25 =>
    if (decide ((0 : Int) ≤ r23)) = true then
    if (decide ((r23 : Int) < ((List.length y.2.2.2.2.2.2.2.2.2.1 : Nat) : Int))) = true then
    Option.bind (y.2.2.2.2.2.2.2.2.2.1[0 + Int.toNat r23]?) fun r26 =>
    Option.bind (y.2.2.2.2.2.2.2.2.2.1[0 + Int.toNat r23]?) fun r27 =>
    if (!((textOf r25 : List UInt8) == (textOf r27))) = true then
      some (.inr (.inr false))
    else
      some (.inl (y.1, y.2.1, y.2.2.1, y.2.2.2.1, IntKind.wrap .i64 (y.2.2.2.2.1 + 1), y.2.2.2.2.2.1, y.2.2.2.2.2.2.1, y.2.2.2.2.2.2.2.1, y.2.2.2.2.2.2.2.2.1, y.2.2.2.2.2.2.2.2.2.1, y.2.2.2.2.2.2.2.2.2.2.1, y.2.2.2.2.2.2.2.2.2.2.2.1, y.2.2.2.2.2.2.2.2.2.2.2.2))
    else none
    else none
    else none
    else none
    else none
    else none
  else
    some (.inr (.inl (y.1, y.2.1, y.2.2.2.2.2.1, y.2.2.2.2.2.2.1, y.2.2.2.2.2.2.2.1, y.2.2.2.2.2.2.2.2.1, y.2.2.2.2.2.2.2.2.2.1, y.2.2.2.2.2.2.2.2.2.2.1, y.2.2.2.2.2.2.2.2.2.2.2.1, y.2.2.2.2.2.2.2.2.2.2.2.2)))
def l_FnTrees (x0 : List Int) : Option (Bool) :=
  if (decide ((1048576 : Int) < ((List.length x0 : Nat) : Int))) = true then
    some true
  else
    Option.bind (s_DrawSetKeys x0) fun c1 =>
    Option.bind (i_SetKeys c1.2.2.1 c1.2.2.2.1 c1.2.2.2.2.1 c1.2.2.2.2.2 c1.1 c1.2.1) fun c2 =>
    Option.bind (s_SetKeys c1.2.2.1 c1.2.2.2.1 c1.2.2.2.2.1 c1.2.2.2.2.2 c1.1 c1.2.1) fun c3 =>
    if (c2.2.1 != c3.2.1) = true then
      some false
    else
    if (!c2.2.1) = true then
      some (decide ((c2.1 : Int) = 0))
    else
      Option.bind (s_KeysIn c1.2.2.1 c1.2.2.2.1 c1.2.2.2.2.1 c1.2.2.2.2.2 c1.1) fun c4 =>
      Option.bind (i_KeysIn c2.2.2.1 c2.2.2.2.1 c2.2.2.2.2.1 c2.2.2.2.2.2 c2.1) fun c5 =>
      if (!c5.2) = true then
        some false
      else
      if (decide ((0 : Int) ≤ 1024)) = true then
      if (decide ((1024 : Int) ≤ 1024)) = true then
      if (roomFor (Int.toNat 1024) 8) = true then
      Option.bind (loopG l_FnTrees_L1 (c1.1, c1.2.1, c5.1, List.replicate (Int.toNat 1024) (0 : Int), c4.1, ((List.length c4.1 : Nat) : Int), 0, c1.2.2.1, c1.2.2.2.1, c1.2.2.2.2.1, c1.2.2.2.2.2, c2.2.2.1, c2.2.2.2.1, c2.2.2.2.2.1, c2.2.2.2.2.2)) fun v10 =>
      Option.bind (loopG l_FnTrees_L2 (v10.1, v10.2.1, v10.2.2.1, v10.2.2.2.1, ((List.length v10.2.1 : Nat) : Int), 0, v10.2.2.2.2.1, v10.2.2.2.2.2.1, v10.2.2.2.2.2.2.1, v10.2.2.2.2.2.2.2.1, v10.2.2.2.2.2.2.2.2.1, v10.2.2.2.2.2.2.2.2.2.1, v10.2.2.2.2.2.2.2.2.2.2.1, v10.2.2.2.2.2.2.2.2.2.2.2)) fun v15 =>
      if (decide ((0 : Int) ≤ 1024)) = true then
      if (decide ((1024 : Int) ≤ 1024)) = true then
      if (roomFor (Int.toNat 1024) 8) = true then
      Option.bind (loopG l_FnTrees_L3 (v15.1, v15.2.1, v15.2.2.2.1, List.replicate (Int.toNat 1024) (0 : Int), v15.2.2.1, ((List.length v15.2.2.1 : Nat) : Int), 0, v15.2.2.2.2.1, v15.2.2.2.2.2.1, v15.2.2.2.2.2.2.1, v15.2.2.2.2.2.2.2.1, v15.2.2.2.2.2.2.2.2.1, v15.2.2.2.2.2.2.2.2.2.1, v15.2.2.2.2.2.2.2.2.2.2.1, v15.2.2.2.2.2.2.2.2.2.2.2)) fun v20 =>
      Option.bind (l_sameInts v20.2.2.1 v20.2.2.2.1) fun c21 =>
      if (!c21) = true then
        some false
      else
        Option.bind (s_PagesIn v20.2.2.2.2.1 v20.2.2.2.2.2.1 v20.2.2.2.2.2.2.1 v20.2.2.2.2.2.2.2.1 v20.1) fun c22 =>
        Option.bind (loopG l_FnTrees_L4 (v20.1, v20.2.1, c22.1, ((List.length c22.1 : Nat) : Int), 0, v20.2.2.2.2.1, v20.2.2.2.2.2.1, v20.2.2.2.2.2.2.1, v20.2.2.2.2.2.2.2.1, v20.2.2.2.2.2.2.2.2.1, v20.2.2.2.2.2.2.2.2.2.1, v20.2.2.2.2.2.2.2.2.2.2.1, v20.2.2.2.2.2.2.2.2.2.2.2)) fun v28 =>
        match v28 with
        | .inl y29 =>
          Option.bind (i_NeedForKeys y29.2.2.1 y29.2.2.2.1 y29.2.2.2.2.1 y29.2.2.2.2.2.1 y29.1 y29.2.1) fun c31 =>
          Option.bind (i_FreeIn y29.2.2.1 y29.2.2.2.1 y29.2.2.2.2.1 y29.2.2.2.2.2.1) fun c32 =>
          Option.bind (i_FreeIn y29.2.2.2.2.2.2.1 y29.2.2.2.2.2.2.2.1 y29.2.2.2.2.2.2.2.2.1 y29.2.2.2.2.2.2.2.2.2) fun c33 =>
          Option.bind (α := Bool) (
              if c31.2 = true then
                some (decide ((IntKind.wrap .i64 (c32.1 - c33.1) : Int) = c31.1))
              else
              some false) fun v34 =>
          some v34
        | .inr s30 =>
          some s30
      else none
      else none
      else none
      else none
      else none
      else none
end
end Go.V.G

set_option linter.unusedVariables false
set_option linter.unusedSimpArgs false
namespace Go.V.G
open Go.V
theorem w64 {n : Int} (h1 : -9223372036854775808 ≤ n) (h2 : n ≤ 9223372036854775807) : IntKind.wrap .i64 n = n := IntWalk.i64_in n ⟨h1, h2⟩
theorem wu64 {n : Int} (h1 : 0 ≤ n) (h2 : n ≤ 18446744073709551615) : IntKind.wrap .u64 n = n := IntWalk.u64_in n ⟨h1, h2⟩
section
variable {σ τ : Type}
theorem loop_run (f : σ → Option (σ ⊕ τ)) (st : Nat → σ) (n : Nat) (z : τ) (h : ∀ k, k < n → f (st k) = some (.inl (st (k + 1)))) (hz : f (st n) = some (.inr z)) : loopG f (st 0) = some z := by
  have : ∀ j, j ≤ n → loopG f (st (n - j)) = some z := by
    intro j
    induction j with
    | zero => intro _; rw [loopG_eq, Nat.sub_zero, hz]
    | succ j ih =>
      intro hj
      rw [loopG_eq, h _ (by omega), show n - (j + 1) + 1 = n - j by omega]
      exact ih (by omega)
  have := this n (Nat.le_refl _)
  rwa [Nat.sub_self] at this
theorem loop_inv (f : σ → Option (σ ⊕ τ)) (I : σ → Prop) (m : σ → Nat) (Q : τ → Prop) (step : ∀ x, I x → (∃ y, f x = some (.inl y) ∧ I y ∧ m y < m x) ∨ ∃ z, f x = some (.inr z) ∧ Q z) :
    ∀ x, I x → ∃ z, loopG f x = some z ∧ Q z := by
  intro x
  induction hm : m x using Nat.strongRecOn generalizing x with
  | ind k ih =>
    intro hx
    rcases step x hx with ⟨y, h1, h2, h3⟩ | ⟨z, h1, h2⟩
    · obtain ⟨z, h4, h5⟩ := ih (m y) (by omega) y rfl h2
      exact ⟨z, by rw [loopG_eq, h1]; exact h4, h5⟩
    · exact ⟨z, by rw [loopG_eq, h1], h2⟩
end
end Go.V.G

set_option linter.unusedVariables false
set_option linter.unusedSimpArgs false
set_option maxRecDepth 100000
namespace Go.V.G
open Go.V
def Ok {α : Type} (o : Option α) (Q : α → Prop) : Prop := ∃ r, o = some r ∧ Q r
section
variable {α β σ τ : Type} {Q : α → Prop}
theorem Ok.mk {r : α} (h : Q r) : Ok (some r) Q := ⟨r, rfl, h⟩
theorem Ok.of {o : Option α} {r : α} (h : o = some r) (hq : Q r) : Ok o Q := ⟨r, h, hq⟩
theorem Ok.eq {o : Option α} {r : α} (h : Ok o fun x => x = r) : o = some r := by obtain ⟨x, h, rfl⟩ := h; exact h
theorem Ok.mono {o : Option α} {R : α → Prop} (h : Ok o Q) (hq : ∀ x, Q x → R x) : Ok o R := by obtain ⟨x, h, h'⟩ := h; exact ⟨x, h, hq x h'⟩
theorem Ok.bind {o : Option α} {f : α → Option β} {R : β → Prop} (h : Ok o Q) (hf : ∀ x, Q x → Ok (f x) R) : Ok (o.bind f) R := by
  obtain ⟨x, h, hx⟩ := h
  subst h
  exact hf x hx
theorem Ok.bind_eq {o : Option α} {f : α → Option β} {R : β → Prop} {r : α} (h : o = some r) (hf : Ok (f r) R) : Ok (o.bind f) R := by subst h; exact hf
theorem Ok.ite {c : Prop} [Decidable c] {a b : Option α} (h1 : c → Ok a Q) (h2 : ¬ c → Ok b Q) : Ok (if c then a else b) Q := by
  split
  · rename_i h; exact h1 h
  · rename_i h; exact h2 h
theorem Ok.yes {c : Prop} [Decidable c] {a b : Option α} (hc : c) (h : Ok a Q) : Ok (if c then a else b) Q := by rw [if_pos hc]; exact h
theorem Ok.no {c : Prop} [Decidable c] {a b : Option α} (hc : ¬ c) (h : Ok b Q) : Ok (if c then a else b) Q := by rw [if_neg hc]; exact h
theorem Ok.loop {f : σ → Option (σ ⊕ τ)} (I : σ → Prop) (m : σ → Nat) {R : τ → Prop} {x : σ} (hx : I x) (step : ∀ x, I x → Ok (f x) fun r => match r with
    | .inl y => I y ∧ m y < m x
    | .inr z => R z) : Ok (loopG f x) R := by
  obtain ⟨z, h1, h2⟩ := loop_inv f I m R (fun x hx => by
    obtain ⟨r, h1, h2⟩ := step x hx
    cases r with
    | inl y => exact .inl ⟨y, h1, h2⟩
    | inr z => exact .inr ⟨z, h1, h2⟩) x hx
  exact ⟨z, h1, h2⟩
end
abbrev Prt := Int × (Int × List UInt8)
def kd (p : Prt) : Int := if 0 < p.1 ∧ p.2.1 = 0 ∧ p.2.2 = [] then 1 else if 0 < p.2.1 ∧ p.1 = 0 ∧ p.2.2 = [] then 2 else if p.2.2 ≠ [] ∧ p.1 = 0 ∧ p.2.1 = 0 then 3 else 0
def I64 (n : Int) : Prop := -9223372036854775808 ≤ n ∧ n ≤ 9223372036854775807
theorem I64.wrap (n : Int) : I64 (IntKind.wrap .i64 n) := by rw [IntKind.wrap_i64]; unfold I64; omega
theorem I64.eq {n : Int} (h : I64 n) : IntKind.wrap .i64 n = n := w64 h.1 h.2
def psum : List Prt → Nat
  | [] => 0
  | p :: l => p.2.2.length + psum l
theorem psum_append : ∀ a b : List Prt, psum (a ++ b) = psum a + psum b
  | [], b => by simp [psum]
  | p :: a, b => by simp only [List.cons_append, psum, psum_append a b]; omega
structure Sm (B : Nat) (l : List Prt) : Prop where
  len : l.length ≤ B
  put : psum l ≤ B
  fit : ∀ p ∈ l, I64 p.1 ∧ I64 p.2.1
theorem Sm.mono {B C : Nat} {l : List Prt} (h : Sm B l) (hc : B ≤ C) : Sm C l := ⟨Nat.le_trans h.len hc, Nat.le_trans h.put hc, h.fit⟩
theorem Sm.nil (B : Nat) : Sm B [] := ⟨Nat.zero_le _, Nat.zero_le _, fun _ h => by cases h⟩
def Bytes (code : List Int) : Prop := ∀ x ∈ code, 0 ≤ x ∧ x ≤ 255
structure At (code : List Int) (k : Int) (a : Int) : Prop where
  b : Bytes code
  lo : 0 ≤ a
  hi : a + k ≤ 4611686018427387904
theorem At.less {code : List Int} {k j a : Int} (h : At code k a) (hj : j ≤ k) : At code j a := ⟨h.b, h.lo, by have := h.hi; omega⟩
structure To (code : List Int) (a k : Int) (code' : List Int) (a' : Int) : Prop where
  c : code' = code
  lo : a ≤ a'
  hi : a' ≤ a + k
theorem To.at {code code' : List Int} {a k a' j : Int} (t : To code a k code' a') (h : At code (k + j) a) : At code' j a' := by
  obtain ⟨rfl, h1, h2⟩ := t
  exact ⟨h.b, by have := h.lo; omega, by have := h.hi; omega⟩
theorem To.trans {c c1 c2 : List Int} {a k a1 j a2 : Int} (t : To c a k c1 a1) (u : To c1 a1 j c2 a2) : To c a (k + j) c2 a2 := by
  obtain ⟨rfl, h1, h2⟩ := t
  obtain ⟨rfl, h3, h4⟩ := u
  exact ⟨rfl, by omega, by omega⟩
theorem To.refl (c : List Int) (a : Int) : To c a 0 c a := ⟨rfl, Int.le_refl _, by omega⟩
theorem To.more {c c1 : List Int} {a k a1 j : Int} (t : To c a k c1 a1) (h : k ≤ j) : To c a j c1 a1 := ⟨t.c, t.lo, by have := t.hi; omega⟩
theorem and255 (x : Int) : 0 ≤ (((BitVec.ofInt (IntKind.bits .u64) x &&& BitVec.ofInt (IntKind.bits .u64) 255).toNat : Nat) : Int) ∧ (((BitVec.ofInt (IntKind.bits .u64) x &&& BitVec.ofInt (IntKind.bits .u64) 255).toNat : Nat) : Int) ≤ 255 := by
  refine ⟨by omega, ?_⟩
  have h : (BitVec.ofInt (IntKind.bits .u64) x &&& BitVec.ofInt (IntKind.bits .u64) 255).toNat ≤ 255 := by
    rw [BitVec.toNat_and]
    exact Nat.le_trans Nat.and_le_right (by simp [IntKind.bits])
  omega
theorem next_ok {code : List Int} {a s : Int} (h : At code 1 a) : Ok (s_l1Cur_next_f code a s) fun r => (0 ≤ r.1 ∧ r.1 ≤ 255) ∧ To code a 1 r.2.1 r.2.2.1 := by
  unfold s_l1Cur_next_f
  refine Ok.bind (Q := fun v => (0 ≤ v.1 ∧ v.1 ≤ 255) ∧ v.2.1 = code ∧ v.2.2.1 = a) ?_ ?_
  · refine Ok.ite (fun hc => ?_) (fun _ => Ok.mk ⟨by simp, rfl, rfl⟩)
    have hlo := h.lo
    simp only [decide_eq_true_eq] at hc
    refine Ok.yes (by simpa using hlo) ?_
    have hi : a.toNat < code.length := by omega
    rw [List.getElem?_eq_getElem hi]
    have hb := h.b _ (List.getElem_mem hi)
    refine Ok.mk ⟨?_, rfl, rfl⟩
    simp only
    rw [w64 (by omega) (by omega)]; exact hb
  · rintro ⟨b, c, a', s'⟩ ⟨hb, e1, e2⟩
    dsimp only at hb e1 e2
    subst e1 e2
    have h1 := h.lo
    have h2 := h.hi
    have e : IntKind.wrap .i64 (a' + 1) = a' + 1 := w64 (by omega) (by omega)
    simp only [e]
    refine Ok.ite (fun _ => Ok.mk ⟨hb, ⟨rfl, by simp only; omega, by simp only; omega⟩⟩) fun _ => ?_
    refine Ok.yes (by simp) (Ok.mk ⟨?_, ⟨rfl, by simp only; omega, by simp only; omega⟩⟩)
    simp only
    have := and255 (Int.fdiv (IntKind.wrap .u64 ((IntKind.wrap .u64 ((IntKind.wrap .u64 (s' * 6364136223846793005)) + (IntKind.wrap .u64 b))) + 1442695040888963407)) (2 ^ (min (Int.toNat 40) (IntKind.bits .u64))))
    rw [wu64 this.1 (by omega), w64 (by omega) (by omega)]
    exact this
theorem tmod_lt {x n : Int} (hx : 0 ≤ x) (hn : 1 < n) : 0 ≤ Int.tmod x n ∧ Int.tmod x n < n := by
  rw [Int.tmod_eq_emod_of_nonneg hx]
  exact ⟨Int.emod_nonneg _ (by omega), Int.emod_lt_of_pos _ (by omega)⟩
theorem pick_ok {code : List Int} {a s n : Int} (h : At code 2 a) : Ok (s_l1Cur_pick_f n code a s) fun r => (0 ≤ r.1 ∧ (r.1 < n ∨ r.1 = 0)) ∧ To code a 2 r.2.1 r.2.2.1 := by
  unfold s_l1Cur_pick_f
  refine Ok.ite (fun hc => Ok.mk ⟨by simp, (To.refl _ _).more (by omega)⟩) fun hc => ?_
  have hn : 1 < n := by simp at hc; omega
  refine (next_ok (h.less (by omega))).bind ?_
  rintro ⟨b, c1, a1, s1⟩ ⟨hb, t1⟩
  refine Ok.bind (Q := fun v => v.1 = n ∧ 0 ≤ v.2.1 ∧ To code a 2 v.2.2.1 v.2.2.2.1) ?_ ?_
  · refine Ok.ite (fun _ => ?_) (fun _ => Ok.mk ⟨rfl, hb.1, t1.more (by omega)⟩)
    refine (next_ok (t1.at h)).bind ?_
    rintro ⟨b2, c2, a2, s2⟩ ⟨hb2, t2⟩
    refine Ok.mk ⟨rfl, ?_, t1.trans t2⟩
    simp only at hb hb2 ⊢
    rw [w64 (n := b * 256) (by omega) (by omega), w64 (by omega) (by omega)]
    omega
  · rintro ⟨n', x, c, a', s'⟩ ⟨rfl, hx, t⟩
    have := tmod_lt hx hn
    refine Ok.yes (by simp; omega) (Ok.mk ⟨⟨this.1, .inl this.2⟩, t⟩)
theorem one_ok {code : List Int} {a s n : Int} (h : At code 2 a) : Ok (s_l1Cur_one_f n code a s) fun r => To code a 2 r.2.1 r.2.2.1 := by
  unfold s_l1Cur_one_f
  exact (pick_ok h).bind fun r hr => Ok.mk hr.2
theorem among_ok {code : List Int} {a s : Int} {l : List Int} (h : At code 2 a) (hl : l ≠ []) : Ok (s_l1Cur_among_f l code a s) fun r => r.1 ∈ l ∧ To code a 2 r.2.1 r.2.2.1 := by
  unfold s_l1Cur_among_f
  refine (pick_ok h).bind ?_
  rintro ⟨i, c, a', s'⟩ ⟨⟨h1, h2⟩, t⟩
  have hp : 0 < l.length := List.length_pos_iff.2 hl
  simp only at h1 h2
  have hi : i.toNat < l.length := by omega
  refine Ok.yes (by simpa using h1) (Ok.yes (by simp; omega) ?_)
  rw [Nat.zero_add, List.getElem?_eq_getElem hi]
  exact Ok.mk ⟨List.getElem_mem hi, t⟩
end Go.V.G

set_option linter.unusedVariables false
set_option linter.unusedSimpArgs false
set_option maxRecDepth 100000
namespace Go.V.G
open Go.V
theorem Sm.snoc {B C : Nat} {l : List Prt} {p : Prt} (h : Sm B l) (hp : I64 p.1 ∧ I64 p.2.1) (hl : B + 1 ≤ C) (hc : B + p.2.2.length ≤ C) : Sm C (l ++ [p]) :=
  ⟨by have := h.len; simp; omega, by rw [psum_append]; simp only [psum]; have := h.put; omega, fun q hq => by
    rcases List.mem_append.1 hq with hq | hq
    · exact h.fit q hq
    · rw [List.mem_singleton.1 hq]; exact hp⟩
end Go.V.G

set_option linter.unusedVariables false
set_option linter.unusedSimpArgs false
set_option maxRecDepth 100000
namespace Go.V.G
open Go.V
def src : List Prt → Int
  | [] => 0
  | p :: l => p.1 + p.2.1 + src l
structure Some1 (p : Prt) : Prop where
  k : 0 ≤ p.1
  d : 0 ≤ p.2.1
  ne : kd p ≠ 0
def before (l : List Prt) (i : Nat) : Int := if i = 0 then 0 else match l[i - 1]? with
  | some p => kd p
  | none => 0
end Go.V.G

set_option linter.unusedVariables false
set_option linter.unusedSimpArgs false
set_option maxRecDepth 100000
namespace Go.V.G
open Go.V
theorem s_In_eq (n lo hi : Int) : s_l1In n lo hi = some (decide (lo ≤ n ∧ n ≤ hi)) := by
  unfold s_l1In
  by_cases h1 : lo ≤ n <;> simp [h1]
theorem i_within_eq (n lo hi : Int) : i_within n lo hi = some (decide (lo ≤ n ∧ n ≤ hi)) := by
  unfold i_within
  by_cases h1 : lo ≤ n <;> simp [h1]
end Go.V.G

set_option linter.unusedVariables false
set_option linter.unusedSimpArgs false
set_option maxRecDepth 100000
namespace Go.V.G
open Go.V
abbrev Bls := List (List Int)
structure Bd (bl : Bls) : Prop where
  n : bl.length ≤ 100000
  b : ∀ x ∈ bl, 0 < x.length ∧ x.length ≤ 100000
def gd (bl : Bls) (wr lf : Int) : Bool := decide (40 ≤ bl.length ∧ bl.length ≤ 160) && (bl.all (fun b => b.length == 128) && (decide (0 ≤ wr ∧ wr ≤ 1000000000) && decide (-1 ≤ lf ∧ lf ≤ 1000000)))
theorem clone_any {x : List Int} (h : x.length ≤ 1048576) : slices_Clone_byte_byte x = some x := by
  unfold slices_Clone_byte_byte
  have hr : roomFor (List.length ([] : List Int) + List.length x) 1 = true := by
    simp only [List.length_nil, roomFor, decide_eq_true_eq]; omega
  cases x with
  | nil => simp [bothQ, roomFor]
  | cons a x => simp only [bothQ, List.isEmpty_cons, Bool.false_eq_true, if_false, Option.bind_some, hr, if_true, List.nil_append]
theorem clone_eq {x : List Int} (h : 0 < x.length ∧ x.length ≤ 100000) : slices_Clone_byte_byte x = some x := clone_any (by omega)
theorem copyBlocks_eq {bl : Bls} (h : Bd bl) : i_copyBlocks bl = some bl := by
  have hn := h.n
  unfold i_copyBlocks
  refine Ok.eq (Ok.bind (Q := fun r => r = bl) ?_ (fun r hr => Ok.mk hr))
  refine Ok.loop (fun y => ∃ k : Nat, k ≤ bl.length ∧ y = (bl.take k, bl, ((bl.length : Nat) : Int), ((k : Nat) : Int))) (fun y => (((bl.length : Nat) : Int) - y.2.2.2).toNat) ⟨0, by omega, by simp⟩ ?_
  rintro _ ⟨k, hk, rfl⟩
  unfold i_copyBlocks_L1
  dsimp only
  refine Ok.ite (fun hc => ?_) fun hc => ?_
  · have hlt : k < bl.length := by simpa using hc
    refine Ok.yes (by simp) ?_
    have hg : bl[Int.toNat ((k : Nat) : Int)]? = some bl[k] := by simp [hlt]
    refine Ok.bind_eq hg (Ok.bind_eq (clone_eq (h.b _ (List.getElem_mem hlt))) ?_)
    have e1 : IntKind.wrap .i64 (((k : Nat) : Int) + 1) = (((k + 1 : Nat)) : Int) := by rw [w64 (by omega) (by omega)]; omega
    refine Ok.yes ?_ (Ok.mk ⟨⟨k + 1, by omega, ?_⟩, ?_⟩)
    · simp only [List.length_take, List.length_singleton, roomFor, decide_eq_true_eq]; omega
    · rw [e1, List.take_succ_eq_append_getElem hlt]
    · dsimp only; rw [e1]; omega
  · have : k = bl.length := by simp at hc; omega
    refine Ok.mk ?_
    dsimp only
    rw [this, List.take_length]
theorem index_eq {bl : Bls} (hn : bl.length ≤ 1048576) : Ok (slices_IndexFunc_byte_byte_i_areBlocks_1 bl) fun r => (0 ≤ r ↔ ¬ bl.all (fun b => b.length == 128) = true) := by
  unfold slices_IndexFunc_byte_byte_i_areBlocks_1
  refine Ok.bind (Q := fun r => match r with | .inl _ => bl.all (fun b => b.length == 128) = true | .inr i => 0 ≤ i ∧ ¬ bl.all (fun b => b.length == 128) = true) ?_ ?_
  · refine Ok.loop (fun y => ∃ k : Nat, k ≤ bl.length ∧ y = (bl, ((bl.length : Nat) : Int), ((k : Nat) : Int)) ∧ ∀ j (hj : j < bl.length), j < k → bl[j].length = 128) (fun y => (((bl.length : Nat) : Int) - y.2.2).toNat) ⟨0, by omega, rfl, fun _ _ h => absurd h (by omega)⟩ ?_
    rintro _ ⟨k, hk, rfl, hall⟩
    unfold slices_IndexFunc_byte_byte_i_areBlocks_1_L1
    dsimp only
    refine Ok.ite (fun hc => ?_) fun hc => ?_
    · have hlt : k < bl.length := by simpa using hc
      refine Ok.yes (by simp) ?_
      have hg : bl[Int.toNat ((k : Nat) : Int)]? = some bl[k] := by simp [hlt]
      refine Ok.bind_eq hg (Ok.bind_eq rfl (Ok.ite (fun hb => Ok.mk ⟨by omega, ?_⟩) fun hb => ?_))
      · have hb' : ¬ bl[k].length = 128 := by simp at hb; omega
        intro hx
        have := List.all_eq_true.1 hx _ (List.getElem_mem hlt)
        simp at this
        exact hb' this
      · have hb' : bl[k].length = 128 := by simp at hb; omega
        have e1 : IntKind.wrap .i64 (((k : Nat) : Int) + 1) = (((k + 1 : Nat)) : Int) := by rw [w64 (by omega) (by omega)]; omega
        refine Ok.mk ⟨⟨k + 1, by omega, by rw [e1], fun j hj hjk => ?_⟩, ?_⟩
        · by_cases hjk2 : j = k
          · subst hjk2; exact hb'
          · exact hall j hj (by omega)
        · dsimp only; rw [e1]; omega
    · have : k = bl.length := by simp at hc; omega
      refine Ok.mk ?_
      dsimp only
      rw [List.all_eq_true]
      intro x hx
      obtain ⟨j, hj, rfl⟩ := List.getElem_of_mem hx
      simp [hall j hj (by omega)]
  · rintro (u | i) hr
    · refine Ok.mk ?_
      simp only at hr
      simp [hr]
    · refine Ok.mk ?_
      simp only at hr
      simp only [hr.1, true_iff]; exact hr.2
end Go.V.G

set_option linter.unusedVariables false
set_option linter.unusedSimpArgs false
set_option maxRecDepth 100000
namespace Go.V.G
open Go.V
theorem Bd.set {bl : Bls} (h : Bd bl) {x : List Int} (hx : 0 < x.length ∧ x.length ≤ 100000) (i : Nat) : Bd (bl.set i x) :=
  ⟨by rw [List.length_set]; exact h.n, fun y hy => by
    rcases List.mem_or_eq_of_mem_set hy with hy | rfl
    · exact h.b y hy
    · exact hx⟩
end Go.V.G

set_option linter.unusedVariables false
set_option linter.unusedSimpArgs false
set_option maxRecDepth 100000
namespace Go.V.G
open Go.V
section
variable {α : Type}
def wsum (w : α → Nat) : List α → Nat
  | [] => 0
  | x :: xs => w x + wsum w xs
end
end Go.V.G

set_option linter.unusedVariables false
set_option linter.unusedSimpArgs false
set_option maxRecDepth 100000
namespace Go.V.G
open Go.V
def fit_ByteS (xs : List (Int)) : Prop := xs.length ≤ maxLen
def w_ByteS (xs : List (Int)) : Nat := xs.length
def fit_ByteSS (xs : List (List Int)) : Prop := xs.length ≤ maxLen ∧ ∀ x ∈ xs, fit_ByteS x
def w_ByteSS (xs : List (List Int)) : Nat := xs.length + wsum w_ByteS xs
end Go.V.G

set_option linter.unusedVariables false
set_option linter.unusedSimpArgs false
set_option maxRecDepth 100000
namespace Go.V.G
open Go.V
theorem n1 : ((1 : Nat) : Int) = 1 := rfl
end Go.V.G

set_option linter.unusedVariables false
set_option linter.unusedSimpArgs false
set_option maxRecDepth 100000
namespace Go.V.G
open Go.V
abbrev Cl := Int × (List Int × (Bool × (Int × Int)))
theorem fst_loop {σ τ ρ : Type} (f : σ → Option (σ ⊕ (τ ⊕ ρ))) (st : Nat → σ) (p : Nat → Bool) (e : Nat → ρ) (z : τ) (n : Nat)
    (step : ∀ i, i < n → f (st i) = some (if p i = true then .inl (st (i + 1)) else .inr (.inr (e i)))) (last : f (st n) = some (.inr (.inl z))) :
    ((∀ j, j < n → p j = true) ∧ loopG f (st 0) = some (.inl z)) ∨ ∃ k, k < n ∧ p k = false ∧ (∀ j, j < k → p j = true) ∧ loopG f (st 0) = some (.inr (e k)) := by
  by_cases h : ∃ k, k < n ∧ p k = false
  · have hf : ∃ k, (k < n ∧ p k = false) ∧ ∀ j, j < k → p j = true := by
      obtain ⟨k, hk⟩ := h
      induction k using Nat.strongRecOn with
      | _ k ih =>
        by_cases hx : ∃ j, j < k ∧ p j = false
        · obtain ⟨j, hj, hp⟩ := hx
          exact ih j hj ⟨by omega, hp⟩
        · refine ⟨k, hk, fun j hj => ?_⟩
          cases hpj : p j with
          | true => rfl
          | false => exact absurd ⟨j, hj, hpj⟩ hx
    obtain ⟨k, ⟨hk, hp⟩, hall⟩ := hf
    refine .inr ⟨k, hk, hp, hall, loop_run f st k _ (fun j hj => ?_) ?_⟩
    · rw [step j (by omega), if_pos (hall j hj)]
    · rw [step k hk, hp, if_neg (by simp)]
  · have hall : ∀ j, j < n → p j = true := fun j hj => by
      cases hpj : p j with
      | true => rfl
      | false => exact absurd ⟨j, hj, hpj⟩ h
    exact .inl ⟨hall, loop_run f st n _ (fun j hj => by rw [step j hj, if_pos (hall j hj)]) last⟩
def usedB (ls : List Cl) (u : Int) : Bool := ls.any fun q => q.2.2.2.2 == u
def gl (x1 : Int) (ls : List Cl) (bl : Bls) (i : Nat) (r : Cl) : Bool :=
  decide (0 ≤ r.1 ∧ r.1 < bl.length) && (decide (0 < i → (ls[i - 1]?.getD r).1 < r.1) && (decide (r.2.1.length = 128) && (decide (0 ≤ r.2.2.2.1 ∧ r.2.2.2.1 ≤ 100) && (decide (1 ≤ r.2.2.2.2 ∧ r.2.2.2.2 ≤ x1) &&
    ((r.2.2.1 || r.2.1 == bl[r.1.toNat]?.getD []) && !(usedB (ls.take i) r.2.2.2.2))))))
structure CD (ls : List Cl) (bl : Bls) : Prop where
  n : ls.length ≤ 1048576
  m : bl.length ≤ 1048576
  b : ∀ x ∈ ls, x.2.1.length ≤ 1048576 ∧ ∀ y ∈ x.2.1, 0 ≤ y ∧ y ≤ 255
  k : ∀ x ∈ bl, x.length ≤ 1048576 ∧ ∀ y ∈ x, 0 ≤ y ∧ y ≤ 255
def gc (x0 x1 : Int) (ls : List Cl) (bl : Bls) (wr lf : Int) : Bool :=
  gd bl wr lf && (decide (1 ≤ x0 ∧ x0 ≤ 8) && (decide (0 ≤ x1 ∧ x1 ≤ 1000000) && (decide (((ls.length : Nat) : Int) ≤ x0) && (List.range ls.length).all fun i => gl x1 ls bl i (ls[i]?.getD (0, [], false, 0, 0)))))
theorem ix64 {i : Nat} (h : i ≤ 1048576) : IntKind.wrap .i64 (((i : Nat) : Int) + 1) = ((i + 1 : Nat) : Int) := by rw [w64 (by omega) (by omega)]; omega
structure Up (ls : List Cl) (m : Nat) : Prop where
  up : ∀ i j (hi : i < ls.length) (hj : j < ls.length), i < j → ls[i].1 < ls[j].1
  b : ∀ i (hi : i < ls.length), 0 ≤ ls[i].1 ∧ ls[i].1 < m
end Go.V.G

set_option linter.unusedVariables false
set_option linter.unusedSimpArgs false
set_option maxRecDepth 100000
namespace Go.V.G
open Go.V
def ub (r : Int) (j : Nat) : Bool := decide ((IntKind.wrap .u8 (((BitVec.ofInt (IntKind.bits .u8) (Int.fdiv r (2 ^ (min j (IntKind.bits .u8)))) &&& BitVec.ofInt (IntKind.bits .u8) 1).toNat : Int)) : Int) = 1)
def sb (r : Int) (j : Nat) : Int := IntKind.wrap .u8 (((BitVec.ofInt (IntKind.bits .u8) r ||| BitVec.ofInt (IntKind.bits .u8) (IntKind.wrap .u8 (1 * 2 ^ (min j (IntKind.bits .u8))))).toNat : Int))
def bit (bits : List Int) (k : Nat) : Bool := ub (bits[k / 8]?.getD 0) (k % 8)
def setB (bits : List Int) (k : Nat) : List Int := bits.set (k / 8) (sb (bits[k / 8]?.getD 0) (k % 8))
theorem dv8 {k : Nat} (h : k ≤ 1048576) : IntKind.wrap .i64 (Int.tdiv ((k : Nat) : Int) 8) = ((k / 8 : Nat) : Int) := by
  rw [Int.tdiv_eq_ediv_of_nonneg (by omega), w64 (by omega) (by omega)]; omega
theorem md8 (k : Nat) : Int.tmod ((k : Nat) : Int) 8 = ((k % 8 : Nat) : Int) := by
  rw [Int.tmod_eq_emod_of_nonneg (by omega)]; omega
theorem md8u (k : Nat) : IntKind.wrap .u64 (Int.tmod ((k : Nat) : Int) 8) = ((k % 8 : Nat) : Int) := by
  rw [md8, wu64 (by omega) (by omega)]
theorem s_used_eq {bits : List Int} {k : Nat} (h : k ≤ 1048576) (hk : k / 8 < bits.length) : s_l5Used bits ((k : Nat) : Int) = some (bit bits k) := by
  unfold s_l5Used bit
  rw [dv8 h, md8u, if_pos (by simp), if_pos (by simp; omega), Int.toNat_natCast, List.getElem?_eq_getElem hk, Option.bind_some, if_pos (by simp), if_pos (by simp; omega)]
  rfl
theorem i_used_eq {bits : List Int} {k : Nat} (h : k ≤ 1048576) (hk : k / 8 < bits.length) (b : Bls) (g t : List Int) : i_Space_used_ffff ((k : Nat) : Int) b bits g t = some (bit bits k, b, bits, g, t) := by
  unfold i_Space_used_ffff bit
  rw [dv8 h, md8, if_pos (by simp), if_pos (by simp; omega), Int.toNat_natCast, List.getElem?_eq_getElem hk, Option.bind_some, if_pos (by simp), if_pos (by simp; omega)]
  rfl
theorem i_usedO_eq {bits : List Int} {k : Nat} (h : k ≤ 1048576) (hk : k / 8 < bits.length) (b : Bls) (g t : List Int) : i_Space_used_oooo ((k : Nat) : Int) b bits g t = some (bit bits k, b, bits, g, t) := by
  unfold i_Space_used_oooo bit
  rw [dv8 h, md8, if_pos (by simp), if_pos (by simp; omega), if_pos (by simp; omega), Int.toNat_natCast, Nat.zero_add, List.getElem?_eq_getElem hk, Option.bind_some, if_pos (by simp), if_pos (by simp; omega)]
  rfl
theorem s_set_eq {bits : List Int} {k : Nat} (h : k ≤ 1048576) (hk : k / 8 < bits.length) : s_l5Set_l bits ((k : Nat) : Int) true = some (setB bits k) := by
  unfold s_l5Set_l setB
  have hg : bits[k / 8]? = some bits[k / 8] := List.getElem?_eq_getElem hk
  have hp : decide ((0 : Int) ≤ ((k / 8 : Nat) : Int)) = true := by simp; omega
  have hp2 : decide (((k / 8 : Nat) : Int) < ((bits.length : Nat) : Int)) = true := by simp; omega
  have hp3 : decide ((0 : Int) ≤ ((k % 8 : Nat) : Int)) = true := by simp; omega
  rw [dv8 h, md8u]
  simp only [hp, hp2, hp3, hg, Int.toNat_natCast, Nat.zero_add, Option.bind_some, if_true, show decide (¬ (8 : Int) = 0) = true from rfl, Option.getD_some]
  rfl
def upG (n : Nat) (bits l : List Int) (i : Nat) : Bool :=
  decide (33 ≤ l[i]?.getD 0 ∧ l[i]?.getD 0 ≤ (n : Int) - 1) && (bit bits (l[i]?.getD 0).toNat && decide (0 < i → l[i - 1]?.getD 0 < l[i]?.getD 0))
def upB (n : Nat) (bits l : List Int) : Bool := (List.range l.length).all fun i => upG n bits l i
def bG (n : Nat) (bits : List Int) (k : Nat) : Bool := !((decide (k < 33) && !(bit bits k)) || (decide (n ≤ k) && bit bits k))
def gsp (b : Bls) (bits g t : List Int) : Bool :=
  (decide (40 ≤ b.length ∧ b.length ≤ 160) && (decide (bits.length = 20) && b.all (fun x => x.length == 128))) && (((List.range 160).all fun k => bG b.length bits k) && (upB b.length bits g && upB b.length bits t))
theorem all_range {p : Nat → Bool} {n : Nat} : (List.range n).all p = true ↔ ∀ i, i < n → p i = true := by
  rw [List.all_eq_true]; exact ⟨fun h i hi => h i (List.mem_range.2 hi), fun h i hi => h i (List.mem_range.1 hi)⟩
theorem upG_eq (n : Nat) (bits l : List Int) (i : Nat) (hi : i < l.length) : upG n bits l i =
    if ¬ (33 ≤ l[i] ∧ l[i] ≤ (n : Int) - 1) then false else if bit bits l[i].toNat = false then false else if 0 < i ∧ l[i] ≤ l[i - 1]?.getD 0 then false else true := by
  unfold upG
  rw [List.getElem?_eq_getElem hi, Option.getD_some]
  by_cases h1 : 33 ≤ l[i] ∧ l[i] ≤ (n : Int) - 1
  · rw [decide_eq_true h1, if_neg (not_not_intro h1), Bool.true_and]
    by_cases h2 : bit bits l[i].toNat = false
    · rw [h2, if_pos rfl]; rfl
    · rw [if_neg h2]
      have h2' : bit bits l[i].toNat = true := by simpa using h2
      rw [h2', Bool.true_and]
      by_cases h3 : 0 < i ∧ l[i] ≤ l[i - 1]?.getD 0
      · rw [if_pos h3]; simp; exact h3
      · rw [if_neg h3]; simp; omega
  · rw [decide_eq_false h1, if_pos h1]; rfl
theorem s_up_eq {b : Bls} {bits l : List Int} (hb : b.length ≤ 160) (h40 : 40 ≤ b.length) (hx : bits.length = 20) (hl : l.length ≤ 1048576) (a1 : Bls) (a1' : List (List Int)) (a2 a3 : Int) (g t : List Int) :
    loopG s_GoodSpace_L3 (((b.length : Nat) : Int), l, a1', a2, a3, l, ((l.length : Nat) : Int), 0, a1, bits, g, t) = some (if upB b.length bits l = true then .inl (((b.length : Nat) : Int), a1', a2, a3, a1, bits, g, t) else .inr false) := by
  rcases fst_loop s_GoodSpace_L3 (fun k => (((b.length : Nat) : Int), l, a1', a2, a3, l, ((l.length : Nat) : Int), ((k : Nat) : Int), a1, bits, g, t)) (fun k => upG b.length bits l k) (fun _ => false) (((b.length : Nat) : Int), a1', a2, a3, a1, bits, g, t) l.length (fun i hi => by
      unfold s_GoodSpace_L3
      dsimp only
      rw [if_pos (by simp; omega), if_pos (by simp), Int.toNat_natCast, List.getElem?_eq_getElem hi, Option.bind_some, upG_eq _ _ _ _ hi, s_In_eq, w64 (n := ((b.length : Nat) : Int) - 1) (by omega) (by omega), Option.bind_some]
      generalize hr : l[i] = r
      by_cases h1 : 33 ≤ r ∧ r ≤ ((b.length : Nat) : Int) - 1
      · obtain ⟨m, rfl⟩ := Int.eq_ofNat_of_zero_le (show 0 ≤ r by omega)
        rw [decide_eq_true h1, if_neg (by simp), s_used_eq (by omega) (by omega), Option.bind_some, if_neg (not_not_intro h1), Int.toNat_natCast]
        cases h2 : bit bits m with
        | false => rw [if_pos rfl]; rfl
        | true =>
          rw [if_neg (show ¬ (!true) = true by simp), if_neg (show ¬ true = false by simp)]
          by_cases h0 : 0 < i
          · have e1 : IntKind.wrap .i64 (((i : Nat) : Int) - 1) = ((i - 1 : Nat) : Int) := by rw [w64 (by omega) (by omega)]; omega
            have hp : l[i - 1]? = some l[i - 1] := List.getElem?_eq_getElem (by omega)
            rw [if_pos (by simp; omega), e1, if_pos (by simp), Int.toNat_natCast, hp, Option.bind_some, Option.bind_some, Option.getD_some]
            dsimp only
            by_cases h3 : ((m : Nat) : Int) ≤ l[i - 1]
            · rw [if_pos (by simpa using h3), if_pos (⟨h0, h3⟩ : 0 < i ∧ ((m : Nat) : Int) ≤ l[i - 1])]; rfl
            · rw [if_neg (by simpa using h3), if_neg (show ¬ (0 < i ∧ ((m : Nat) : Int) ≤ l[i - 1]) from fun hh => h3 hh.2), ix64 (by omega)]; rfl
          · rw [if_neg (by simp; omega), Option.bind_some]
            dsimp only
            rw [if_neg (by simp), if_neg (show ¬ (0 < i ∧ ((m : Nat) : Int) ≤ l[i - 1]?.getD 0) from fun hh => h0 hh.1), ix64 (by omega)]; rfl
      · rw [decide_eq_false h1, if_pos (by simp), Option.bind_some, if_pos h1]; rfl) (by
      unfold s_GoodSpace_L3
      dsimp only
      rw [if_neg (by simp)]) with ⟨h1, h2⟩ | ⟨k, hk, h1, _, h2⟩
  · rw [show (((0 : Nat) : Int)) = 0 from rfl] at h2
    rw [h2, show upB b.length bits l = true from all_range.2 h1]; rfl
  · rw [show (((0 : Nat) : Int)) = 0 from rfl] at h2
    have : upB b.length bits l = false := by
      cases hu : upB b.length bits l with
      | false => rfl
      | true => have := all_range.1 hu k hk; rw [h1] at this; cases this
    rw [h2, this]; rfl
theorem i_up_eq {b : Bls} {bits l : List Int} (hb : b.length ≤ 160) (h40 : 40 ≤ b.length) (hx : bits.length = 20) (hl : l.length ≤ 1048576) (g t : List Int) :
    i_Space_areUsed_ffff l b bits g t = some (upB b.length bits l, b, bits, g, t) := by
  unfold i_Space_areUsed_ffff
  rcases fst_loop i_Space_areUsed_ffff_L1 (fun k => (l, l, ((l.length : Nat) : Int), ((k : Nat) : Int), b, bits, g, t)) (fun k => upG b.length bits l k) (fun _ => (false, b, bits, g, t)) (b, bits, g, t) l.length (fun i hi => by
      unfold i_Space_areUsed_ffff_L1 i_Space_isBlock_ffff
      dsimp only
      rw [if_pos (by simp; omega), if_pos (by simp), Int.toNat_natCast, List.getElem?_eq_getElem hi, Option.bind_some, upG_eq _ _ _ _ hi, i_within_eq, w64 (n := ((b.length : Nat) : Int) - 1) (by omega) (by omega), Option.bind_some]
      generalize hr : l[i] = r
      by_cases h1 : 33 ≤ r ∧ r ≤ ((b.length : Nat) : Int) - 1
      · obtain ⟨m, rfl⟩ := Int.eq_ofNat_of_zero_le (show 0 ≤ r by omega)
        rw [decide_eq_true h1, if_pos rfl, i_used_eq (by omega) (by omega), Option.bind_some, Option.bind_some, Option.bind_some, if_neg (not_not_intro h1), Int.toNat_natCast]
        dsimp only
        cases h2 : bit bits m with
        | false => rw [if_pos rfl]; rfl
        | true =>
          rw [if_neg (show ¬ (!true) = true by simp), if_neg (show ¬ true = false by simp)]
          by_cases h0 : 0 < i
          · have e1 : IntKind.wrap .i64 (((i : Nat) : Int) - 1) = ((i - 1 : Nat) : Int) := by rw [w64 (by omega) (by omega)]; omega
            have hp : l[i - 1]? = some l[i - 1] := List.getElem?_eq_getElem (by omega)
            rw [if_pos (by simp; omega), e1, if_pos (by simp), Int.toNat_natCast, hp, Option.bind_some, Option.bind_some, Option.getD_some]
            dsimp only
            by_cases h3 : ((m : Nat) : Int) ≤ l[i - 1]
            · rw [if_pos (by simpa using h3), if_pos (⟨h0, h3⟩ : 0 < i ∧ ((m : Nat) : Int) ≤ l[i - 1])]; rfl
            · rw [if_neg (by simpa using h3), if_neg (show ¬ (0 < i ∧ ((m : Nat) : Int) ≤ l[i - 1]) from fun hh => h3 hh.2), ix64 (by omega)]; rfl
          · rw [if_neg (by simp; omega), Option.bind_some]
            dsimp only
            rw [if_neg (by simp), if_neg (show ¬ (0 < i ∧ ((m : Nat) : Int) ≤ l[i - 1]?.getD 0) from fun hh => h0 hh.1), ix64 (by omega)]; rfl
      · rw [decide_eq_false h1, if_neg (by simp), Option.bind_some, Option.bind_some, if_pos h1]; rfl) (by
      unfold i_Space_areUsed_ffff_L1
      dsimp only
      rw [if_neg (by simp)]) with ⟨h1, h2⟩ | ⟨k, hk, h1, _, h2⟩
  · rw [show (((0 : Nat) : Int)) = 0 from rfl] at h2
    rw [h2, show upB b.length bits l = true from all_range.2 h1]; rfl
  · rw [show (((0 : Nat) : Int)) = 0 from rfl] at h2
    have : upB b.length bits l = false := by
      cases hu : upB b.length bits l with
      | false => rfl
      | true => have := all_range.1 hu k hk; rw [h1] at this; cases this
    rw [h2, this]; rfl
theorem bits_p {n : Nat} {bits : List Int} (k : Nat) : bG n bits k = if k < 33 then (if bit bits k = false then false else if n ≤ k then !(bit bits k) else true) else if n ≤ k then !(bit bits k) else true := by
  unfold bG
  by_cases h1 : k < 33 <;> by_cases h2 : n ≤ k <;> cases bit bits k <;> simp [h1, h2]
theorem s_bits_eq {b : Bls} {bits : List Int} (hb : b.length ≤ 160) (hx : bits.length = 20) (g t : List Int) :
    loopG s_GoodSpace_L2 (((b.length : Nat) : Int), 0, b, bits, g, t) = some (if ((List.range 160).all fun k => bG b.length bits k) = true then .inl (((b.length : Nat) : Int), b, bits, g, t) else .inr false) := by
  rcases fst_loop s_GoodSpace_L2 (fun k => (((b.length : Nat) : Int), ((k : Nat) : Int), b, bits, g, t)) (fun k => bG b.length bits k) (fun _ => false) (((b.length : Nat) : Int), b, bits, g, t) 160 (fun i hi => by
      unfold s_GoodSpace_L2
      dsimp only
      rw [if_pos (by simp; omega), s_used_eq (by omega) (by omega), Option.bind_some, bits_p]
      by_cases h1 : i < 33
      · rw [if_pos (by simp; omega), if_pos h1]
        cases h2 : bit bits i with
        | false => rw [if_pos (show (!false) = true from rfl), if_pos rfl]; rfl
        | true =>
          rw [if_neg (show ¬ (!true) = true by simp), if_neg (show ¬ true = false by simp)]
          by_cases h3 : b.length ≤ i
          · rw [if_pos (by simp; omega), if_pos h3]; rfl
          · rw [if_neg (by simp; omega), if_neg h3, Option.bind_some]; dsimp only; rw [if_neg (by simp), ix64 (by omega)]; rfl
      · rw [if_neg (by simp; omega), if_neg h1]
        by_cases h3 : b.length ≤ i
        · rw [if_pos (by simp; omega), if_pos h3, Option.bind_some]
          dsimp only
          cases h2 : bit bits i with
          | false => rw [if_neg (by simp), ix64 (by omega)]; rfl
          | true => rw [if_pos rfl]; rfl
        · rw [if_neg (by simp; omega), if_neg h3, Option.bind_some]; dsimp only; rw [if_neg (by simp), ix64 (by omega)]; rfl) (by
      unfold s_GoodSpace_L2
      dsimp only
      rw [if_neg (by simp)]) with ⟨h1, h2⟩ | ⟨k, hk, h1, _, h2⟩
  · rw [show (((0 : Nat) : Int)) = 0 from rfl] at h2
    rw [h2, all_range.2 h1]; rfl
  · rw [show (((0 : Nat) : Int)) = 0 from rfl] at h2
    have : ((List.range 160).all fun k => bG b.length bits k) = false := by
      cases hu : ((List.range 160).all fun k => bG b.length bits k) with
      | false => rfl
      | true => have := all_range.1 hu k hk; rw [h1] at this; cases this
    rw [h2, this]; rfl
theorem i_bits_eq {b : Bls} {bits : List Int} (hb : b.length ≤ 160) (hx : bits.length = 20) (g t : List Int) :
    loopG i_GoodSpace_L1 (0, b, bits, g, t) = some (if ((List.range 160).all fun k => bG b.length bits k) = true then .inl (b, bits, g, t) else .inr false) := by
  rcases fst_loop i_GoodSpace_L1 (fun k => (((k : Nat) : Int), b, bits, g, t)) (fun k => bG b.length bits k) (fun _ => false) (b, bits, g, t) 160 (fun i hi => by
      unfold i_GoodSpace_L1
      dsimp only
      rw [if_pos (by simp; omega), i_used_eq (by omega) (by omega), Option.bind_some, bits_p]
      dsimp only
      by_cases h1 : i < 33
      · rw [if_pos (by simp; omega), if_pos h1]
        cases h2 : bit bits i with
        | false => rw [if_pos (show (!false) = true from rfl), if_pos rfl]; rfl
        | true =>
          rw [if_neg (show ¬ (!true) = true by simp), if_neg (show ¬ true = false by simp)]
          by_cases h3 : b.length ≤ i
          · rw [if_pos (by simp; omega), if_pos h3]; rfl
          · rw [if_neg (by simp; omega), if_neg h3, Option.bind_some]; dsimp only; rw [if_neg (by simp), ix64 (by omega)]; rfl
      · rw [if_neg (by simp; omega), if_neg h1]
        by_cases h3 : b.length ≤ i
        · rw [if_pos (by simp; omega), if_pos h3, Option.bind_some]
          dsimp only
          cases h2 : bit bits i with
          | false => rw [if_neg (by simp), ix64 (by omega)]; rfl
          | true => rw [if_pos rfl]; rfl
        · rw [if_neg (by simp; omega), if_neg h3, Option.bind_some]; dsimp only; rw [if_neg (by simp), ix64 (by omega)]; rfl) (by
      unfold i_GoodSpace_L1
      dsimp only
      rw [if_neg (by simp)]) with ⟨h1, h2⟩ | ⟨k, hk, h1, _, h2⟩
  · rw [show (((0 : Nat) : Int)) = 0 from rfl] at h2
    rw [h2, all_range.2 h1]; rfl
  · rw [show (((0 : Nat) : Int)) = 0 from rfl] at h2
    have : ((List.range 160).all fun k => bG b.length bits k) = false := by
      cases hu : ((List.range 160).all fun k => bG b.length bits k) with
      | false => rfl
      | true => have := all_range.1 hu k hk; rw [h1] at this; cases this
    rw [h2, this]; rfl
theorem s_blocks_eq {b : Bls} {bits : List Int} (hb : b.length ≤ 1048576) (n : Int) (a : Bls) (g t : List Int) :
    loopG s_GoodSpace_L1 (n, b, ((b.length : Nat) : Int), 0, a, bits, g, t) = some (if b.all (fun x => x.length == 128) = true then .inl (n, a, bits, g, t) else .inr false) := by
  rcases fst_loop s_GoodSpace_L1 (fun k => (n, b, ((b.length : Nat) : Int), ((k : Nat) : Int), a, bits, g, t)) (fun k => (b[k]?.getD []).length == 128) (fun _ => false) (n, a, bits, g, t) b.length (fun i hi => by
      unfold s_GoodSpace_L1
      dsimp only
      rw [if_pos (by simp; omega), if_pos (by simp), Int.toNat_natCast, List.getElem?_eq_getElem hi, Option.bind_some, Option.getD_some]
      by_cases h1 : b[i].length = 128
      · rw [if_neg (by simp; omega), if_pos (by simpa using h1), ix64 (by omega)]
      · rw [if_pos (by simp; omega), if_neg (by simpa using h1)]) (by
      unfold s_GoodSpace_L1
      dsimp only
      rw [if_neg (by simp)]) with ⟨h1, h2⟩ | ⟨k, hk, h1, _, h2⟩
  · rw [show (((0 : Nat) : Int)) = 0 from rfl] at h2
    have : b.all (fun x => x.length == 128) = true := by
      rw [List.all_eq_true]
      intro x hx
      obtain ⟨j, hj, rfl⟩ := List.getElem_of_mem hx
      have := h1 j hj
      rw [List.getElem?_eq_getElem hj] at this
      exact this
    rw [h2, this]; rfl
  · rw [show (((0 : Nat) : Int)) = 0 from rfl] at h2
    have : b.all (fun x => x.length == 128) = false := by
      rw [List.all_eq_false]
      refine ⟨b[k], List.getElem_mem hk, ?_⟩
      rw [List.getElem?_eq_getElem hk] at h1
      simpa using h1
    rw [h2, this]; rfl
structure SB (b : Bls) (x y z : List Int) : Prop where
  b : b.length ≤ 1048576
  y : y.length ≤ 1048576
  z : z.length ≤ 1048576
theorem s_GoodSpace_eq {b : Bls} {x y z : List Int} (h : SB b x y z) : s_GoodSpace b x y z = some (gsp b x y z) := by
  have hb := h.b
  unfold s_GoodSpace gsp
  rw [s_In_eq, Option.bind_some]
  by_cases h1 : (40 : Int) ≤ ((b.length : Nat) : Int) ∧ ((b.length : Nat) : Int) ≤ 160
  · have h1' : 40 ≤ b.length ∧ b.length ≤ 160 := by omega
    rw [decide_eq_true h1, decide_eq_true h1', if_neg (by simp), Option.bind_some, Bool.true_and]
    dsimp only
    by_cases h2 : x.length = 20
    · rw [if_neg (by simp; omega), decide_eq_true h2, Bool.true_and, s_blocks_eq hb, Option.bind_some]
      cases h3 : b.all (fun x => x.length == 128) with
      | false => rfl
      | true =>
        rw [if_pos rfl, Bool.true_and]
        dsimp only
        rw [s_bits_eq (by omega) h2, Option.bind_some]
        cases h4 : ((List.range 160).all fun k => bG b.length x k) with
        | false => rfl
        | true =>
          rw [if_pos rfl, Bool.true_and]
          dsimp only
          have step : ∀ (i : Nat) (l : List Int), [y, z][i]? = some l → l.length ≤ 1048576 → s_GoodSpace_L4 (((b.length : Nat) : Int), [y, z], 2, ((i : Nat) : Int), b, x, y, z) =
              some (if upB b.length x l = true then .inl (((b.length : Nat) : Int), [y, z], 2, ((i + 1 : Nat) : Int), b, x, y, z) else .inr (.inr false)) := by
            intro i l hl hll
            have hi : i < 2 := (List.getElem?_eq_some_iff.1 hl).1
            unfold s_GoodSpace_L4
            dsimp only
            rw [if_pos (by simp; omega), if_pos (by simp), if_pos (by simp; omega), Nat.zero_add, Int.toNat_natCast, hl, Option.bind_some, s_up_eq h1'.2 h1'.1 h2 hll, Option.bind_some]
            cases upB b.length x l with
            | true => rw [if_pos rfl, if_pos rfl]; dsimp only; rw [ix64 (by omega)]
            | false => rfl
          have e2 : (((List.length [y, z] : Nat) : Int)) = 2 := rfl
          rw [e2, loopG_eq, show (0 : Int) = ((0 : Nat) : Int) from rfl, step 0 y rfl h.y]
          cases h5 : upB b.length x y with
          | false => rfl
          | true =>
            rw [if_pos rfl, Bool.true_and]
            dsimp only
            rw [loopG_eq, step 1 z rfl h.z]
            cases h6 : upB b.length x z with
            | false => rfl
            | true =>
              rw [if_pos rfl]
              dsimp only
              rw [loopG_eq]
              unfold s_GoodSpace_L4
              dsimp only
              rw [if_neg (by simp)]
              rfl
    · rw [if_pos (by simp; omega), decide_eq_false h2]; rfl
  · have h1' : ¬ (40 ≤ b.length ∧ b.length ≤ 160) := by omega
    rw [decide_eq_false h1, decide_eq_false h1']; rfl
theorem i_areBlocks_eq {b : Bls} (hb : b.length ≤ 1048576) : i_areBlocks b = some (decide (40 ≤ b.length ∧ b.length ≤ 160) && b.all (fun x => x.length == 128)) := by
  unfold i_areBlocks
  refine Ok.eq (Ok.bind (Q := fun r => r = _) ?_ (fun r hr => Ok.mk hr))
  refine Ok.bind_eq (i_within_eq _ _ _) ?_
  refine Ok.ite (fun hc => ?_) fun hc => Ok.mk ?_
  · refine Ok.bind (Q := fun r => r = !(b.all (fun b => b.length == 128))) ?_ (fun r hr => Ok.mk ?_)
    · unfold slices_ContainsFunc_byte_byte_i_areBlocks_1
      refine (index_eq hb).bind fun r hr => Ok.mk ?_
      cases ha : b.all (fun b => b.length == 128) with
      | true => rw [ha] at hr; simpa using hr
      | false => rw [ha] at hr; simpa using hr
    · have hc' : 40 ≤ b.length ∧ b.length ≤ 160 := by simp at hc; omega
      rw [hr]; simp [hc']
  · have hc' : ¬ (40 ≤ b.length ∧ b.length ≤ 160) := by simp at hc; omega
    simp [hc']
theorem i_GoodSpace_eq {b : Bls} {x y z : List Int} (h : SB b x y z) : i_GoodSpace b x y z = some (gsp b x y z) := by
  have hb := h.b
  unfold i_GoodSpace gsp
  rw [i_areBlocks_eq hb, Option.bind_some]
  by_cases h1 : 40 ≤ b.length ∧ b.length ≤ 160
  · rw [decide_eq_true h1, Bool.true_and, Bool.true_and]
    cases h3 : b.all (fun x => x.length == 128) with
    | false => rw [Bool.and_false, Bool.false_and]; rfl
    | true =>
      rw [if_neg (by simp), Option.bind_some, Bool.and_true]
      dsimp only
      by_cases h2 : x.length = 20
      · rw [if_neg (by simp; omega), decide_eq_true h2, Bool.true_and, i_bits_eq h1.2 h2, Option.bind_some]
        cases h4 : ((List.range 160).all fun k => bG b.length x k) with
        | false => rfl
        | true =>
          rw [if_pos rfl, Bool.true_and]
          dsimp only
          rw [i_up_eq h1.2 h1.1 h2 h.y, Option.bind_some]
          dsimp only
          cases h5 : upB b.length x y with
          | false => rfl
          | true => rw [if_pos rfl, i_up_eq h1.2 h1.1 h2 h.z, Option.bind_some]; rfl
      · rw [if_pos (by simp; omega), decide_eq_false h2]; rfl
  · rw [decide_eq_false h1]; rfl
end Go.V.G

set_option linter.unusedVariables false
set_option linter.unusedSimpArgs false
set_option maxRecDepth 100000
namespace Go.V.G
open Go.V
def fit_IntS (xs : List (Int)) : Prop := xs.length ≤ maxLen
def w_IntS (xs : List (Int)) : Nat := xs.length
end Go.V.G

set_option linter.unusedVariables false
set_option linter.unusedSimpArgs false
set_option maxRecDepth 100000
namespace Go.V.G
open Go.V
structure FitS (b : List (List Int)) (x y z : List Int) : Prop where
  b : fit_ByteSS b
  x : fit_ByteS x
  y : fit_IntS y
  z : fit_IntS z
def w_Space (b : List (List Int)) (x y z : List Int) : Nat := w_ByteSS b + w_ByteS x + w_IntS y + w_IntS z
end Go.V.G
