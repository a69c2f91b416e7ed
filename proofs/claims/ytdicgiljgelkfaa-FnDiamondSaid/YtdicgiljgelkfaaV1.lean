/-
  V1: the value machine: types, data, states, and what each operation of the model's code does to them.
  Own work of this claim. No program in sight: all is over whatever program and whatever table of types.
-/
import GoSem.Dispatch
import Derived.Calls
namespace Go.V

/-! ### types and data -/
inductive Ty where
  | int (k : IntKind) | bool | str | unit
  | pair (a b : Ty)
  | sl (o : Bool) (e : TypeId) (r : Ty)
  deriving DecidableEq

@[reducible] def Ty.D : Ty → Type
  | .int _ => Int
  | .bool => Bool
  | .str => List UInt8
  | .unit => Unit
  | .pair a b => a.D × b.D
  | .sl _ _ r => List r.D

def Ty.size : Ty → Nat
  | .unit => 0
  | .pair a b => a.size + b.size
  | _ => 1

def Ty.zero : (t : Ty) → t.D
  | .int _ => (0 : Int)
  | .bool => false
  | .str => ([] : List UInt8)
  | .unit => ()
  | .pair a b => (a.zero, b.zero)
  | .sl _ _ _ => []

/-- no slice inside is owned -/
def Ty.ro : Ty → Bool
  | .pair a b => a.ro && b.ro
  | .sl o _ _ => !o
  | _ => true

/-- no slice inside is anything but owned -/
def Ty.deep : Ty → Bool
  | .pair a b => a.deep && b.deep
  | .sl o _ r => o && r.deep
  | _ => true

/-- the same data, no slice inside owned -/
def Ty.frz : Ty → Ty
  | .pair a b => .pair a.frz b.frz
  | .sl _ e r => .sl false e r.frz
  | t => t

theorem Ty.frz_D : (t : Ty) → t.frz.D = t.D
  | .int _ | .bool | .str | .unit => rfl
  | .pair a b => by
    have h1 := frz_D a; have h2 := frz_D b
    show (a.frz.D × b.frz.D) = (a.D × b.D)
    rw [h1, h2]
  | .sl _ _ r => by
    have h := frz_D r
    show List r.frz.D = List r.D
    rw [h]

def toFrz (t : Ty) (x : t.D) : t.frz.D := cast (Ty.frz_D t).symm x

/-- one cell of a value -/
def cellAt : (t : Ty) → t.D → Nat → Option ((u : Ty) × u.D)
  | .pair a b, (x, y), j => if j < a.size then cellAt a x j else cellAt b y (j - a.size)
  | .unit, _, _ => none
  | t, x, 0 => some ⟨t, x⟩
  | _, _, _ + 1 => none

def setCell : (t : Ty) → t.D → Nat → (u : Ty) → u.D → Option t.D
  | .pair a b, (x, y), j, u, z =>
    if j < a.size then (setCell a x j u z).map fun x' => (x', y) else (setCell b y (j - a.size) u z).map fun y' => (x, y')
  | .unit, _, _, _, _ => none
  | t, _, 0, u, z => if h : u = t then some (h ▸ z) else none
  | _, _, _ + 1, _, _ => none

abbrev Steps := List (Nat × Nat)

structure Own where
  e : TypeId
  r : Ty
  xs : List r.D

/-! ### states -/
inductive Leaf where
  | v (t : Ty) (x : t.D)
  | vw (k : Nat) (st : Steps) (win : Option (Nat × Nat))
  | nil
  | no

inductive S1 where
  | one (l : Leaf)
  | ag (ls : List Leaf)
  | pl (k off : Nat)
  | el (k : Nat) (st : Steps)
  | rp (t : Ty) (x : t.D) (off : Nat)

inductive SV where
  | s (x : S1)
  | tu (xs : List S1)
  | un
  | no

structure St where
  sl : Nat → SV
  ms : Nat → Option Nat
  mc : Nat → Nat → Leaf
  ow : Nat → Option Own

/-! ### what falls -/
inductive Kl where
  | all (k : Nat) | deep (k : Nat) | m (k : Nat)

def Kl.okV : Kl → Nat → Steps → Bool
  | .all k, k', _ => !(k' == k)
  | .deep k, k', st => !(k' == k) || st.isEmpty
  | .m _, _, _ => true
def Kl.okE : Kl → Nat → Steps → Bool
  | .all k, k', _ => !(k' == k)
  | .deep k, k', st => !(k' == k) || decide (st.length ≤ 1)
  | .m _, _, _ => true
def Kl.okM : Kl → Nat → Bool
  | .m k, k' => !(k' == k)
  | _, _ => true

def Leaf.kp (c : List Kl) : Leaf → Leaf
  | .vw k st win => if c.all (fun x => x.okV k st) then .vw k st win else .no
  | l => l
def S1.kp (c : List Kl) : S1 → S1
  | .one l => .one (l.kp c)
  | .ag ls => .ag (ls.map (Leaf.kp c))
  | .pl k off => if c.all (fun x => x.okM k) then .pl k off else .one .no
  | .el k st => if c.all (fun x => x.okE k st) then .el k st else .one .no
  | .rp t x off => .rp t x off
def SV.kp (c : List Kl) : SV → SV
  | .s x => .s (x.kp c)
  | .tu xs => .tu (xs.map (S1.kp c))
  | .un => .un
  | .no => .no
def St.kp (c : List Kl) (S : St) : St :=
  match c with
  | [] => S
  | c => ⟨fun i => (S.sl i).kp c, S.ms, fun k i => (S.mc k i).kp c, S.ow⟩

/-! ### what is written -/
inductive U where
  | ow (k : Nat) (o : Option Own)
  | mc (k off : Nat) (l : Leaf)
  | ms (k : Nat) (row : List Leaf)

def St.up (S : St) : U → St
  | .ow k o => ⟨S.sl, S.ms, S.mc, fun i => if i = k then o else S.ow i⟩
  | .mc k off l => ⟨S.sl, S.ms, fun i j => if i = k then (if j = off then l else S.mc i j) else S.mc i j, S.ow⟩
  | .ms k row => ⟨S.sl, fun i => if i = k then some row.length else S.ms i, fun i j => if i = k then row.getD j .no else S.mc i j, S.ow⟩
def St.ups (S : St) : List U → St
  | [] => S
  | u :: us => (S.up u).ups us
def St.put (S : St) (d : Nat) (x : SV) : St := ⟨fun i => if i = d then x else S.sl i, S.ms, S.mc, S.ow⟩
def St.putO (S : St) (d : Option Nat) (x : SV) : St := match d with | some d => S.put d x | none => S

structure Out where
  x : SV
  ks : List Kl
  us : List U

def St.app (S : St) (d : Option Nat) (o : Out) : St := ((S.kp o.ks).ups o.us).putO d o.x

/-! ### trees of answers -/
inductive Tr (α : Type) : Type 1 where
  | ret (a : α)
  | fail
  | br (c : Bool) (t e : Tr α)
  | get (β : Type) (o : Option β) (f : β → Tr α)
  | alt (β γ : Type) (s : β ⊕ γ) (f : β → Tr α) (g : γ → Tr α)
  | rdO (k : Nat) (f : Option Own → Tr α)
  | rdC (k off : Nat) (f : Leaf → Tr α)
  | rdM (k : Nat) (f : Option Nat → Tr α)

def Tr.bind {α β : Type} : Tr α → (α → Tr β) → Tr β
  | .ret a, f => f a
  | .fail, _ => .fail
  | .br c t e, f => .br c (t.bind f) (e.bind f)
  | .get γ o g, f => .get γ o fun b => (g b).bind f
  | .alt γ δ s g h, f => .alt γ δ s (fun b => (g b).bind f) (fun b => (h b).bind f)
  | .rdO k g, f => .rdO k fun b => (g b).bind f
  | .rdC k off g, f => .rdC k off fun b => (g b).bind f
  | .rdM k g, f => .rdM k fun b => (g b).bind f

/-- what was read -/
inductive Lg where
  | o (k : Nat) | c (k off : Nat) (l : Leaf) | m (k : Nat)

/-- the tree at a state: nothing is left to be read; what was read stands beside the answer -/
def Tr.at {α : Type} (S : St) : Tr α → List Lg → Tr (α × List Lg)
  | .ret a, g => .ret (a, g)
  | .fail, _ => .fail
  | .br c t e, g => .br c (t.at S g) (e.at S g)
  | .get γ o f, g => .get γ o fun b => (f b).at S g
  | .alt γ δ s f h, g => .alt γ δ s (fun b => (f b).at S g) (fun b => (h b).at S g)
  | .rdO k f, g => (f (S.ow k)).at S (.o k :: g)
  | .rdC k off f, g => (f (S.mc k off)).at S (.c k off (S.mc k off) :: g)
  | .rdM k f, g => (f (S.ms k)).at S (.m k :: g)

def Tr.run {α : Type} : Tr α → Option α
  | .ret a => some a
  | .fail => none
  | .br c t e => if c = true then t.run else e.run
  | .get _ o f => match o with
    | some b => (f b).run
    | none => none
  | .alt _ _ s f g => match s with
    | .inl b => (f b).run
    | .inr b => (g b).run
  | .rdO .. | .rdC .. | .rdM .. => none

/-- only if -/
abbrev Tr.iff {α : Type} (c : Bool) (t : Tr α) : Tr α := .br c t .fail
abbrev Tr.opt {α : Type} (o : Option α) : Tr α := match o with | some a => .ret a | none => .fail

/-! ### the table of types -/
inductive TI where
  | cell (t : Ty)
  | slice (e : TypeId) (ts : List Ty) (bytes : Nat)
  | struct (fs : List (Nat × Nat × Bool)) (row : List Ty) (eq : Bool)
  | ptr (e : TypeId)
  | other
def rowTy : List Ty → Ty
  | [] => .unit
  | [t] => t
  | t :: u :: ts => .pair t (rowTy (u :: ts))
def TI.cells : TI → Option (List Ty)
  | .cell t => some [t]
  | .slice e ts _ => some [.sl true e (rowTy ts)]
  | .struct _ row _ => some row
  | _ => none
def TI.isAgg : TI → Bool
  | .struct .. => true
  | _ => false

/-! ### elements -/
/-- an element's cell, by a tree: the elements are asked for one by one -/
def getT : (t : Ty) → t.D → Steps → Tr ((u : Ty) × u.D)
  | t, x, [] => .ret ⟨t, x⟩
  | .sl true _ r, xs, (i, j) :: ps => .get r.D ((xs : List r.D)[i]?) fun row => match cellAt r row j with
      | some c => getT c.1 c.2 ps
      | none => .fail
  | _, _, _ :: _ => .fail

def setT : (t : Ty) → t.D → Steps → (u : Ty) → u.D → Tr t.D
  | t, _, [], u, z => if h : u = t then .ret (h ▸ z) else .fail
  | .sl true _ r, xs, (i, j) :: ps, u, z => .get r.D ((xs : List r.D)[i]?) fun row => match cellAt r row j with
      | some c => (setT c.1 c.2 ps u z).bind fun y => match setCell r row j c.1 y with
        | some row' => .ret ((xs : List r.D).set i row')
        | none => .fail
      | none => .fail
  | _, _, _ :: _, _, _ => .fail

/-- the data that a view shows -/
def viewT (k : Nat) (st : Steps) (win : Option (Nat × Nat)) : Tr Own :=
  .rdO k fun o => match o with
    | some o => (getT (.sl true o.e o.r) o.xs st).bind fun c => match c with
      | ⟨.sl true e r, ys⟩ => match win with
        | none => .ret ⟨e, r, ys⟩
        | some (lo, n) => .ret ⟨e, r, ((ys : List r.D).drop lo).take n⟩
      | _ => .fail
    | none => .fail

/-- the leaf for a cell that holds this: an owned slice is shown, all else is copied -/
def leafOf (k : Nat) (st : Steps) : (t : Ty) → t.D → Leaf
  | .sl true _ _, _ => .vw k st none
  | t, x => .v t x

/-- the steps to the cell that lies n cells behind -/
def bump : Steps → Nat → Steps
  | [], _ => []
  | [(i, j)], n => [(i, j + n)]
  | p :: q :: ps, n => p :: bump (q :: ps) n

def ldCell : S1 → Nat → Tr Leaf
  | .pl k off, n => .rdM k fun m => match m with
    | some m => if off + n < m then .rdC k (off + n) fun l => match l with
      | .no => .fail
      | l => .ret l else .fail
    | none => .fail
  | .el k st, n => .rdO k fun o => match o with
    | some o => (getT (.sl true o.e o.r) o.xs (bump st n)).bind fun c => .ret (leafOf k (bump st n) c.1 c.2)
    | none => .fail
  | .rp t x off, n => match cellAt t x (off + n) with
    | some c => .ret (.v c.1 c.2)
    | none => .fail
  | _, _ => .fail

def ldCells (a : S1) : Nat → Nat → Tr (List Leaf)
  | 0, _ => .ret []
  | n + 1, i => (ldCell a i).bind fun l => (ldCells a n (i + 1)).bind fun ls => .ret (l :: ls)

/-- a leaf becomes typed data; of what it shows the owner is given up: its key stands beside -/
def absorb (t : Ty) : Leaf → Tr (t.D × List Nat)
  | .v u x => if h : u = t then .ret (h ▸ x, []) else .fail
  | .nil => match t with
    | .sl _ _ _ => .ret ([], [])
    | _ => .fail
  | .vw k [] win => (viewT k [] win).bind fun o => if h : Ty.sl true o.e o.r = t then .ret (h ▸ o.xs, [k]) else .fail
  | _ => .fail

def absorbRow : (ts : List Ty) → List Leaf → Tr ((rowTy ts).D × List Nat)
  | [], [] => .ret ((), [])
  | [t], [l] => absorb t l
  | t :: u :: ts, l :: ls => (absorb t l).bind fun x => (absorbRow (u :: ts) ls).bind fun y => .ret ((x.1, y.1), x.2 ++ y.2)
  | _, _ => .fail

/-- owners that are given up -/
def gone (ks : List Nat) : List Kl := ks.map .all
def goneU (ks : List Nat) : List U := ks.map fun k => .ow k none

/-- all unlike -/
def unlike : List Nat → Bool
  | [] => true
  | k :: ks => !(ks.contains k) && unlike ks

/-- leaves into an element's cells, side by side -/
def stEls (o : Own) (st : Steps) : List Leaf → Nat → Tr (Own × List Nat)
  | [], _ => .ret (o, [])
  | l :: ls, n => (getT (.sl true o.e o.r) o.xs (bump st n)).bind fun c => (absorb c.1 l).bind fun z =>
      (setT (.sl true o.e o.r) o.xs (bump st n) c.1 z.1).bind fun ys => (stEls ⟨o.e, o.r, ys⟩ st ls (n + 1)).bind fun r => .ret (r.1, z.2 ++ r.2)

/-- leaves into a variable's cells, side by side -/
def stPls (k : Nat) : List Leaf → Nat → List U
  | [], _ => []
  | l :: ls, n => .mc k n l :: stPls k ls (n + 1)

/-- a store of leaves into cells side by side: of a variable, or of an element -/
def stCells : S1 → List Leaf → Tr (List Kl × List U)
  | .pl k off, ls => .rdM k fun m => match m with
      | some m => if off + ls.length ≤ m then .ret ([], stPls k ls off) else .fail
      | none => .fail
  | .el k st, ls => .rdO k fun o => match o with
      | some o => (stEls o st ls 0).bind fun r => if r.2.contains k || !unlike r.2 then .fail else
          .ret (.deep k :: gone r.2, .ow k (some r.1) :: goneU r.2)
      | none => .fail
  | _, _ => .fail

end Go.V
