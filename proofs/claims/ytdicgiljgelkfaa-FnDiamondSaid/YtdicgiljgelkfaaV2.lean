/-
  V2: the value machine: operations, regions, code, functions.
-/
import Derived.Test.YtdicgiljgelkfaaV1
namespace Go.V

abbrev ALeaf := (t : Ty) × t.D
/-- an argument; a result -/
inductive A1 where
  | one (l : ALeaf)
  | ag (ls : List ALeaf)
  | pl (m off : Nat)
  | rp (t : Ty) (x : t.D) (off : Nat)

structure Res where
  val : List A1
  rows : List (List ALeaf)

/-- what is known of the functions that are called: which arguments are moved, and what a call answers -/
structure Env where
  ti : TypeId → TI
  mv : FuncId → List Bool
  ca : FuncId → List A1 → List (List ALeaf) → Tr Res

def constSV : Value → SV
  | .int k n => .s (.one (.v (.int k) n))
  | .bool b => .s (.one (.v .bool b))
  | .string s => .s (.one (.v .str s.data.toList))
  | .slice none 0 0 => .s (.one .nil)
  | _ => .no

def opnd (S : St) : Operand → SV
  | .tmp t => S.sl t
  | .const v => constSV v
  | _ => .no

/-! ### numbers, texts -/
def b2 (b : Bool) : Leaf := .v .bool b

def vbin (op : BinOp) : Leaf → Leaf → Tr Leaf
  | .v (.int k) a, .v (.int k') b =>
    match op with
    | .shl => .iff (decide ((0 : Int) ≤ b)) (.ret (.v (.int k) (k.wrap ((a : Int) * 2 ^ (min (Int.toNat b) k.bits)))))
    | .shr => .iff (decide ((0 : Int) ≤ b)) (.ret (.v (.int k) (Int.fdiv a (2 ^ (min (Int.toNat b) k.bits)))))
    | op => if k = k' then match op with
      | .add => .ret (.v (.int k) (k.wrap ((a : Int) + b)))
      | .sub => .ret (.v (.int k) (k.wrap ((a : Int) - b)))
      | .mul => .ret (.v (.int k) (k.wrap ((a : Int) * b)))
      | .quo => .iff (decide (¬ (b : Int) = 0)) (.ret (.v (.int k) (k.wrap (Int.tdiv a b))))
      | .rem => .iff (decide (¬ (b : Int) = 0)) (.ret (.v (.int k) (Int.tmod a b)))
      | .and => .ret (.v (.int k) (k.wrap ((BitVec.ofInt k.bits a &&& BitVec.ofInt k.bits b).toNat : Int)))
      | .or => .ret (.v (.int k) (k.wrap ((BitVec.ofInt k.bits a ||| BitVec.ofInt k.bits b).toNat : Int)))
      | .xor => .ret (.v (.int k) (k.wrap ((BitVec.ofInt k.bits a ^^^ BitVec.ofInt k.bits b).toNat : Int)))
      | .andNot => .ret (.v (.int k) (k.wrap ((BitVec.ofInt k.bits a &&& ~~~ BitVec.ofInt k.bits b).toNat : Int)))
      | .eql => .ret (b2 (decide ((a : Int) = b)))
      | .neq => .ret (b2 (decide (¬ (a : Int) = b)))
      | .lss => .ret (b2 (decide ((a : Int) < b)))
      | .leq => .ret (b2 (decide ((a : Int) ≤ b)))
      | .gtr => .ret (b2 (decide ((b : Int) < a)))
      | .geq => .ret (b2 (decide ((b : Int) ≤ a)))
      | _ => .fail
      else .fail
  | .v .bool a, .v .bool b =>
    match op with
    | .eql => .ret (b2 ((a : Bool) == b))
    | .neq => .ret (b2 ((a : Bool) != b))
    | _ => .fail
  | .v .str a, .v .str b =>
    match op with
    | .add => .iff (decide (((a : List UInt8).length + (b : List UInt8).length : Nat) ≤ 9223372036854775807)) (.ret (.v .str ((a : List UInt8) ++ b)))
    | .eql => .ret (b2 ((a : List UInt8) == b))
    | .neq => .ret (b2 (!((a : List UInt8) == b)))
    | .lss => .ret (b2 (Op.bytesLess a b))
    | .leq => .ret (b2 (Op.bytesLess a b || ((a : List UInt8) == b)))
    | .gtr => .ret (b2 (!(Op.bytesLess a b || ((a : List UInt8) == b))))
    | .geq => .ret (b2 (!(Op.bytesLess a b)))
    | _ => .fail
  | _, _ => .fail

/-- '==' of structs of numbers, bools, texts: cell by cell -/
def aggEq : List Ty → List Leaf → List Leaf → Option Bool
  | [], [], [] => some true
  | .int _ :: ts, .v (.int k) a :: x, .v (.int k') b :: y => if k = k' then (aggEq ts x y).map (fun r => decide ((a : Int) = b) && r) else none
  | .bool :: ts, .v .bool a :: x, .v .bool b :: y => (aggEq ts x y).map (fun r => ((a : Bool) == b) && r)
  | .str :: ts, .v .str a :: x, .v .str b :: y => (aggEq ts x y).map (fun r => ((a : List UInt8) == b) && r)
  | _, _, _ => none

def vun (op : UnOp) : Leaf → Tr Leaf
  | .v (.int k) a => match op with
    | .neg => .ret (.v (.int k) (k.wrap (0 - (a : Int))))
    | .xor => .ret (.v (.int k) (k.wrap ((BitVec.ofInt k.bits (if k.signed then -1 else k.max) ^^^ BitVec.ofInt k.bits a).toNat : Int)))
    | _ => .fail
  | .v .bool b => match op with
    | .not => .ret (.v .bool (!(b : Bool)))
    | _ => .fail
  | _ => .fail

def bytesOf (s : List UInt8) : List Int := s.map fun b => (b.toNat : Int)
def textOf (xs : List Int) : List UInt8 := xs.map fun n => UInt8.ofNat n.toNat

/-- a slice's data, only read -/
def dataT : Leaf → Tr Own
  | .v (.sl _ e r) xs => .ret ⟨e, r, xs⟩
  | .vw k st win => viewT k st win
  | _ => .fail

def TI.isStr : TI → Bool
  | .cell .str => true
  | _ => false
def TI.isSl : TI → Bool
  | .slice .. => true
  | _ => false
/-- a slice type whose elements have so many cells -/
def TI.isSlOf (n : Nat) : TI → Bool
  | .slice _ ts _ => ts.length == n
  | _ => false

def lenT (t : TI) : Leaf → Tr Nat
  | .v .str s => if t.isStr then .ret (List.length s) else .fail
  | .v (.sl _ _ _) xs => if t.isSl then .ret (List.length xs) else .fail
  | .vw k st win => if t.isSl then (viewT k st win).bind fun o => .ret o.xs.length else .fail
  | .nil => if t.isSl then .ret 0 else .fail
  | _ => .fail

def vInt (n : Nat) : SV := .s (.one (.v (.int .i64) (n : Int)))
abbrev okOut (x : SV) : Tr Out := .ret ⟨x, [], []⟩
/-- the key of the c-th owner that an operation makes -/
abbrev kd (d c : Nat) : Nat := d * 1024 + c

/-! ### slices -/
def cutWin (win : Option (Nat × Nat)) (lo n : Nat) : Option (Nat × Nat) :=
  match win with
  | none => some (lo, n)
  | some (l, _) => some (l + lo, n)

def winLo (win : Option (Nat × Nat)) : Nat := match win with | none => 0 | some (lo, _) => lo
def bound : Option SV → Nat → Tr Int
  | none, d => .ret d
  | some (.s (.one (.v (.int _) n))), _ => .ret n
  | _, _ => .fail

/-- the bounds, checked -/
def boundsT (len : Nat) (lo hi mx : Option SV) (f : Nat → Nat → Tr SV) : Tr SV :=
  (bound lo 0).bind fun l => (bound hi len).bind fun h => (bound mx len).bind fun m =>
    .iff (mx.isNone || hi.isSome) <| .iff (decide (0 ≤ l)) <| .iff (decide (l ≤ h)) <| .iff (decide (h ≤ m)) <| .iff (decide (m ≤ (len : Int))) <| f l.toNat (h.toNat - l.toNat)

def sliceT (t : TI) (x : Leaf) (lo hi mx : Option SV) : Tr SV :=
  match x with
  | .v .str s => if t.isStr && mx.isNone then boundsT (List.length s) lo hi mx fun l n => .ret (.s (.one (.v .str (((s : List UInt8).drop l).take n)))) else .fail
  | .v (.sl false e r) xs => if t.isSlOf r.size then boundsT (List.length xs) lo hi mx fun l n => .ret (.s (.one (.v (.sl false e r) (((xs : List r.D).drop l).take n)))) else .fail
  | .vw k st win => (viewT k st win).bind fun o => if t.isSlOf o.r.size then boundsT o.xs.length lo hi mx fun l n => .ret (.s (.one (.vw k st (cutWin win l n)))) else .fail
  | .nil => if t.isSl then boundsT 0 lo hi mx fun _ _ => .ret (.s (.one .nil)) else .fail
  | _ => .fail

def roomFor (n bytes : Nat) : Bool := decide (n * bytes ≤ 140737488355328)

/-- what is appended -/
def moreT (ti2 : TI) (e : TypeId) (r : Ty) : Leaf → Tr (List r.D × List Nat)
  | .v .str s => if ti2.isStr then (match r with
    | .int .u8 => .ret (bytesOf s, [])
    | _ => .fail) else .fail
  | l => if ti2.isSl then (if r.ro then (match l with
    | .nil => .ret ([], [])
    | l => (dataT l).bind fun o => if h : Ty.sl true o.e o.r = .sl true e r then .ret ((h ▸ o.xs : (Ty.sl true e r).D), []) else .fail)
    else absorb (.sl true e r) l) else .fail

def ownOut (key : Nat) (o : Own) (given : List Nat) : Out :=
  ⟨.s (.one (.vw key [] none)), .all key :: gone given, goneU given ++ [.ow key (some o)]⟩

def appendT (ti ti2 : TI) (d : Nat) (x y : Leaf) : Tr Out :=
  match ti with
  | .slice e ts bytes => (absorb (.sl true e (rowTy ts)) x).bind fun b => (moreT ti2 e (rowTy ts) y).bind fun m =>
      .iff (roomFor (List.length b.1 + List.length m.1) bytes) <|
      if unlike (b.2 ++ m.2) then .ret (ownOut (kd d 0) ⟨e, rowTy ts, (show List (rowTy ts).D from b.1) ++ m.1⟩ (b.2 ++ m.2)) else .fail
  | _ => .fail

def Leaf.is : Leaf → Bool
  | .no => false
  | _ => true
def leaves : SV → Option (List Leaf)
  | .s (.one l) => if l.is then some [l] else none
  | .s (.ag ls) => if ls.all Leaf.is then some ls else none
  | _ => none

/-- a slice's literal: its rows -/
def rowsT (ts : List Ty) : List (Nat × SV) → Nat → Tr (List (rowTy ts).D × List Nat)
  | [], _ => .ret ([], [])
  | (i, x) :: ps, n => if i = n then match leaves x with
      | some ls => (absorbRow ts ls).bind fun r => (rowsT ts ps (n + 1)).bind fun rs => .ret (r.1 :: rs.1, r.2 ++ rs.2)
      | none => .fail
      else .fail

def buildSliceT (ti : TI) (d len : Nat) (ps : List (Nat × SV)) : Tr Out :=
  match ti with
  | .slice e ts _ => (rowsT ts ps 0).bind fun r => if unlike r.2 && decide (ps.length = len) && decide (len * (rowTy ts).size ≤ 16777216) then
      .ret (ownOut (kd d 0) ⟨e, rowTy ts, r.1⟩ r.2) else .fail
  | _ => .fail

def makeSliceT (ti : TI) (d : Nat) (l c : SV) : Tr Out :=
  match ti, l, c with
  | .slice e ts bytes, .s (.one (.v (.int .i64) l)), .s (.one (.v (.int .i64) c)) =>
    .iff (decide ((0 : Int) ≤ l)) <| .iff (decide ((l : Int) ≤ c)) <| .iff (roomFor (Int.toNat c) bytes) <|
      .ret (ownOut (kd d 0) ⟨e, rowTy ts, List.replicate (Int.toNat l) (rowTy ts).zero⟩ [])
  | _, _, _ => .fail

/-! ### structs, variables -/
def zeroLeaf : Ty → Leaf
  | .sl _ _ _ => .nil
  | t => .v t t.zero

def setMany (row : List Leaf) (off : Nat) : List Leaf → List Leaf
  | [] => row
  | l :: ls => setMany (row.set off l) (off + 1) ls

def buildT (fs : List (Nat × Nat × Bool)) : List (Nat × SV) → List Leaf → Option (List Leaf)
  | [], row => some row
  | (f, x) :: ps, row => match fs[f]?, leaves x with
    | some (off, n, _), some ls => if ls.length = n then (if off + n ≤ row.length then buildT fs ps (setMany row off ls) else none) else none
    | _, _ => none

def indexT (t : TI) (x : Leaf) (i : Int) : Tr SV :=
  .iff (decide (0 ≤ i)) <|
  match x with
  | .v (.sl false _ r) xs => if t.isSlOf r.size then .get r.D ((xs : List r.D)[i.toNat]?) fun row => .ret (.s (.rp r row 0)) else .fail
  | .vw k st win => (viewT k st win).bind fun o => if t.isSlOf o.r.size then .iff (decide (i < (o.xs.length : Int))) <|
      .ret (.s (.el k (st ++ [(winLo win + i.toNat, 0)]))) else .fail
  | _ => .fail

def convT (ti : TypeId → TI) (src dst : TI) (d : Nat) (x : Leaf) : Tr Out :=
  match src, dst, x with
  | .cell (.int _), .cell (.int k), .v (.int _) n => okOut (.s (.one (.v (.int k) (k.wrap n))))
  | .cell .str, .cell .str, .v .str s => okOut (.s (.one (.v .str s)))
  | .cell .str, .slice e _ _, .v .str s => match ti e with
    | .cell (.int .u8) => .ret (ownOut (kd d 0) ⟨e, .int .u8, bytesOf s⟩ [])
    | _ => .fail
  | .slice e _ _, .cell .str, .nil => match ti e with
    | .cell (.int .u8) => okOut (.s (.one (.v .str [])))
    | _ => .fail
  | .slice e _ _, .cell .str, x => match ti e with
    | .cell (.int .u8) => (dataT x).bind fun o => match o with
        | ⟨_, .int .u8, xs⟩ => okOut (.s (.one (.v .str (textOf xs))))
        | _ => .fail
    | _ => .fail
  | _, _, _ => .fail

/-! ### calls -/
structure AS where
  a : A1
  bw : List Nat     -- owners that are shown
  gv : List Nat     -- owners that are given up

/-- a leaf as an argument: shown, or moved -/
def argLeaf (mv : Bool) (t : Ty) : Leaf → Tr (ALeaf × List Nat × List Nat)
  | .v u x => .ret (⟨u, x⟩, [], [])
  | .nil => match t with
    | .sl _ e r => if mv then .ret (⟨.sl true e r, []⟩, [], []) else .ret (⟨.sl false e r.frz, []⟩, [], [])
    | _ => .fail
  | .vw k st win => if mv then match st with
      | [] => (viewT k [] win).bind fun o => .ret (⟨.sl true o.e o.r, o.xs⟩, [], [k])
      | _ => .fail
    else (viewT k st win).bind fun o => .ret (⟨(Ty.sl true o.e o.r).frz, toFrz (.sl true o.e o.r) o.xs⟩, [k], [])
  | .no => .fail

def argLeaves (mv : Bool) : List Ty → List Leaf → Tr (List ALeaf × List Nat × List Nat)
  | _, [] => .ret ([], [], [])
  | ts, l :: ls => (argLeaf mv (ts.headD .unit) l).bind fun x => (argLeaves mv ts.tail ls).bind fun y => .ret (x.1 :: y.1, x.2.1 ++ y.2.1, x.2.2 ++ y.2.2)

/-- a variable's row, as it is handed to who may write it -/
def rowLeaves (k : Nat) : List Ty → Nat → Tr (List ALeaf × List Nat)
  | [], _ => .ret ([], [])
  | t :: ts, c => .rdC k c fun l => (argLeaf true t l).bind fun x => (rowLeaves k ts (c + 1)).bind fun y => .ret (x.1 :: y.1, x.2.2 ++ y.2)

def place (ms : List Nat) (k : Nat) : Nat := ms.findIdx (· == k)

/-- arguments: the arguments; owners shown; owners given up; variables handed on -/
structure AC where
  as : List A1 := []
  bw : List Nat := []
  gv : List Nat := []
  ms : List (Nat × List Ty) := []

/-- the cells of what a pointer leads to; a receiver bears the type of the variable itself -/
def cellsAt (ti : TypeId → TI) (t : TypeId) : Option (List Ty) := match ti t with
  | .ptr e => (ti e).cells
  | x => x.cells

def argsT (E : Env) : List Bool → List (SV × TypeId) → AC → Tr AC
  | _, [], c => .ret c
  | mv, (x, t) :: xs, c =>
    let m := mv.headD false
    match x with
    | .s (.one l) => (argLeaf m ((((E.ti t).cells).getD []).headD .unit) l).bind fun y => argsT E mv.tail xs { c with as := c.as ++ [.one y.1], bw := c.bw ++ y.2.1, gv := c.gv ++ y.2.2 }
    | .s (.ag ls) => (argLeaves m (((E.ti t).cells).getD []) ls).bind fun y => argsT E mv.tail xs { c with as := c.as ++ [.ag y.1], bw := c.bw ++ y.2.1, gv := c.gv ++ y.2.2 }
    | .s (.rp u x off) => argsT E mv.tail xs { c with as := c.as ++ [.rp u x off] }
    | .s (.pl k off) => match cellsAt E.ti t with
      | some ts => if (c.ms.map (·.1)).contains k then argsT E mv.tail xs { c with as := c.as ++ [.pl (place (c.ms.map (·.1)) k) off] }
        else if off = 0 then .rdM k fun n => if n = some ts.length then
          argsT E mv.tail xs { c with as := c.as ++ [.pl c.ms.length off], ms := c.ms ++ [(k, ts)] } else .fail
        else .fail
      | none => .fail
    | _ => .fail

def rowsOf : List (Nat × List Ty) → Tr (List (List ALeaf) × List Nat)
  | [] => .ret ([], [])
  | (k, ts) :: ms => (rowLeaves k ts 0).bind fun y => (rowsOf ms).bind fun ys => .ret (y.1 :: ys.1, y.2 ++ ys.2)

def Ty.hasRo : Ty → Bool
  | .pair a b => a.hasRo || b.hasRo
  | .sl o _ r => !o || r.hasRo
  | _ => false

/-- a leaf that comes back: what is owned gets a key -/
def backLeaf (key : Nat) : ALeaf → Leaf × List (Nat × Own)
  | ⟨.sl true e r, xs⟩ => (.vw key [] none, [(key, ⟨e, r, xs⟩)])
  | ⟨t, x⟩ => (.v t x, [])

def backLeaves (key : Nat) : List ALeaf → List Leaf × List (Nat × Own)
  | [] => ([], [])
  | l :: ls => ((backLeaf key l).1 :: (backLeaves (key + 1) ls).1, (backLeaf key l).2 ++ (backLeaves (key + 1) ls).2)

def back1 (ms : List Nat) (key : Nat) : A1 → Option (S1 × List (Nat × Own))
  | .one l => some (.one (backLeaf key l).1, (backLeaf key l).2)
  | .ag ls => some (.ag (backLeaves key ls).1, (backLeaves key ls).2)
  | .pl m off => match ms[m]? with
    | some k => some (.pl k off, [])
    | none => none
  | .rp t x off => some (.rp t x off, [])

/-- results: keys from key on -/
def backVals (ms : List Nat) (key : Nat) : List A1 → Option (List S1 × List (Nat × Own))
  | [] => some ([], [])
  | a :: as => match back1 ms key a, backVals ms (key + 64) as with
    | some x, some y => some (x.1 :: y.1, x.2 ++ y.2)
    | _, _ => none

def backRows (key : Nat) : List Nat → List (List ALeaf) → Option (List (Nat × List Leaf) × List (Nat × Own))
  | [], [] => some ([], [])
  | k :: ms, r :: rs => match backRows (key + 64) ms rs with
    | some y => some ((k, (backLeaves key r).1) :: y.1, (backLeaves key r).2 ++ y.2)
    | none => none
  | _, _ => none

def ownsU (l : List (Nat × Own)) : List U := l.map fun p => .ow p.1 (some p.2)
def rowsU : List (Nat × List Leaf) → List U
  | [] => []
  | p :: l => stPls p.1 p.2 0 ++ rowsU l

def A1.hasRo : A1 → Bool
  | .one l => l.1.hasRo
  | .ag ls => ls.any fun l => l.1.hasRo
  | .pl _ _ => false
  | .rp _ _ _ => true

def tupled : List S1 → SV
  | [v] => .s v
  | vs => .tu vs

def callT (E : Env) (d : Nat) (f : FuncId) (args : List (SV × TypeId)) : Tr Out :=
  (argsT E (E.mv f) args {}).bind fun c => (rowsOf c.ms).bind fun rows =>
    if unlike (c.gv ++ rows.2) && c.bw.all (fun k => !(c.gv ++ rows.2).contains k) then
      (E.ca f c.as rows.1).bind fun r =>
        if c.bw.isEmpty || !(r.val.any A1.hasRo || r.rows.any (fun l => l.any fun x => x.1.hasRo)) then
          match backVals (c.ms.map (·.1)) (kd d 0) r.val, backRows (kd d 512) (c.ms.map (·.1)) r.rows with
          | some vs, some rs =>
            if unlike ((vs.2 ++ rs.2).map (·.1)) && decide (r.rows.map List.length = c.ms.map fun m => m.2.length) then
            .ret ⟨tupled vs.1, gone (c.gv ++ rows.2) ++ gone ((vs.2 ++ rs.2).map (·.1)), goneU (c.gv ++ rows.2) ++ (ownsU (vs.2 ++ rs.2) ++ rowsU rs.1)⟩
            else .fail
          | _, _ => .fail
        else .fail
    else .fail

/-! ### operations -/
def minmax (b : Builtin) : List SV → Tr SV
  | [.s (.one (.v (.int k) x)), .s (.one (.v (.int k') y))] => if k = k' then match b with
      | .min => .ret (.s (.one (.v (.int k) (if (y : Int) < x then y else x))))
      | .max => .ret (.s (.one (.v (.int k) (if (x : Int) < y then y else x))))
      | _ => .fail
      else .fail
  | _ => .fail

/-- bools are compared at a type of bools -/
def boolOk (l : Leaf) (t : TI) : Bool :=
  match l, t with
  | .v .bool _, .cell .bool => true
  | .v .bool _, _ => false
  | _, _ => true

def core (E : Env) (ρ : Operand → SV) (d : Nat) : Op → Tr Out
  | .move x | .assign x => match ρ x with
    | .no => .fail
    | .un => .fail
    | x => okOut x
  | .pick c a b => match ρ c with
    | .s (.one (.v .bool c)) => .br c (match ρ a with | .no => .fail | .un => .fail | x => okOut x) (match ρ b with | .no => .fail | .un => .fail | x => okOut x)
    | _ => .fail
  | .alloc t => match (E.ti t).cells with
    | some ts => .ret ⟨.s (.pl d 0), [.m d], [.ms d (ts.map zeroLeaf)]⟩
    | none => .fail
  | .box t x => match (E.ti t).cells, leaves (ρ x) with
    | some ts, some ls => if ls.length = ts.length then .ret ⟨.s (.pl d 0), [.m d], [.ms d ls]⟩ else .fail
    | _, _ => .fail
  | .build t ps => match E.ti t with
    | .struct fs row _ => match buildT fs (ps.toList.map fun p => (p.1, ρ p.2)) (row.map zeroLeaf) with
      | some ls => okOut (.s (.ag ls))
      | none => .fail
    | _ => .fail
  | .buildSlice t len ps => buildSliceT (E.ti t) d len (ps.toList.map fun p => (p.1, ρ p.2))
  | .load t a => match ρ a, (E.ti t).cells with
    | .s a, some ts => if ts.isEmpty then .fail else (if (E.ti t).isAgg then (ldCells a ts.length 0).bind fun ls => Tr.ret (SV.s (.ag ls)) else (ldCell a 0).bind fun l => Tr.ret (SV.s (.one l))).bind fun x => okOut x
    | _, _ => .fail
  | .store t a x => match ρ a, (E.ti t).cells, leaves (ρ x) with
    | .s a, some ts, some ls => if ls.length = ts.length then (stCells a ls).bind fun r => .ret ⟨.no, r.1, r.2⟩ else .fail
    | _, _, _ => .fail
  | .nilCheck x => match ρ x with
    | .s (.pl k off) => okOut (.s (.pl k off))
    | .s (.el k st) => okOut (.s (.el k st))
    | .s (.rp t x off) => okOut (.s (.rp t x off))
    | _ => .fail
  | .binOp op t x y _ => match ρ x, ρ y with
    | .s (.one x), .s (.one y) => if boolOk x (E.ti t) then (vbin op x y).bind fun l => okOut (.s (.one l)) else .fail
    | .s (.ag xs), .s (.ag ys) => match E.ti t with
      | .struct _ row true => match op, aggEq row xs ys with
        | .eql, some r => okOut (.s (.one (b2 r)))
        | .neq, some r => okOut (.s (.one (b2 (!r))))
        | _, _ => .fail
      | _ => .fail
    | _, _ => .fail
  | .unOp op _ x => match ρ x with
    | .s (.one x) => (vun op x).bind fun l => okOut (.s (.one l))
    | _ => .fail
  | .convert s t x => match ρ x with
    | .s (.one x) => convT E.ti (E.ti s) (E.ti t) d x
    | _ => .fail
  | .makeSlice t l c => makeSliceT (E.ti t) d (ρ l) (ρ c)
  | .slice t x lo hi mx => match ρ x with
    | .s (.one x) => (sliceT (E.ti t) x (lo.map ρ) (hi.map ρ) (mx.map ρ)).bind fun x => okOut x
    | _ => .fail
  | .fieldAddr t x f => match E.ti t with
    | .struct fs _ _ => match fs[f]?, ρ x with
      | some (o, _, _), .s (.pl k off) => okOut (.s (.pl k (off + o)))
      | some (o, _, _), .s (.el k st) => okOut (.s (.el k (bump st o)))
      | some (o, _, _), .s (.rp u x off) => okOut (.s (.rp u x (off + o)))
      | _, _ => .fail
    | _ => .fail
  | .field t x f => match E.ti t, ρ x with
    | .struct fs _ _, .s (.ag ls) => match fs[f]? with
      | some (o, n, true) => okOut (.s (.ag ((ls.drop o).take n)))
      | some (o, _, false) => match ls[o]? with
        | some l => okOut (.s (.one l))
        | none => .fail
      | none => .fail
    | _, _ => .fail
  | .indexAddr t x i => match ρ x, ρ i with
    | .s (.one x), .s (.one (.v (.int _) i)) => (indexT (E.ti t) x i).bind fun x => okOut x
    | _, _ => .fail
  | .index t x i => match ρ x, ρ i with
    | .s (.one (.v .str s)), .s (.one (.v (.int _) i)) => .iff (E.ti t).isStr <| .iff (decide ((0 : Int) ≤ i)) <|
      .get UInt8 ((s : List UInt8)[Int.toNat i]?) fun b => okOut (.s (.one (.v (.int .u8) ((UInt8.toNat b : Nat) : Int))))
    | _, _ => .fail
  | .extract x i => match ρ x with
    | .tu xs => match xs[i]? with
      | some x => okOut (.s x)
      | none => .fail
    | _ => .fail
  | .call ⟨.builtin .len, as, ts⟩ => match as.toList.map ρ, ts.toList with
    | [.s (.one x)], [t] => (lenT (E.ti t) x).bind fun n => okOut (vInt n)
    | _, _ => .fail
  | .call ⟨.builtin .append, as, ts⟩ => match as.toList.map ρ, ts.toList with
    | [.s (.one x), .s (.one y)], [t, t2] => appendT (E.ti t) (E.ti t2) d x y
    | _, _ => .fail
  | .call ⟨.builtin .min, as, _⟩ => (minmax .min (as.toList.map ρ)).bind fun x => okOut x
  | .call ⟨.builtin .max, as, _⟩ => (minmax .max (as.toList.map ρ)).bind fun x => okOut x
  | .call ⟨.value (.func f), as, ts⟩ => if as.size = ts.size then callT E d f ((as.toList.map ρ).zip ts.toList) else .fail
  | _ => .fail

end Go.V
