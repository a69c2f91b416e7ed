/-
  V3: the value machine: regions, templates, code, functions.
-/
import Derived.Test.YtdicgiljgelkfaaV2
namespace Go.V

/-! ### loops: what comes of a step taken again and again -/
section loops
variable {σ τ : Type}
def loopN (f : σ → Option (σ ⊕ τ)) : Nat → σ → Option τ
  | 0, _ => none
  | n + 1, x => match f x with
    | some (.inl y) => loopN f n y
    | some (.inr z) => some z
    | none => none
open Classical in
noncomputable def loopG (f : σ → Option (σ ⊕ τ)) (x : σ) : Option τ := if h : ∃ n z, loopN f n x = some z then some h.choose_spec.choose else none

theorem loopN_mono (f : σ → Option (σ ⊕ τ)) : ∀ n m x z, loopN f n x = some z → n ≤ m → loopN f m x = some z := by
  intro n
  induction n with
  | zero => intro m x z h; simp [loopN] at h
  | succ n ih =>
    intro m x z h hm
    obtain ⟨m, rfl⟩ : ∃ k, m = k + 1 := ⟨m - 1, by omega⟩
    simp only [loopN] at h ⊢
    split at h
    · exact ih m _ z h (by omega)
    · exact h
    · cases h
theorem loopG_some (f : σ → Option (σ ⊕ τ)) (x : σ) (z : τ) : loopG f x = some z ↔ ∃ n, loopN f n x = some z := by
  unfold loopG
  constructor
  · intro h
    split at h
    · rename_i hx
      injection h with h
      exact ⟨hx.choose, h ▸ hx.choose_spec.choose_spec⟩
    · cases h
  · rintro ⟨n, hn⟩
    have hx : ∃ n z, loopN f n x = some z := ⟨n, z, hn⟩
    rw [dif_pos hx]
    have h1 := loopN_mono f _ (max n hx.choose) x _ hx.choose_spec.choose_spec (by omega)
    have h2 := loopN_mono f _ (max n hx.choose) x _ hn (by omega)
    rw [h1] at h2
    exact h2
theorem loopG_eq (f : σ → Option (σ ⊕ τ)) (x : σ) : loopG f x = match f x with
    | some (.inl y) => loopG f y
    | some (.inr z) => some z
    | none => none := by
  apply Option.ext
  intro z
  rw [loopG_some]
  constructor
  · rintro ⟨n, hn⟩
    cases n with
    | zero => simp [loopN] at hn
    | succ n =>
      simp only [loopN] at hn
      split at hn
      · rename_i y _
        exact (loopG_some f y z).2 ⟨n, hn⟩
      · exact hn
      · cases hn
  · intro h
    split at h
    · rename_i y hy
      obtain ⟨n, hn⟩ := (loopG_some f y z).1 h
      exact ⟨n + 1, by simp only [loopN, hy]; exact hn⟩
    · rename_i z' hz; exact ⟨1, by simp only [loopN, hz]; exact h⟩
    · cases h
end loops

/-! ### templates: what stays of a state where ways meet -/
inductive TL where
  | h (i : Nat) | vw (k : Nat) | nil | no
inductive TS where
  | one (l : TL) | ag (ls : List TL) | pl (k off : Nat)
structure Tpl where
  holes : List Ty
  slots : List (Nat × TS)
  mems : List (Nat × List TL)
  owns : List (Nat × Nat)
@[reducible] def Tpl.D (t : Tpl) : Type := (rowTy t.holes).D

def split : (ts : List Ty) → (rowTy ts).D → List ALeaf
  | [], _ => []
  | [t], x => [⟨t, x⟩]
  | t :: u :: ts, x => ⟨t, x.1⟩ :: split (u :: ts) x.2

def find {β : Type} : List (Nat × β) → Nat → Option β
  | [], _ => none
  | (k, b) :: l, i => if i = k then some b else find l i

def TL.inj (hs : List ALeaf) : TL → Leaf
  | .h i => match hs[i]? with
    | some c => .v c.1 c.2
    | none => .no
  | .vw k => .vw k [] none
  | .nil => .nil
  | .no => .no
def TS.inj (hs : List ALeaf) : TS → S1
  | .one l => .one (l.inj hs)
  | .ag ls => .ag (ls.map (TL.inj hs))
  | .pl k off => .pl k off
def ownOf : ALeaf → Option Own
  | ⟨.sl true e r, xs⟩ => some ⟨e, r, xs⟩
  | _ => none
def Tpl.injH (t : Tpl) (hs : List ALeaf) : St where
  sl i := match find t.slots i with
    | some s => .s (s.inj hs)
    | none => .no
  ms k := (find t.mems k).map List.length
  mc k off := match find t.mems k with
    | some row => match row[off]? with
      | some l => l.inj hs
      | none => .no
    | none => .no
  ow k := match find t.owns k with
    | some h => match hs[h]? with
      | some c => ownOf c
      | none => none
    | none => none
def Tpl.inj (t : Tpl) (x : t.D) : St := t.injH (split t.holes x)

/-- what a state is found to be: new names for its keys; the holes' values -/
structure Mt where
  ro : List (Nat × Nat) := []
  rm : List (Nat × Nat) := []
  nl : List Nat := []
  vs : List (Nat × ALeaf) := []

/-- a new pair, or one that is there -/
def addKey (l : List (Nat × Nat)) (a b : Nat) : Option (List (Nat × Nat)) :=
  match find l a with
  | some c => if c = b then some l else none
  | none => some ((a, b) :: l)

def TL.mt (holes : List Ty) (m : Mt) : TL → Leaf → Option Mt
  | .h i, .v t x => some { m with vs := (i, ⟨t, x⟩) :: m.vs }
  | .h i, .nil => match holes[i]? with
    | some (.sl false e r) => some { m with vs := (i, ⟨.sl false e r, []⟩) :: m.vs }
    | _ => none
  | .vw k, .vw k' [] none => match addKey m.ro k k' with
    | some l => some { m with ro := l }
    | none => none
  | .vw k, .nil => some { m with nl := k :: m.nl }
  | .nil, .nil => some m
  | .no, _ => some m
  | _, _ => none
def TL.mts (holes : List Ty) : Mt → List TL → List Leaf → Option Mt
  | m, [], [] => some m
  | m, t :: ts, l :: ls => match t.mt holes m l with
    | some m' => TL.mts holes m' ts ls
    | none => none
  | _, _, _ => none
def TS.mt (holes : List Ty) (m : Mt) : TS → SV → Option Mt
  | .one t, .s (.one l) => t.mt holes m l
  | .ag ts, .s (.ag ls) => TL.mts holes m ts ls
  | .pl k off, .s (.pl k' off') => if off = off' then (match addKey m.rm k k' with
    | some l => some { m with rm := l }
    | none => none) else none
  | _, _ => none
def mtSlots (holes : List Ty) (S : St) : List (Nat × TS) → Mt → Option Mt
  | [], m => some m
  | (i, t) :: l, m => match t.mt holes m (S.sl i) with
    | some m' => mtSlots holes S l m'
    | none => none
def mtRow (holes : List Ty) (S : St) (k : Nat) : List TL → Nat → Mt → Option Mt
  | [], _, m => some m
  | t :: ts, c, m => match t.mt holes m (S.mc k c) with
    | some m' => mtRow holes S k ts (c + 1) m'
    | none => none
def mtMems (holes : List Ty) (S : St) : List (Nat × List TL) → Mt → Option Mt
  | [], m => some m
  | (κ, row) :: l, m => match find m.rm κ with
    | some k => if S.ms k = some row.length then match mtRow holes S k row 0 m with
      | some m' => mtMems holes S l m'
      | none => none
      else none
    | none => none
def mtOwns (holes : List Ty) (S : St) : List (Nat × Nat) → Mt → Option Mt
  | [], m => some m
  | (κ, h) :: l, m => match find m.ro κ with
    | some k => match S.ow k with
      | some o => mtOwns holes S l { m with vs := (h, ⟨.sl true o.e o.r, o.xs⟩) :: m.vs }
      | none => none
    | none => if m.nl.contains κ then match holes[h]? with
      | some (.sl true e r) => mtOwns holes S l { m with vs := (h, ⟨.sl true e r, []⟩) :: m.vs }
      | _ => none
      else none
def tuple (vs : List (Nat × ALeaf)) : (ts : List Ty) → Nat → Option (rowTy ts).D
  | [], _ => some ()
  | [t], i => match find vs i with
    | some ⟨u, x⟩ => if h : u = t then some (h ▸ x) else none
    | none => none
  | t :: u :: ts, i => match find vs i with
    | some ⟨u', x⟩ => if h : u' = t then match tuple vs (u :: ts) (i + 1) with
      | some y => some (h ▸ x, y)
      | none => none
      else none
    | none => none
def Tpl.mt (t : Tpl) (S : St) : Option Mt :=
  match mtSlots t.holes S t.slots { rm := t.mems.map fun p => (p.1, p.1) } with
  | some m => match mtMems t.holes S t.mems m with
    | some m => mtOwns t.holes S t.owns m
    | none => none
  | none => none
def Mt.fine (t : Tpl) (m : Mt) : Bool :=
  unlike (m.vs.map (·.1)) && m.vs.all (fun p => decide (p.1 < t.holes.length)) && unlike (m.ro.map (·.1)) && unlike (m.ro.map (·.2)) && unlike (m.rm.map (·.1)) && unlike (m.rm.map (·.2)) &&
  m.nl.all (fun k => !(m.ro.map (·.1)).contains k && (find t.owns k).isSome) && m.ro.all (fun p => (find t.owns p.1).isSome) && m.rm.all (fun p => (find t.mems p.1).isSome) && m.rm.all (fun p => p.1 == p.2)
def Tpl.prj (t : Tpl) (S : St) : Option t.D :=
  match t.mt S with
  | some m => if m.fine t then tuple m.vs t.holes 0 else none
  | none => none

/-! ### exits -/
inductive Ex where
  | n | x (id : Nat) | r
  deriving DecidableEq

abbrev Joins := List (Ex × Tpl)
@[reducible] def Joins.D : Joins → Type
  | [] => Empty
  | [a] => a.2.D
  | a :: b :: l => a.2.D ⊕ Joins.D (b :: l)
def Joins.prj : (J : Joins) → Ex → St → Option J.D
  | [], _, _ => none
  | [a], e, S => if e = a.1 then a.2.prj S else none
  | a :: b :: l, e, S => if e = a.1 then (match a.2.prj S with | some x => some (.inl x) | none => none)
    else match Joins.prj (b :: l) e S with | some x => some (.inr x) | none => none
def Joins.inj : (J : Joins) → J.D → Tr (Ex × St)
  | [], x => nomatch x
  | [a], x => .ret (a.1, a.2.inj x)
  | a :: b :: l, s => .alt a.2.D (Joins.D (b :: l)) s (fun x => .ret (a.1, a.2.inj x)) (fun y => Joins.inj (b :: l) y)

def joined (J : Joins) (t : Tr (Ex × St)) : Tr (Ex × St) :=
  match J with
  | [] => t
  | a :: l => .get (Joins.D (a :: l)) (t.bind fun r => Tr.opt (Joins.prj (a :: l) r.1 r.2)).run (Joins.inj (a :: l))

inductive Ann where
  | nil
  | seq (a b : Ann)
  | cond (J : Joins) (a b : Ann)
  | block (J : Joins) (a : Ann)
  | loop (t : Tpl) (J : Joins) (a : Ann)
  | reg (J : Joins)

/-! ### regions -/
/-- the slot that a guard looks at -/
def gslot (ops : Array Oper) (j : Nat) : Option Nat := (ops[j]?).bind (·.dst)

structure Rec where
  o : Oper
  ins : List SV
  out : Out
  lg : List Lg

def dstOk (N : Nat) (o : Oper) : Bool := match o.dst with
  | some d => decide (d < N)
  | none => true
def runOp (E : Env) (N : Nat) (o : Oper) (S : St) : Tr (Out × List Lg) := (core E (opnd S) (o.dst.getD N) o.op).at S []

def noOut : Out := ⟨.un, [], []⟩
def recOf (o : Oper) (S : St) (r : Out × List Lg) : Rec := ⟨o, o.op.operands.toList.map (opnd S), r.1, r.2⟩
def skipRec (o : Oper) : Rec := ⟨o, [], noOut, []⟩
def yesT (E : Env) (N : Nat) (o : Oper) (S : St) : Tr (St × Rec) := (runOp E N o S).bind fun r => .ret (S.app o.dst r.1, recOf o S r)
def nayT (o : Oper) (S : St) : Tr (St × Rec) := .ret (S.app o.dst noOut, skipRec o)

/-- one operation, its guard looked at first -/
def stepT (E : Env) (N : Nat) (ops : Array Oper) (o : Oper) (S : St) : Tr (St × Rec) :=
  if dstOk N o then match o.guard with
    | none => yesT E N o S
    | some (j, want) => match gslot ops j with
      | some g => match S.sl g with
        | .s (.one (.v .bool b)) =>
          .br b (if want then yesT E N o (S.put g (.s (.one (.v .bool true)))) else nayT o (S.put g (.s (.one (.v .bool true)))))
            (if want then nayT o (S.put g (.s (.one (.v .bool false)))) else yesT E N o (S.put g (.s (.one (.v .bool false)))))
        | .un => nayT o S
        | _ => .fail
      | none => .fail
    else .fail

def regT (E : Env) (N : Nat) (ops : Array Oper) : List Oper → St → Tr St
  | [], S => .ret S
  | o :: os, S => (stepT E N ops o S).bind fun r => regT E N ops os r.1

def regR (E : Env) (N : Nat) (ops : Array Oper) : List Oper → St → List Rec → Tr (St × List Rec)
  | [], S, l => .ret (S, l.reverse)
  | o :: os, S, l => (stepT E N ops o S).bind fun r => regR E N ops os r.1 (r.2 :: l)

/-! ### may two operations change places? -/
def Leaf.safe (c : List Kl) : Leaf → Bool
  | .vw k st _ => c.all (fun x => x.okV k st)
  | _ => true
def S1.safe (c : List Kl) : S1 → Bool
  | .one l => l.safe c
  | .ag ls => ls.all (Leaf.safe c)
  | .pl k _ => c.all (fun x => x.okM k)
  | .el k st => c.all (fun x => x.okE k st)
  | .rp .. => true
def SV.safe (c : List Kl) : SV → Bool
  | .s x => x.safe c
  | .tu xs => xs.all (S1.safe c)
  | .un => true
  | .no => true
def U.safe (c : List Kl) : U → Bool
  | .mc _ _ l => l.safe c
  | .ms _ row => row.all (Leaf.safe c)
  | .ow .. => true
def Lg.safe (c : List Kl) : Lg → Bool
  | .c _ _ l => l.safe c
  | _ => true
/-- does a write hit what was read? -/
def U.hits : U → Lg → Bool
  | .ow k _, .o k' => k == k'
  | .mc k off _, .c k' off' _ => k == k' && off == off'
  | .ms k _, .c k' _ _ => k == k'
  | .ms k _, .m k' => k == k'
  | _, _ => false
def U.meets : U → U → Bool
  | .ow k _, .ow k' _ => k == k'
  | .mc k off _, .mc k' off' _ => k == k' && off == off'
  | .ms k _, .mc k' _ _ => k == k'
  | .mc k _ _, .ms k' _ => k == k'
  | .ms k _, .ms k' _ => k == k'
  | _, _ => false
def Leaf.whole : Leaf → Bool
  | .no => false
  | _ => true
def S1.whole : S1 → Bool
  | .one l => l.whole
  | .ag ls => ls.all Leaf.whole
  | _ => true
def SV.whole : SV → Bool
  | .s x => x.whole
  | .tu xs => xs.all S1.whole
  | .un => true
  | .no => false
def Lg.whole : Lg → Bool
  | .c _ _ l => l.whole
  | _ => true
def Rec.past (a b : Rec) : Bool :=
  (b.out.ks.isEmpty || (a.ins.all SV.whole && a.lg.all Lg.whole)) &&
  a.ins.all (SV.safe b.out.ks) && a.out.x.safe b.out.ks && a.lg.all (Lg.safe b.out.ks) && a.out.us.all (U.safe b.out.ks) &&
  a.lg.all (fun l => b.out.us.all fun u => !u.hits l)
def Rec.apart (a b : Rec) : Bool :=
  a.past b && b.past a && a.out.us.all (fun u => b.out.us.all fun u' => !u.meets u')

/-- of each operation what stands ahead of it in every order, as bits -/
def aheadOf (acc : List Nat) (o : Oper) : Nat := o.after.toList.foldl (fun m e => if Region.binds .any e then m ||| ((1 <<< e.on) ||| acc.getD e.on 0) else m) 0
def ahead : List Oper → List Nat → List Nat
  | [], acc => acc
  | o :: os, acc => ahead os (acc ++ [aheadOf acc o])
/-- what an operation waits for stands ahead of it -/
def backward : List Oper → Nat → Bool
  | [], _ => true
  | o :: os, n => o.after.toList.all (fun e => !Region.binds .any e || decide (e.on < n)) && backward os (n + 1)

def slotsOf (ops : Array Oper) (o : Oper) : List Nat :=
  o.op.operands.toList.filterMap (fun | .tmp t => some t | _ => none) ++ (match o.guard with | some (j, _) => (gslot ops j).toList | none => [])
/-- by their slots -/
def slotApart (ops : Array Oper) (a b : Oper) : Bool :=
  (match a.dst with | some d => !(slotsOf ops b).contains d && !(b.dst == some d) | none => true) &&
  (match b.dst with | some d => !(slotsOf ops a).contains d | none => true)

def pairsOk (ops : Array Oper) (b : List Nat) : List (Nat × Rec) → Bool
  | [] => true
  | (i, a) :: l => l.all (fun p => (b.getD p.1 0).testBit i || (slotApart ops a.o p.2.o && a.apart p.2)) && pairsOk ops b l

def numbered {β : Type} : List β → Nat → List (Nat × β)
  | [], _ => []
  | x :: l, n => (n, x) :: numbered l (n + 1)

def regionT (E : Env) (N : Nat) (ops : Array Oper) (draw : Bool) (S : St) : Tr St :=
  if draw then (regR E N ops ops.toList S []).bind fun r => if pairsOk ops (ahead ops.toList []) (numbered r.2 0) && backward ops.toList 0 then .ret r.1 else .fail
  else regT E N ops ops.toList S

/-! ### code -/
noncomputable def vcode (E : Env) (N : Nat) : Ann → Code → St → Tr (Ex × St)
  | _, .skip, S => .ret (.n, S)
  | .reg J, .region _ ops draw, S => joined J ((regionT E N ops draw S).bind fun S => .ret (.n, S))
  | _, .region _ ops draw, S => (regionT E N ops draw S).bind fun S => .ret (.n, S)
  | .seq x y, .seq a b, S => (vcode E N x a S).bind fun r => match r.1 with
    | .n => vcode E N y b r.2
    | e => .ret (e, r.2)
  | .nil, .seq a b, S => (vcode E N .nil a S).bind fun r => match r.1 with
    | .n => vcode E N .nil b r.2
    | e => .ret (e, r.2)
  | .cond J x y, .cond c a b, S => match opnd S c with
    | .s (.one (.v .bool c)) => joined J (.br c (vcode E N x a S) (vcode E N y b S))
    | _ => .fail
  | .nil, .cond c a b, S => match opnd S c with
    | .s (.one (.v .bool c)) => .br c (vcode E N .nil a S) (vcode E N .nil b S)
    | _ => .fail
  | .block J x, .block id a, S => joined J ((vcode E N x a S).bind fun r => .ret (if r.1 = .x id then .n else r.1, r.2))
  | .nil, .block id a, S => (vcode E N .nil a S).bind fun r => .ret (if r.1 = .x id then .n else r.1, r.2)
  | .loop t J x, .loop a, S => match t.prj S with
    | some x0 => .get (Joins.D J) (loopG (fun y : t.D => ((vcode E N x a (t.inj y)).bind fun r => match r.1 with
        | .n => Tr.opt (match t.prj r.2 with | some z => some (Sum.inl (β := Joins.D J) z) | none => none)
        | e => Tr.opt (match J.prj e r.2 with | some z => some (Sum.inr (α := t.D) z) | none => none)).run) x0) J.inj
    | none => .fail
  | _, .exit id, S => .ret (.x id, S)
  | _, .ret, S => .ret (.r, S)
  | _, _, _ => .fail

/-! ### functions -/
def blank : St := ⟨fun _ => .no, fun _ => none, fun _ _ => .no, fun _ => none⟩
def putSlots : List S1 → Nat → St → St
  | [], _, S => S
  | x :: xs, i, S => putSlots xs (i + 1) (S.put i (.s x))
/-- the state that a function begins in -/
def start (N : Nat) (as : List A1) (rows : List (List ALeaf)) : Option St :=
  match backVals ((List.range rows.length).map (N + 1 + ·)) (kd (N + 2) 0) as, backRows (kd (N + 2) 512) ((List.range rows.length).map (N + 1 + ·)) rows with
  | some vs, some rs => if unlike ((vs.2 ++ rs.2).map (·.1)) then some (putSlots vs.1 0 ((blank.ups (ownsU (vs.2 ++ rs.2))).ups (rs.1.map fun p => .ms p.1 p.2))) else none
  | _, _ => none

/-- a leaf that goes out: its owner is given up -/
def outLeaf (t : Ty) : Leaf → Tr (ALeaf × List Nat)
  | .v u x => .ret (⟨u, x⟩, [])
  | .nil => match t with
    | .sl _ e r => .ret (⟨.sl true e r, []⟩, [])
    | _ => .fail
  | .vw k [] win => (viewT k [] win).bind fun o => .ret (⟨.sl true o.e o.r, o.xs⟩, [k])
  | _ => .fail
def outLeaves : List Ty → List Leaf → Tr (List ALeaf × List Nat)
  | [], [] => .ret ([], [])
  | t :: ts, l :: ls => (outLeaf t l).bind fun x => (outLeaves ts ls).bind fun y => .ret (x.1 :: y.1, x.2 ++ y.2)
  | _, _ => .fail
def outVal (E : Env) (N M : Nat) (t : TypeId) : SV → Tr (A1 × List Nat)
  | .s (.one l) => (outLeaf ((((E.ti t).cells).getD []).headD .unit) l).bind fun x => .ret (.one x.1, x.2)
  | .s (.ag ls) => (outLeaves (((E.ti t).cells).getD []) ls).bind fun x => .ret (.ag x.1, x.2)
  | .s (.pl k off) => if N + 1 ≤ k ∧ k < N + 1 + M then .ret (.pl (k - (N + 1)) off, []) else .fail
  | _ => .fail
def outVals (E : Env) (N M : Nat) (S : St) : List ResultVar → List TypeId → Tr (List A1 × List Nat)
  | [], [] => .ret ([], [])
  | .tmp s :: rs, t :: ts => (outVal E N M t (S.sl s)).bind fun x => (outVals E N M S rs ts).bind fun y => .ret (x.1 :: y.1, x.2 ++ y.2)
  | .cell s t' :: rs, t :: ts => match S.sl s, (E.ti t').cells with
    | .s a, some cs => if cs.isEmpty then .fail else (if (E.ti t').isAgg then (ldCells a cs.length 0).bind fun ls => Tr.ret (SV.s (.ag ls)) else (ldCell a 0).bind fun l => Tr.ret (SV.s (.one l))).bind fun v =>
        (outVal E N M t v).bind fun x => (outVals E N M S rs ts).bind fun y => .ret (x.1 :: y.1, x.2 ++ y.2)
    | _, _ => .fail
  | _, _ => .fail
def outRow (k : Nat) : List ALeaf → Nat → Tr (List ALeaf × List Nat)
  | [], _ => .ret ([], [])
  | r :: rs, c => .rdC k c fun l => (outLeaf r.1 l).bind fun x => (outRow k rs (c + 1)).bind fun y => .ret (x.1 :: y.1, x.2 ++ y.2)
def outRows (N : Nat) : List (List ALeaf) → Nat → Tr (List (List ALeaf) × List Nat)
  | [], _ => .ret ([], [])
  | r :: rs, m => .rdM (N + 1 + m) fun n => if n = some r.length then (outRow (N + 1 + m) r 0).bind fun x => (outRows N rs (m + 1)).bind fun y => .ret (x.1 :: y.1, x.2 ++ y.2)
    else .fail

def finish (E : Env) (N : Nat) (fn : Func) (rows : List (List ALeaf)) (S : St) : Tr Res :=
  (((outVals E N rows.length S fn.results.toList fn.resultTypes.toList).bind fun v => (outRows N rows 0).bind fun r => Tr.ret (v, r)).at S []).bind fun p =>
    if unlike (p.1.1.2 ++ p.1.2.2) then .ret ⟨p.1.1.1, p.1.2.1⟩ else .fail

noncomputable def vfun (E : Env) (fn : Func) (J : Joins) (ann : Ann) (args : List A1) (rows : List (List ALeaf)) : Tr Res :=
  match fn.body with
  | some c => if args.length = fn.params.size ∧ args.length ≤ fn.ntmps then
      match start fn.ntmps args rows with
      | some S => (joined J (vcode E fn.ntmps ann c S)).bind fun r => match r.1 with
        | .x _ => .fail
        | _ => finish E fn.ntmps fn rows r.2
      | none => .fail
      else .fail
  | none => .fail

end Go.V
