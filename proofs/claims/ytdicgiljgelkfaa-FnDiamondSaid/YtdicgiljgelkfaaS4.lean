/-
  S4: the table of types against the program's; operands; the operations without memory.
-/
import Derived.Test.YtdicgiljgelkfaaS3
import Derived.Laws.Cells
import Derived.Laws.Concat
namespace Go.V
open Go.RowKit

/-! ### the table -/
def zeroV : Ty → Value
  | .int k => .int k 0
  | .bool => .bool false
  | .str => .string ⟨#[]⟩
  | _ => .slice none 0 0
/-- is it that zero value? -/
def zeroIs : Ty → Value → Bool
  | .int k, .int k' n => k == k' && n == 0
  | .bool, .bool b => !b
  | .str, .string s => s.data.isEmpty
  | .sl _ _ _, .slice none 0 0 => true
  | _, _ => false
theorem zeroIs_eq {t : Ty} {v : Value} (h : zeroIs t v = true) : v = zeroV t ∧ t.size = 1 ∧ ∀ a b, t ≠ .pair a b := by
  unfold zeroIs at h
  split at h
  · simp only [Bool.and_eq_true, beq_iff_eq] at h
    obtain ⟨rfl, rfl⟩ := h
    exact ⟨rfl, rfl, by simp⟩
  · rename_i b
    cases b
    · exact ⟨rfl, rfl, by simp⟩
    · cases h
  · rename_i s
    obtain ⟨d⟩ := s
    simp only [Array.isEmpty_iff] at h
    subst h
    exact ⟨rfl, rfl, by simp⟩
  · exact ⟨rfl, rfl, by simp⟩
  · cases h
def zerosAre : List Ty → List Value → Bool
  | [], [] => true
  | t :: ts, v :: vs => zeroIs t v && zerosAre ts vs
  | _, _ => false
theorem zerosAre_eq : ∀ {ts : List Ty} {vs : List Value}, zerosAre ts vs = true → vs = ts.map zeroV ∧ ∀ t ∈ ts, t.size = 1 ∧ ∀ a b, t ≠ .pair a b
  | [], [], _ => ⟨rfl, by simp⟩
  | t :: ts, v :: vs, h => by
    simp only [zerosAre, Bool.and_eq_true] at h
    obtain ⟨h1, h2⟩ := zeroIs_eq h.1
    obtain ⟨h3, h4⟩ := zerosAre_eq h.2
    refine ⟨by rw [h1, h3]; rfl, ?_⟩
    intro u hu
    rcases List.mem_cons.1 hu with rfl | hu
    · exact h2
    · exact h4 u hu
  | [], _ :: _, h => by simp [zerosAre] at h
  | _ :: _, [], h => by simp [zerosAre] at h

def descIs : Ty → TypeDesc → Bool
  | .int k, .int k' => k == k'
  | .bool, .bool => true
  | .str, .string => true
  | _, _ => false
def isAggD : TypeDesc → Bool
  | .struct _ | .array _ _ => true
  | _ => false
def fieldsAre (P : Program) : List (Nat × Nat × Bool) → List Field → Bool
  | [], [] => true
  | (o, n, ag) :: fs, f :: gs => f.offset == o && !(n == 0) && (match P.info? f.type with | some i => i.size == n | none => false) &&
      (match P.underlying f.type with | some d => isAggD d == ag | none => false) && fieldsAre P fs gs
  | _, _ => false
/-- '==' of such structs is known -/
def eqAre (P : Program) : List Ty → List Field → Bool
  | [], [] => true
  | t :: ts, f :: gs => !(f.name == "_") && (match P.underlying f.type with | some d => descIs t d | none => false) && eqAre P ts gs
  | _, _ => false
def offsAre : List (Nat × Nat × Bool) → Nat → Bool
  | [], _ => true
  | (o, n, ag) :: fs, i => o == i && n == 1 && !ag && offsAre fs (i + 1)

def tyOk (P : Program) (t : TypeId) : TI → Bool
  | .cell u => (match P.underlying t with | some d => descIs u d | none => false) &&
      (match P.info? t with | some i => i.size == 1 && (match i.zero with | some z => zeroIs u z | none => false) | none => false)
  | .slice e ts bytes => (match P.underlying t with | some (.slice e') => e == e' | _ => false) &&
      (match P.info? t with | some i => i.size == 1 && (match i.zero with | some z => zeroIs (.sl true 0 .unit) z | none => false) | none => false) &&
      (match P.info? e with | some i => i.size == ts.length && i.bytes == bytes && !(bytes == 0) && !(ts.isEmpty) && (match i.zero with | some z => zerosAre ts z.cells.toList && !(ts.length == 1 && isAggD ((P.underlying e).getD .invalid) && false) | none => false) | none => false)
  | .struct fs row eq => (match P.underlying t with
      | some (.struct fields) => fieldsAre P fs fields.toList && (!eq || (eqAre P row fields.toList && offsAre fs 0 && !P.stoodInHeld t && !P.eqGuardType P.depth t))
      | _ => false) &&
      (match P.info? t with | some i => i.size == row.length && (match i.zero with | some (.agg cs) => zerosAre row cs.toList | _ => false) | none => false)
  | .ptr e => (match P.underlying t with | some (.pointer e') => e == e' | _ => false)
  | .other => true

def TabOk (P : Program) (ti : TypeId → TI) : Prop := ∀ t, tyOk P t (ti t) = true

section
variable {P : Program} {ti : TypeId → TI} (h : TabOk P ti) {t : TypeId}
include h
theorem TabOk.cell {u : Ty} (ht : ti t = .cell u) : (∃ d, P.underlying t = some d ∧ descIs u d = true) ∧ ∃ i, P.info? t = some i ∧ i.size = 1 ∧ i.zero = some (zeroV u) ∧ u.size = 1 := by
  have := h t
  rw [ht] at this
  simp only [tyOk, Bool.and_eq_true] at this
  obtain ⟨h1, h2⟩ := this
  split at h1
  · rename_i d hd
    refine ⟨⟨d, hd, h1⟩, ?_⟩
    split at h2
    · rename_i i hi
      simp only [Bool.and_eq_true, beq_iff_eq] at h2
      obtain ⟨h3, h4⟩ := h2
      split at h4
      · rename_i z hz; exact ⟨i, hi, h3, by rw [hz, (zeroIs_eq h4).1], (zeroIs_eq h4).2.1⟩
      · cases h4
    · cases h2
  · cases h1
theorem TabOk.slice {e : TypeId} {ts : List Ty} {bytes : Nat} (ht : ti t = .slice e ts bytes) : P.underlying t = some (.slice e) ∧ (∃ i, P.info? t = some i ∧ i.size = 1 ∧ i.zero = some (.slice none 0 0)) ∧
    0 < bytes ∧ 0 < ts.length ∧ ∃ i z, P.info? e = some i ∧ i.size = ts.length ∧ i.bytes = bytes ∧ i.zero = some z ∧ z.cells.toList = ts.map zeroV ∧ ∀ t ∈ ts, t.size = 1 ∧ ∀ a b, t ≠ .pair a b := by
  have := h t
  rw [ht] at this
  simp only [tyOk, Bool.and_eq_true] at this
  obtain ⟨⟨h1, h2⟩, h3⟩ := this
  refine ⟨?_, ?_, ?_⟩
  · split at h1
    · rename_i e' he; simp only [beq_iff_eq] at h1; rw [he, h1]
    · cases h1
  · split at h2
    · rename_i i hi
      simp only [Bool.and_eq_true, beq_iff_eq] at h2
      obtain ⟨h4, h5⟩ := h2
      split at h5
      · rename_i z hz; exact ⟨i, hi, h4, by rw [hz, (zeroIs_eq h5).1]; rfl⟩
      · cases h5
    · cases h2
  · split at h3
    · rename_i i hi
      simp only [Bool.and_eq_true, beq_iff_eq, Bool.not_eq_true', beq_eq_false_iff_ne] at h3
      obtain ⟨⟨⟨⟨h4, h5⟩, h6⟩, h7⟩, h8⟩ := h3
      split at h8
      · rename_i z hz
        simp only [Bool.and_eq_true] at h8
        obtain ⟨h9, h10⟩ := zerosAre_eq h8.1
        refine ⟨by omega, ?_, i, z, hi, h4, h5, hz, h9, h10⟩
        cases ts with
        | nil => simp at h7
        | cons a b => simp
      · cases h8
    · cases h3
theorem TabOk.struct {fs : List (Nat × Nat × Bool)} {row : List Ty} {eq : Bool} (ht : ti t = .struct fs row eq) : ∃ fields, P.underlying t = some (.struct fields) ∧ fieldsAre P fs fields.toList = true ∧
    (eq = true → eqAre P row fields.toList = true ∧ offsAre fs 0 = true ∧ P.stoodInHeld t = false ∧ P.eqGuardType P.depth t = false) ∧
    ∃ i, P.info? t = some i ∧ i.size = row.length ∧ i.zero = some (.agg (row.map zeroV).toArray) ∧ ∀ t ∈ row, t.size = 1 ∧ ∀ a b, t ≠ .pair a b := by
  have := h t
  rw [ht] at this
  simp only [tyOk, Bool.and_eq_true] at this
  obtain ⟨h1, h2⟩ := this
  split at h1
  · rename_i fields hf
    simp only [Bool.and_eq_true, Bool.or_eq_true, Bool.not_eq_true'] at h1
    refine ⟨fields, hf, h1.1, ?_, ?_⟩
    · intro he
      rcases h1.2 with h3 | h3
      · rw [he] at h3; cases h3
      · exact ⟨h3.1.1.1, h3.1.1.2, h3.1.2, h3.2⟩
    · split at h2
      · rename_i i hi
        simp only [Bool.and_eq_true, beq_iff_eq] at h2
        obtain ⟨h4, h5⟩ := h2
        split at h5
        · rename_i cs hz
          obtain ⟨h6, h7⟩ := zerosAre_eq h5
          refine ⟨i, hi, h4, ?_, h7⟩
          rw [hz, ← h6]
        · cases h5
      · cases h2
  · cases h1
theorem TabOk.ptr {e : TypeId} (ht : ti t = .ptr e) : P.underlying t = some (.pointer e) := by
  have := h t
  rw [ht] at this
  simp only [tyOk] at this
  split at this
  · rename_i e' he; simp only [beq_iff_eq] at this; rw [he, this]
  · cases this
end

/-! ### answers at a state -/
def Tr.ev {α : Type} (S : St) : Tr α → Option α
  | .ret a => some a
  | .fail => none
  | .br c t e => if c = true then t.ev S else e.ev S
  | .get _ o f => o.bind fun b => (f b).ev S
  | .alt _ _ s f g => match s with
    | .inl b => (f b).ev S
    | .inr b => (g b).ev S
  | .rdO k f => (f (S.ow k)).ev S
  | .rdC k off f => (f (S.mc k off)).ev S
  | .rdM k f => (f (S.ms k)).ev S

theorem ev_bind {α β : Type} (S : St) (t : Tr α) (f : α → Tr β) : (t.bind f).ev S = (t.ev S).bind fun x => (f x).ev S := by
  induction t with
  | ret a => rfl
  | fail => rfl
  | br c t e ih1 ih2 => simp only [Tr.bind, Tr.ev]; split <;> assumption
  | get γ o g ih => cases o <;> simp [Tr.bind, Tr.ev, ih]
  | alt γ δ s g h ih1 ih2 => cases s <;> simp [Tr.bind, Tr.ev, ih1, ih2]
  | rdO k g ih => simp [Tr.bind, Tr.ev, ih]
  | rdC k off g ih => simp [Tr.bind, Tr.ev, ih]
  | rdM k g ih => simp [Tr.bind, Tr.ev, ih]
theorem at_ev {α : Type} (S : St) (t : Tr α) : ∀ (g : List Lg) {x : α} {l : List Lg}, (t.at S g).run = some (x, l) → t.ev S = some x := by
  induction t with
  | ret a => intro g x l h; simp only [Tr.at, Tr.run, Option.some.injEq, Prod.mk.injEq] at h; simp [Tr.ev, h.1]
  | fail => intro g x l h; simp [Tr.at, Tr.run] at h
  | br c t e ih1 ih2 =>
    intro g x l h
    simp only [Tr.at, Tr.run] at h
    simp only [Tr.ev]
    split at h
    · rename_i hc; rw [if_pos hc]; exact ih1 g h
    · rename_i hc; rw [if_neg hc]; exact ih2 g h
  | get γ o f ih =>
    intro g x l h
    simp only [Tr.at, run_get, Option.bind_eq_some_iff] at h
    obtain ⟨b, hb, h⟩ := h
    simp only [Tr.ev, hb, Option.bind_some]
    exact ih b g h
  | alt γ δ s f f' ih1 ih2 =>
    intro g x l h
    cases s with
    | inl b => exact ih1 b g h
    | inr b => exact ih2 b g h
  | rdO k f ih => intro g x l h; exact ih _ _ h
  | rdC k off f ih => intro g x l h; exact ih _ _ h
  | rdM k f ih => intro g x l h; exact ih _ _ h
theorem ev_iff {α : Type} {S : St} {c : Bool} {t : Tr α} {a : α} (h : (Tr.iff c t).ev S = some a) : c = true ∧ t.ev S = some a := by
  simp only [Tr.ev] at h
  split at h
  · exact ⟨by assumption, h⟩
  · cases h
theorem ev_get {S : St} : ∀ (st : Steps) (t : Ty) (x : t.D), (getT t x st).ev S = (getT t x st).run
  | [], _, _ => rfl
  | (i, j) :: ps, t, x => by
    match t, x with
    | .sl true e r, xs =>
      simp only [getT, Tr.ev, run_get]
      congr 1; funext row
      split
      · rename_i d _; exact ev_get ps d.1 d.2
      · rfl
    | .sl false _ _, _ => rfl
    | .int _, _ => rfl
    | .bool, _ => rfl
    | .str, _ => rfl
    | .unit, _ => rfl
    | .pair _ _, _ => rfl
theorem ev_set {S : St} : ∀ (st : Steps) (t : Ty) (x : t.D) (u : Ty) (z : u.D), (setT t x st u z).ev S = (setT t x st u z).run
  | [], t, x, u, z => by simp only [setT]; split <;> rfl
  | (i, j) :: ps, t, x, u, z => by
    match t, x with
    | .sl true e r, xs =>
      simp only [setT, Tr.ev, run_get]
      congr 1; funext row
      split
      · rename_i d _
        rw [ev_bind, run_bind, ev_set ps d.1 d.2 u z]
        congr 1; funext y
        split <;> rfl
      · rfl
    | .sl false _ _, _ => rfl
    | .int _, _ => rfl
    | .bool, _ => rfl
    | .str, _ => rfl
    | .unit, _ => rfl
    | .pair _ _, _ => rfl

/-! ### operands -/
theorem str_eta (s : ByteArray) : (⟨s.data.toList.toArray⟩ : ByteArray) = s := by cases s; simp

theorem const_ok {S : St} {c : Cc} {w : World} {K : Nat → Prop} (v : Value) : SVOk S c w K (constSV v) v := by
  unfold constSV
  split
  · simp [SVOk, S1Ok, LeafOk, Rp]
  · simp [SVOk, S1Ok, LeafOk, Rp]
  · rename_i s; simp [SVOk, S1Ok, LeafOk, Rp]
  · simp [SVOk, S1Ok, LeafOk]
  · trivial
theorem opnd_ok {N : Nat} {S : St} {c : Cc} {w : World} {K : Nat → Prop} {a : Act} (hs : Slots N S c w K a) (x : Operand) : SVOk S c w K (opnd S x) (a.eval x) := by
  cases x with
  | tmp t => exact hs.ok t
  | const v => exact const_ok v
  | global g => trivial
  | func f => trivial

/-- every cell's value is one cell -/
theorem Rp.one {w : World} {K : Nat → Prop} : ∀ (t : Ty) (x : t.D) {vs F}, Rp w K t x vs F → ∀ v ∈ vs, v.oneCell' = true
  | .int _, _, _, _, h => by simp only [Rp] at h; simp [h.1, Value.oneCell']
  | .bool, _, _, _, h => by simp only [Rp] at h; simp [h.1, Value.oneCell']
  | .str, _, _, _, h => by simp only [Rp] at h; simp [h.1, Value.oneCell']
  | .unit, _, _, _, h => by simp only [Rp] at h; simp [h.1]
  | .pair a b, x, _, _, h => by
    simp only [Rp] at h
    obtain ⟨v1, v2, F1, F2, rfl, _, h1, h2⟩ := h
    intro v hv
    rcases List.mem_append.1 hv with hv | hv
    · exact Rp.one a _ h1 v hv
    · exact Rp.one b _ h2 v hv
  | .sl true _ r, _, _, _, h => by
    simp only [Rp] at h
    rcases h with ⟨_, _, rfl⟩ | ⟨g, off, c, cs, fr, F', rfl, _⟩ <;> simp [Value.oneCell']
  | .sl false _ r, _, _, _, h => by
    simp only [Rp] at h
    obtain ⟨_, A, c, ws, rfl, _⟩ := h
    simp [Value.oneCell']

theorem own_slice {w : World} {K : Nat → Prop} {e : TypeId} {r : Ty} {xs : List r.D} {h : Value} {F : List Nat} (hp : Rp w K (.sl true e r) xs [h] F) : ∃ A cap, h = .slice A xs.length cap ∧ (A = none → xs = [] ∧ cap = 0 ∧ F = []) := by
  simp only [Rp] at hp
  rcases hp with ⟨rfl, rfl, h1⟩ | ⟨g, off, cap, cs, fr, F', h1, _⟩
  · injection h1 with h1; exact ⟨none, 0, h1, fun _ => ⟨rfl, rfl, rfl⟩⟩
  · injection h1 with h1; exact ⟨_, cap, h1, fun h => by cases h⟩

theorem win_slice {size len : Nat} {win : Option (Nat × Nat)} {A : Option Addr} {cap : Nat} {v : Value} (h : WinOk size len win (.slice A len cap) v) : ∃ A' n cap', v = .slice A' n cap' := by
  cases win with
  | none => exact ⟨A, len, cap, h⟩
  | some p =>
    obtain ⟨lo, m⟩ := p
    obtain ⟨A0, n0, cap0, A', cap', q, _, h2, _⟩ := h
    exact ⟨A', _, cap', h2⟩

theorem vw_slice {b : Base} {S : St} {c : Cc} {w : World} {K : Nat → Prop} (hi : Inv b S w c) {k : Nat} {st : Steps} {win : Option (Nat × Nat)} {v : Value} (h : LeafOk S c w K (.vw k st win) v) : ∃ A n cap, v = .slice A n cap := by
  obtain ⟨o, e, r, ys, hd, ho, hg, hh, hw⟩ := h
  obtain ⟨h', F', h1, h2, _⟩ := Rp.reach st _ _ (hi.ow k o ho) hg
  rw [hh] at h1
  injection h1 with h1
  subst h1
  obtain ⟨A, cap, rfl, _⟩ := own_slice h2
  exact win_slice hw
theorem leaf_one {b : Base} {S : St} {c : Cc} {w : World} {K : Nat → Prop} (hi : Inv b S w c) {l : Leaf} {v : Value} (h : LeafOk S c w K l v) (hl : l.is = true) : v.oneCell' = true := by
  cases l with
  | v t x => exact Rp.one t x h v (by simp)
  | vw k st win => obtain ⟨A, n, cap, rfl⟩ := vw_slice hi h; rfl
  | nil => rw [show v = .slice none 0 0 from h]; rfl
  | no => cases hl
theorem one_cells {v : Value} (h : v.oneCell' = true) : v.cells = #[v] := by cases v <;> first | rfl | (simp [Value.oneCell'] at h)

/-- the leaves of an operand are its cells -/
theorem leaves_ok {b : Base} {S : St} {c : Cc} {w : World} {K : Nat → Prop} (hi : Inv b S w c) {x : SV} {v : Value} {ls : List Leaf} (hx : SVOk S c w K x v) (hl : leaves x = some ls) :
    ∃ vs : List Value, v.cells = vs.toArray ∧ All2 (LeafOk S c w K) ls vs ∧ (∀ u ∈ vs, u.oneCell' = true) := by
  match x, hx, hl with
  | .s (.one l), hx, hl =>
    simp only [leaves] at hl
    split at hl
    · rename_i hl'
      injection hl with hl
      subst hl
      have := leaf_one hi hx hl'
      exact ⟨[v], one_cells this, .cons hx .nil, by simpa using this⟩
    · cases hl
  | .s (.ag ls'), hx, hl =>
    simp only [leaves] at hl
    split at hl
    · rename_i hl'
      injection hl with hl
      subst hl
      obtain ⟨vs, rfl, hv⟩ := hx
      refine ⟨vs, rfl, hv, ?_⟩
      intro u hu
      have key : ∀ (ls : List Leaf) (vs : List Value), All2 (LeafOk S c w K) ls vs → ls.all Leaf.is = true → ∀ u ∈ vs, u.oneCell' = true := by
        intro ls vs h
        induction h with
        | nil => intro _ u hu; cases hu
        | cons h1 _ ih =>
          intro hall u hu
          simp only [List.all_cons, Bool.and_eq_true] at hall
          rcases List.mem_cons.1 hu with rfl | hu
          · exact leaf_one hi h1 hall.1
          · exact ih hall.2 u hu
      exact key _ _ hv hl' u hu
    · cases hl
  | .s (.pl ..), _, hl => simp [leaves] at hl
  | .s (.el ..), _, hl => simp [leaves] at hl
  | .s (.rp ..), _, hl => simp [leaves] at hl
  | .tu _, _, hl => simp [leaves] at hl
  | .un, _, hl => simp [leaves] at hl
  | .no, _, hl => simp [leaves] at hl

#print axioms leaves_ok
#print axioms TabOk.struct
end Go.V
