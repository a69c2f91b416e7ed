/-
  S2: what it means that a world, with the slots of a call, is in a state: 'Inv', 'Sim'; how it is kept.
-/
import Derived.Test.YtdicgiljgelkfaaS1
import Derived.Below
namespace Go.V
open Go.RowKit

/-- what a call begins with: the world; the blocks of what is only read; the blocks that are handed over -/
structure Base where
  w0 : World
  Ro : Nat → Prop
  O0 : Nat → Prop
  n1 : Nat
  ms : List Nat

/-- where a state's keys lie -/
structure Cc where
  mb : Nat → Nat
  hv : Nat → Value
  F : Nat → List Nat

def Owned (S : St) (c : Cc) (g : Nat) : Prop := (∃ k, S.ms k ≠ none ∧ c.mb k = g) ∨ (∃ k, S.ow k ≠ none ∧ g ∈ c.F k)
/-- what may be read by anyone -/
def Kok (b : Base) (S : St) (c : Cc) (g : Nat) : Prop := (b.Ro g ∨ b.w0.heap.size ≤ g) ∧ ¬ Owned S c g

def WinOk (size len : Nat) (win : Option (Nat × Nat)) (h v : Value) : Prop :=
  match win with
  | none => v = h
  | some (lo, m) => ∃ A n cap A' cap' q, h = .slice A n cap ∧ v = .slice A' (min m (len - lo)) cap' ∧ min m (len - lo) ≤ cap' ∧ q + cap' ≤ cap ∧ (0 < min m (len - lo) → q = lo) ∧
      (A = none → A' = none ∧ cap' = 0) ∧ ∀ a, A = some a → A' = some (a.add (q * size))

def LeafOk (S : St) (c : Cc) (w : World) (K : Nat → Prop) : Leaf → Value → Prop
  | .v t x, v => Rp w K t x [v] []
  | .vw k st win, v => ∃ (o : Own) (e : TypeId) (r : Ty) (ys : List r.D) (h : Value), S.ow k = some o ∧ (getT (.sl true o.e o.r) o.xs st).run = some ⟨.sl true e r, ys⟩ ∧
      hdr w (c.hv k) (.sl true o.e o.r) st = some h ∧ WinOk r.size ys.length win h v
  | .nil, v => v = .slice none 0 0
  | .no, _ => True

inductive All2 {α β : Type} (p : α → β → Prop) : List α → List β → Prop
  | nil : All2 p [] []
  | cons {a b as bs} : p a b → All2 p as bs → All2 p (a :: as) (b :: bs)

def S1Ok (S : St) (c : Cc) (w : World) (K : Nat → Prop) : S1 → Value → Prop
  | .one l, v => LeafOk S c w K l v
  | .ag ls, v => ∃ vs : List Value, v = .agg vs.toArray ∧ All2 (LeafOk S c w K) ls vs
  | .pl k off, v => ∃ n, S.ms k = some n ∧ v = .pointer (some ⟨c.mb k, off, none⟩)
  | .el k st, v => ∃ (o : Own) (a : Addr), S.ow k = some o ∧ adr w (c.hv k) (.sl true o.e o.r) st = some a ∧ v = .pointer (some a) ∧
      ∃ (pre : Steps) (p : Nat × Nat) (d : (u : Ty) × u.D), st = pre ++ [p] ∧ (getT (.sl true o.e o.r) o.xs pre).run = some d
  | .rp t x off, v => ∃ (a : Addr) (vs : List Value), v = .pointer (some (a.add off)) ∧ Rp w K t x vs [] ∧ K a.block ∧ a.block < w.heap.size ∧ ∀ j, j < vs.length → w.cell? (a.add j) = vs[j]?

def SVOk (S : St) (c : Cc) (w : World) (K : Nat → Prop) : SV → Value → Prop
  | .s x, v => S1Ok S c w K x v
  | .tu xs, v => ∃ vs : List Value, v = .tuple vs.toArray ∧ All2 (S1Ok S c w K) xs vs
  | .un, v => v = undef
  | .no, _ => True

structure Inv (b : Base) (S : St) (w : World) (c : Cc) : Prop where
  ms : ∀ k n, S.ms k = some n → ∃ cs e fr, w.heap[c.mb k]? = some (.cells cs e fr) ∧ cs.size = n ∧ NF fr cs.size ∧ ∀ i v, cs[i]? = some v → LeafOk S c w (Kok b S c) (S.mc k i) v
  ow : ∀ k o, S.ow k = some o → Rp w (Kok b S c) (.sl true o.e o.r) o.xs [c.hv k] (c.F k)
  nd : ∀ k, S.ow k ≠ none → (c.F k).Nodup
  oo : ∀ k k', k ≠ k' → S.ow k ≠ none → S.ow k' ≠ none → ∀ g, g ∈ c.F k → g ∉ c.F k'
  mm : ∀ k k', k ≠ k' → S.ms k ≠ none → S.ms k' ≠ none → c.mb k ≠ c.mb k'
  mo : ∀ k k', S.ms k ≠ none → S.ow k' ≠ none → c.mb k ∉ c.F k'
  fr : ∀ g, Owned S c g → g < w.heap.size ∧ (b.w0.heap.size ≤ g ∨ b.O0 g)
  fix : ∀ g, g < b.w0.heap.size → ¬ b.O0 g → w.heap[g]? = b.w0.heap[g]?
  os : w.os = b.w0.os
  tape : w.tape = b.w0.tape
  output : w.output = b.w0.output
  size : b.w0.heap.size ≤ w.heap.size
  an : ∀ m g, b.ms[m]? = some g → c.mb (b.n1 + m) = g

structure Slots (N : Nat) (S : St) (c : Cc) (w : World) (K : Nat → Prop) (a : Act) : Prop where
  ok : ∀ i, SVOk S c w K (S.sl i) (a.tmps.getD i undef)
  n : a.tmps.size = N
  d : a.defers = []

/-- the world and the slots are in state S -/
def Sim (b : Base) (N : Nat) (S : St) (a : Act) (w : World) : Prop := ∃ c, Inv b S w c ∧ Slots N S c w (Kok b S c) a

/-! ### lists side by side -/
section
variable {α β γ : Type} {p : α → β → Prop}
theorem All2.mono {q : α → β → Prop} {as bs} (h : ∀ a b, p a b → q a b) (hx : All2 p as bs) : All2 q as bs := by
  induction hx with
  | nil => exact .nil
  | cons h1 _ ih => exact .cons (h _ _ h1) ih
theorem All2.map {f : α → γ} {q : γ → β → Prop} {as bs} (h : ∀ a b, p a b → q (f a) b) (hx : All2 p as bs) : All2 q (as.map f) bs := by
  induction hx with
  | nil => exact .nil
  | cons h1 _ ih => exact .cons (h _ _ h1) ih
theorem All2.len {as bs} (hx : All2 p as bs) : as.length = bs.length := by
  induction hx with
  | nil => rfl
  | cons _ _ ih => simp [ih]
theorem All2.get {as bs} (hx : All2 p as bs) : ∀ {i : Nat} {a}, as[i]? = some a → ∃ b, bs[i]? = some b ∧ p a b := by
  induction hx with
  | nil => intro i a h; simp at h
  | cons h1 _ ih =>
    intro i a h
    cases i with
    | zero => simp only [List.getElem?_cons_zero, Option.some.injEq] at h; subst h; exact ⟨_, rfl, h1⟩
    | succ i => simp only [List.getElem?_cons_succ] at h ⊢; exact ih h
theorem All2.append {as bs as' bs'} (hx : All2 p as bs) (hy : All2 p as' bs') : All2 p (as ++ as') (bs ++ bs') := by
  induction hx with
  | nil => exact hy
  | cons h1 _ ih => exact .cons h1 ih
theorem All2.take {as bs} (hx : All2 p as bs) : ∀ n, All2 p (as.take n) (bs.take n) := by
  induction hx with
  | nil => intro n; simp; exact .nil
  | cons h1 _ ih =>
    intro n
    cases n with
    | zero => exact .nil
    | succ n => exact .cons h1 (ih n)
theorem All2.drop {as bs} (hx : All2 p as bs) : ∀ n, All2 p (as.drop n) (bs.drop n) := by
  induction hx with
  | nil => intro n; simp; exact .nil
  | cons h1 h2 ih =>
    intro n
    cases n with
    | zero => exact .cons h1 h2
    | succ n => exact ih n
theorem All2.set {as bs} (hx : All2 p as bs) : ∀ (n : Nat) {a b}, p a b → All2 p (as.set n a) (bs.set n b) := by
  induction hx with
  | nil => intro n _ _ _; exact .nil
  | cons h1 h2 ih =>
    intro n _ _ h
    cases n with
    | zero => exact .cons h h2
    | succ n => exact .cons h1 (ih n h)
end

/-! ### steps of the world -/
/-- nothing turns but what may -/
structure Step (w w' : World) (T : Nat → Prop) : Prop where
  os : w'.os = w.os
  tape : w'.tape = w.tape
  output : w'.output = w.output
  size : w.heap.size ≤ w'.heap.size
  same : ∀ g, g < w.heap.size → ¬ T g → w'.heap[g]? = w.heap[g]?
theorem Step.refl (w : World) (T : Nat → Prop) : Step w w T := ⟨rfl, rfl, rfl, Nat.le_refl _, fun _ _ _ => rfl⟩
theorem Step.mono {w w' : World} {T T' : Nat → Prop} (h : Step w w' T) (ht : ∀ g, T g → T' g) : Step w w' T' := ⟨h.os, h.tape, h.output, h.size, fun g hg hn => h.same g hg fun x => hn (ht g x)⟩
theorem Step.trans {w w1 w2 : World} {T : Nat → Prop} (h : Step w w1 T) (k : Step w1 w2 T) : Step w w2 T :=
  ⟨k.os.trans h.os, k.tape.trans h.tape, k.output.trans h.output, Nat.le_trans h.size k.size, fun g hg hn => (k.same g (Nat.lt_of_lt_of_le hg h.size) hn).trans (h.same g hg hn)⟩

/-! ### what stays -/
theorem adr_same {w w' : World} {K : Nat → Prop} : ∀ (st : Steps) (t : Ty) (x : t.D) {h : Value} {F : List Nat} {c : (u : Ty) × u.D}, Rp w K t x [h] F → Same w w' F → (getT t x st).run = some c → adr w' h t st = adr w h t st
  | [], t, x, h, F, c, _, _, _ => by cases t <;> rfl
  | (i, j) :: ps, t, x, h, F, c, hp, hs, hg => by
    match t, x, hp, hg with
    | .sl true e r, xs, hp, hg =>
      obtain ⟨row, d, hrow, hd, hrest⟩ := getT_run_cons hg
      obtain ⟨g, off, cap, cs, fr, v, F1, Fa, G, Fb, F2, rfl, rfl, hh, hn, _, _, hcell, hlt, hv, _⟩ := Rp.elem hp hrow hd
      have hh' : w'.heap[g]? = some (.cells cs e fr) := by rw [hs g (by simp)]; exact hh
      have h1 : w.cell? ⟨g, off + (i * r.size + j), none⟩ = some v := by rw [cell_blk hh]; exact hcell
      have h2 : w'.cell? ⟨g, off + (i * r.size + j), none⟩ = some v := by rw [cell_blk hh']; exact hcell
      cases ps with
      | nil => simp only [adr]
      | cons p ps =>
        simp only [adr, add_blk, h1, h2, cty_cell r row j hd]
        exact adr_same (p :: ps) d.1 d.2 hv (fun g hg => hs g (by simp [hg])) hrest
    | .sl false _ _, _, _, hg => simp [getT, Tr.run] at hg
    | .int _, _, _, hg => simp [getT, Tr.run] at hg
    | .bool, _, _, hg => simp [getT, Tr.run] at hg
    | .str, _, _, hg => simp [getT, Tr.run] at hg
    | .unit, _, _, hg => simp [getT, Tr.run] at hg
    | .pair _ _, _, _, hg => simp [getT, Tr.run] at hg

theorem hdr_same {w w' : World} {K : Nat → Prop} {st : Steps} {t : Ty} {x : t.D} {h : Value} {F : List Nat} {c : (u : Ty) × u.D} (hp : Rp w K t x [h] F) (hs : Same w w' F) (hg : (getT t x st).run = some c) : hdr w' h t st = hdr w h t st := by
  cases st with
  | nil => rfl
  | cons p ps =>
    obtain ⟨h', F', _, _, _, _, hne⟩ := Rp.reach (p :: ps) t x hp hg
    obtain ⟨a, ha, hc, hb, _, _⟩ := hne (by simp)
    simp only [hdr, adr_same (p :: ps) t x hp hs hg, ha]
    exact cell_same (hs _ hb)

theorem adr_same' {w w' : World} {K : Nat → Prop} : ∀ (st : Steps) (t : Ty) (x : t.D) {h : Value} {F : List Nat} {c : (u : Ty) × u.D} (p : Nat × Nat), Rp w K t x [h] F → Same w w' F → (getT t x st).run = some c → adr w' h t (st ++ [p]) = adr w h t (st ++ [p])
  | [], t, x, h, F, c, p, _, _, _ => adr_one
  | (i, j) :: ps, t, x, h, F, c, p, hp, hs, hg => by
    match t, x, hp, hg with
    | .sl true e r, xs, hp, hg =>
      obtain ⟨row, d, hrow, hd, hrest⟩ := getT_run_cons hg
      obtain ⟨g, off, cap, cs, fr, v, F1, Fa, G, Fb, F2, rfl, rfl, hh, hn, _, _, hcell, hlt, hv, _⟩ := Rp.elem hp hrow hd
      have hh' : w'.heap[g]? = some (.cells cs e fr) := by rw [hs g (by simp)]; exact hh
      have h1 : w.cell? ⟨g, off + (i * r.size + j), none⟩ = some v := by rw [cell_blk hh]; exact hcell
      have h2 : w'.cell? ⟨g, off + (i * r.size + j), none⟩ = some v := by rw [cell_blk hh']; exact hcell
      have ih := adr_same' ps d.1 d.2 p hv (fun g hg => hs g (by simp [hg])) hrest
      cases ps with
      | nil =>
        simp only [List.nil_append] at ih
        simp only [List.cons_append, List.nil_append, adr, add_blk, h1, h2, cty_cell r row j hd]; exact ih
      | cons q ps =>
        simp only [List.cons_append] at ih
        simp only [List.cons_append, adr, add_blk, h1, h2, cty_cell r row j hd]; exact ih
    | .sl false _ _, _, _, hg => simp [getT, Tr.run] at hg
    | .int _, _, _, hg => simp [getT, Tr.run] at hg
    | .bool, _, _, hg => simp [getT, Tr.run] at hg
    | .str, _, _, hg => simp [getT, Tr.run] at hg
    | .unit, _, _, hg => simp [getT, Tr.run] at hg
    | .pair _ _, _, _, hg => simp [getT, Tr.run] at hg

theorem bump_snoc : ∀ (pre : Steps) (i j n : Nat), bump (pre ++ [(i, j)]) n = pre ++ [(i, j + n)]
  | [], _, _, _ => rfl
  | [p], i, j, n => rfl
  | p :: q :: ps, i, j, n => by
    show p :: bump (q :: ps ++ [(i, j)]) n = _
    rw [bump_snoc (q :: ps) i j n]; rfl

/-- behind a slice value: an element's first cell -/
theorem adr_snoc {w : World} : ∀ (st : Steps) {h : Value} {t : Ty} {e : TypeId} {r : Ty} {o : Bool} {a : Addr} {n cap : Nat} {x : t.D} {ys : List r.D} {K : Nat → Prop} {F : List Nat} (i : Nat), Rp w K t x [h] F → (getT t x st).run = some ⟨.sl o e r, ys⟩ → hdr w h t st = some (.slice (some a) n cap) →
    adr w h t (st ++ [(i, 0)]) = some (a.add (i * r.size))
  | [], h, t, e, r, o, a, n, cap, x, ys, K, F, i, hp, hg, hh => by
    simp only [hdr, Option.some.injEq] at hh
    subst hh
    simp only [getT, Tr.run, Option.some.injEq] at hg
    injection hg with hg _
    subst hg
    simp only [List.nil_append, adr, Nat.add_zero]
  | (i0, j) :: ps, h, t, e, r, o, a, n, cap, x, ys, K, F, i, hp, hg, hh => by
    match t, x, hp, hg, hh with
    | .sl true e0 r0, xs, hp, hg, hh =>
      obtain ⟨row, d, hrow, hd, hrest⟩ := getT_run_cons hg
      obtain ⟨g, off, cap', cs, fr, v, F1, Fa, G, Fb, F2, rfl, rfl, hb, hn, _, _, hcell, hlt, hv, _⟩ := Rp.elem hp hrow hd
      have h1 : w.cell? ⟨g, off + (i0 * r0.size + j), none⟩ = some v := by rw [cell_blk hb]; exact hcell
      have hh' : hdr w v d.1 ps = some (.slice (some a) n cap) := by
        cases ps with
        | nil => simp only [hdr, adr, add_blk, h1, Option.some.injEq] at hh; simp only [hdr, hh]
        | cons p ps => simp only [hdr, adr, add_blk, h1, cty_cell r0 row j hd] at hh; simpa only [hdr] using hh
      have ih := adr_snoc ps i hv hrest hh'
      cases ps with
      | nil =>
        simp only [List.nil_append] at ih
        simp only [List.cons_append, List.nil_append, adr, add_blk, h1, cty_cell r0 row j hd]; exact ih
      | cons q ps =>
        simp only [List.cons_append] at ih
        simp only [List.cons_append, adr, add_blk, h1, cty_cell r0 row j hd]; exact ih
    | .sl false _ _, _, _, hg, _ => simp [getT, Tr.run] at hg
    | .int _, _, _, hg, _ => simp [getT, Tr.run] at hg
    | .bool, _, _, hg, _ => simp [getT, Tr.run] at hg
    | .str, _, _, hg, _ => simp [getT, Tr.run] at hg
    | .unit, _, _, hg, _ => simp [getT, Tr.run] at hg
    | .pair _ _, _, _, hg, _ => simp [getT, Tr.run] at hg

theorem adr_bump {w : World} : ∀ (st : Steps) {h : Value} {t : Ty} {a : Addr} (n : Nat), adr w h t st = some a → adr w h t (bump st n) = some (a.add n)
  | [], h, t, a, n, ha => by cases t <;> simp [adr] at ha
  | [(i, j)], h, t, a, n, ha => by
    cases t with
    | sl o e r =>
      cases h with
      | slice A m cp =>
        cases A with
        | none => simp [adr] at ha
        | some A =>
          simp only [adr, Option.some.injEq] at ha
          subst ha
          simp only [bump, adr, add_add, Option.some.injEq]
          congr 1; omega
      | _ => simp [adr] at ha
    | _ => simp [adr] at ha
  | (i, j) :: q :: ps, h, t, a, n, ha => by
    cases t with
    | sl o e r =>
      cases h with
      | slice A m cp =>
        cases A with
        | none => simp [adr] at ha
        | some A =>
          have hb : bump ((i, j) :: q :: ps) n = (i, j) :: bump (q :: ps) n := rfl
          have hq : ∃ q' ps', bump (q :: ps) n = q' :: ps' := by
            cases ps with
            | nil => obtain ⟨x, y⟩ := q; exact ⟨_, _, rfl⟩
            | cons q2 ps => exact ⟨_, _, rfl⟩
          obtain ⟨q', ps', hq⟩ := hq
          rw [hb, hq]
          simp only [adr] at ha ⊢
          split at ha
          · rename_i h' t' h1 h2
            have := adr_bump (q :: ps) n ha
            rw [hq] at this
            exact this
          · cases ha
      | _ => simp [adr] at ha
    | _ => simp [adr] at ha

/-- what of the references stays -/
structure Stay (S S' : St) (c c' : Cc) (w w' : World) (K K' : Nat → Prop) (ks : List Kl) : Prop where
  vw : ∀ k st win v, ks.all (fun x => x.okV k st) = true → LeafOk S c w K (.vw k st win) v → LeafOk S' c' w' K' (.vw k st win) v
  el : ∀ k st v, ks.all (fun x => x.okE k st) = true → S1Ok S c w K (.el k st) v → S1Ok S' c' w' K' (.el k st) v
  pl : ∀ k off v, ks.all (fun x => x.okM k) = true → S1Ok S c w K (.pl k off) v → S1Ok S' c' w' K' (.pl k off) v
  kk : KSame w w' K K'

section
variable {S S' : St} {c c' : Cc} {w w' : World} {K K' : Nat → Prop} {ks : List Kl}
theorem Stay.leaf (h : Stay S S' c c' w w' K K' ks) {l : Leaf} {v : Value} (hl : LeafOk S c w K l v) : LeafOk S' c' w' K' (l.kp ks) v := by
  cases l with
  | v t x => exact Rp.frame h.kk t x hl fun g hg => by cases hg
  | vw k st win =>
    simp only [Leaf.kp]
    split
    · rename_i hk; exact h.vw k st win v hk hl
    · trivial
  | nil => exact hl
  | no => trivial
theorem Stay.s1 (h : Stay S S' c c' w w' K K' ks) {x : S1} {v : Value} (hx : S1Ok S c w K x v) : S1Ok S' c' w' K' (x.kp ks) v := by
  cases x with
  | one l => exact h.leaf hx
  | ag ls =>
    obtain ⟨vs, e, hv⟩ := hx
    exact ⟨vs, e, hv.map fun _ _ => h.leaf⟩
  | pl k off =>
    simp only [S1.kp]
    split
    · rename_i hk; exact h.pl k off v hk hx
    · trivial
  | el k st =>
    simp only [S1.kp]
    split
    · rename_i hk; exact h.el k st v hk hx
    · trivial
  | rp t x off =>
    obtain ⟨a, vs, e, hr, hk, hs, hc⟩ := hx
    obtain ⟨h1, h2⟩ := h.kk.2 _ hk hs
    exact ⟨a, vs, e, Rp.frame h.kk t x hr (fun g hg => by cases hg), h2, Nat.lt_of_lt_of_le hs h.kk.1,
      fun j hj => (cell_same (w := w) (w' := w') (a := a.add j) (by rw [add_block]; exact h1)).trans (hc j hj)⟩
theorem Stay.sv (h : Stay S S' c c' w w' K K' ks) {x : SV} {v : Value} (hx : SVOk S c w K x v) : SVOk S' c' w' K' (x.kp ks) v := by
  cases x with
  | s x => exact h.s1 hx
  | tu xs =>
    obtain ⟨vs, e, hv⟩ := hx
    exact ⟨vs, e, hv.map fun _ _ => h.s1⟩
  | un => exact hx
  | no => trivial
/-- slots: what is killed falls, one slot gets its value -/
theorem Stay.slots {N : Nat} {a : Act} (h : Stay S S' c c' w w' K K' ks) (hs : Slots N S c w K a) (hsl : ∀ i, S'.sl i = (S.sl i).kp ks) (d : Option Nat) (x : SV) (v : Value) (hd : ∀ k, d = some k → k < N)
    (hx : SVOk S' c' w' K' x v) (hrest : ∀ l v, LeafOk (S'.putO d x) c' w' K' l v ↔ LeafOk S' c' w' K' l v) (hrest1 : ∀ l v, S1Ok (S'.putO d x) c' w' K' l v ↔ S1Ok S' c' w' K' l v) :
    Slots N (S'.putO d x) c' w' K' (a.put d v) := by
  have hsv : ∀ l v, SVOk (S'.putO d x) c' w' K' l v ↔ SVOk S' c' w' K' l v := by
    intro l v
    cases l with
    | s y => exact hrest1 y v
    | tu ys =>
      constructor
      · rintro ⟨vs, e, hv⟩; exact ⟨vs, e, hv.mono fun y v => (hrest1 y v).1⟩
      · rintro ⟨vs, e, hv⟩; exact ⟨vs, e, hv.mono fun y v => (hrest1 y v).2⟩
    | un => exact Iff.rfl
    | no => exact Iff.rfl
  cases d with
  | none =>
    refine ⟨fun i => ?_, hs.n, hs.d⟩
    rw [hsv]
    show SVOk S' c' w' K' (S'.sl i) _
    rw [hsl]; exact h.sv (hs.ok i)
  | some d =>
    refine ⟨fun i => ?_, by simp [Act.put, hs.n], hs.d⟩
    rw [hsv]
    show SVOk S' c' w' K' (if i = d then x else S'.sl i) _
    split
    · rename_i e; subst e
      have : (a.put (some i) v).tmps.getD i undef = v := by
        have := hd i rfl
        simp [Act.put, hs.n, this]
      rw [this]; exact hx
    · rename_i e
      have : (a.put (some d) v).tmps.getD i undef = a.tmps.getD i undef := by
        simp [Act.put, Array.getElem?_setIfInBounds_ne (Ne.symm e)]
      rw [this, hsl]; exact h.sv (hs.ok i)
end

/-- leaves look at the owners and variables alone -/
theorem leaf_same {S S' : St} {c : Cc} {w : World} {K : Nat → Prop} (ho : S'.ow = S.ow) (l : Leaf) (v : Value) : LeafOk S' c w K l v ↔ LeafOk S c w K l v := by
  cases l <;> simp only [LeafOk, ho]
theorem s1_same {S S' : St} {c : Cc} {w : World} {K : Nat → Prop} (ho : S'.ow = S.ow) (hm : S'.ms = S.ms) (x : S1) (v : Value) : S1Ok S' c w K x v ↔ S1Ok S c w K x v := by
  cases x with
  | one l => exact leaf_same ho l v
  | ag ls =>
    constructor
    · rintro ⟨vs, e, hv⟩; exact ⟨vs, e, hv.mono fun l v => (leaf_same ho l v).1⟩
    · rintro ⟨vs, e, hv⟩; exact ⟨vs, e, hv.mono fun l v => (leaf_same ho l v).2⟩
  | pl k off => simp only [S1Ok, hm]
  | el k st => simp only [S1Ok, ho]
  | rp t x off => exact Iff.rfl
theorem owned_same {S S' : St} {c : Cc} (ho : S'.ow = S.ow) (hm : S'.ms = S.ms) (g : Nat) : Owned S' c g ↔ Owned S c g := by
  simp only [Owned, ho, hm]
theorem kok_same {b : Base} {S S' : St} {c : Cc} (ho : S'.ow = S.ow) (hm : S'.ms = S.ms) : Kok b S' c = Kok b S c := by
  funext g; simp only [Kok, owned_same ho hm]
theorem putO_ow (S : St) (d : Option Nat) (x : SV) : (S.putO d x).ow = S.ow := by cases d <;> rfl
theorem putO_ms (S : St) (d : Option Nat) (x : SV) : (S.putO d x).ms = S.ms := by cases d <;> rfl
theorem putO_mc (S : St) (d : Option Nat) (x : SV) : (S.putO d x).mc = S.mc := by cases d <;> rfl
theorem Leaf.kp_nil (l : Leaf) : l.kp [] = l := by cases l <;> simp [Leaf.kp]
theorem S1.kp_nil (x : S1) : x.kp [] = x := by
  cases x with
  | one l => simp [S1.kp, Leaf.kp_nil]
  | ag ls => simp only [S1.kp]; congr 1; exact (List.map_congr_left fun l _ => Leaf.kp_nil l).trans (List.map_id ls)
  | _ => simp [S1.kp]
theorem SV.kp_nil (x : SV) : x.kp [] = x := by
  cases x with
  | s x => simp [SV.kp, S1.kp_nil]
  | tu xs => simp only [SV.kp]; congr 1; exact (List.map_congr_left fun x _ => S1.kp_nil x).trans (List.map_id xs)
  | un => rfl
  | no => rfl
theorem kp_sl (S : St) (ks : List Kl) (i : Nat) : (S.kp ks).sl i = (S.sl i).kp ks := by
  cases ks with
  | nil => exact (SV.kp_nil _).symm
  | cons k ks => rfl
theorem kp_mc (S : St) (ks : List Kl) (k i : Nat) : (S.kp ks).mc k i = (S.mc k i).kp ks := by
  cases ks with
  | nil => exact (Leaf.kp_nil _).symm
  | cons k ks => rfl
theorem kp_ow (S : St) (ks : List Kl) : (S.kp ks).ow = S.ow := by cases ks <;> rfl
theorem kp_ms (S : St) (ks : List Kl) : (S.kp ks).ms = S.ms := by cases ks <;> rfl
theorem ups_sl (us : List U) : ∀ S : St, (S.ups us).sl = S.sl := by
  induction us with
  | nil => intro S; rfl
  | cons u us ih => intro S; rw [St.ups, ih]; cases u <;> rfl

/-- of an invariant's state the slots don't count -/
theorem Inv.put {b : Base} {S S' : St} {w : World} {c : Cc} (ho : S'.ow = S.ow) (hm : S'.ms = S.ms) (hc : S'.mc = S.mc) (h : Inv b S w c) : Inv b S' w c := by
  have hk : Kok b S' c = Kok b S c := kok_same ho hm
  refine ⟨?_, ?_, ?_, ?_, ?_, ?_, ?_, h.fix, h.os, h.tape, h.output, h.size, h.an⟩
  · intro k n hn
    rw [hm] at hn
    obtain ⟨cs, e, fr, h1, h2, h3, h4⟩ := h.ms k n hn
    exact ⟨cs, e, fr, h1, h2, h3, fun i v hv => by rw [hk, hc]; exact (leaf_same ho _ _).2 (h4 i v hv)⟩
  · intro k o hk'; rw [hk]; rw [ho] at hk'; exact h.ow k o hk'
  · intro k hk'; rw [ho] at hk'; exact h.nd k hk'
  · intro k k' hne h1 h2; rw [ho] at h1 h2; exact h.oo k k' hne h1 h2
  · intro k k' hne h1 h2; rw [hm] at h1 h2; exact h.mm k k' hne h1 h2
  · intro k k' h1 h2; rw [hm] at h1; rw [ho] at h2; exact h.mo k k' h1 h2
  · intro g hg; exact h.fr g ((owned_same ho hm g).1 hg)

/-- an operation without effect: its value goes into its slot -/
theorem Sim.val {b : Base} {N : Nat} {S : St} {a : Act} {w : World} {c : Cc} (hi : Inv b S w c) (hs : Slots N S c w (Kok b S c) a) (d : Option Nat) (x : SV) (v : Value) (hd : ∀ k, d = some k → k < N) (hx : SVOk S c w (Kok b S c) x v) :
    Sim b N (S.putO d x) (a.put d v) w := by
  refine ⟨c, hi.put (putO_ow ..) (putO_ms ..) (putO_mc ..), ?_⟩
  rw [kok_same (putO_ow S d x) (putO_ms S d x)]
  have hst : Stay S S c c w w (Kok b S c) (Kok b S c) [] := ⟨fun _ _ _ _ _ h => h, fun _ _ _ _ h => h, fun _ _ _ _ h => h, KSame.refl _ _⟩
  exact hst.slots hs (fun i => (SV.kp_nil _).symm) d x v hd hx (fun l v => leaf_same (putO_ow ..) l v) (fun x v => s1_same (putO_ow ..) (putO_ms ..) x v)

#print axioms Sim.val
end Go.V
