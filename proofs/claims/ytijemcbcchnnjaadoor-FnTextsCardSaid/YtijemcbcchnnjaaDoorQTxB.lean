import Derived.Test.YtijemcbcchnnjaaDoorQTxA
import Derived.Below
import Derived.Laws.Cells
import Derived.Laws.Concat
import Derived.Deep.AppendSrc
import Derived.Laws.Tables
import Derived.Laws.Strings
import Derived.Laws.StructEq
import Derived.Laws.IdiomCopy
import Derived.Great.BuildSlice
import Derived.Laws.MakeOwn
import Derived.Laws.AppendOwn
import Derived.Deep.Upon
import Derived.Lib.AppendZerosOnto
import Derived.Laws.IdiomStrings
import Derived.Laws.BytesArg
import Derived.Laws.Small
import Derived.Lib.SliceRun
namespace Go.V
open Go.RowKit
structure Base where
  w0 : World
  Ro : Nat → Prop
  O0 : Nat → Prop
  n1 : Nat
  ms : List Nat
  fx : List (Nat × Value)
  gl : GlF w0 ∧ ∀ g, glo g → Ro g ∧ ¬ O0 g
structure Cc where
  mb : Nat → Nat
  hv : Nat → Value
  F : Nat → List Nat
def Owned (S : St) (c : Cc) (g : Nat) : Prop := (∃ k, S.ms k ≠ none ∧ c.mb k = g) ∨ (∃ k, S.ow k ≠ none ∧ g ∈ c.F k)
def Kok (b : Base) (S : St) (c : Cc) (g : Nat) : Prop := (b.Ro g ∨ b.w0.heap.size ≤ g ∨ b.O0 g) ∧ ¬ Owned S c g
def WinOk (size len : Nat) (win : Option (Nat × Nat)) (h v : Value) : Prop :=
  match win with
  | none => v = h
  | some (lo, m) => ∃ A n cap A' cap' q, h = .slice A n cap ∧ v = .slice A' (min m (len - lo)) cap' ∧ min m (len - lo) ≤ cap' ∧ q + cap' ≤ cap ∧ (0 < min m (len - lo) → q = lo) ∧
      (A = none → A' = none ∧ cap' = 0) ∧ ∀ a, A = some a → A' = some (a.add (q * size))
def LeafOk (S : St) (c : Cc) (w : World) (K : Nat → Prop) : Leaf → Value → Prop
  | .v t x, v => Rp w K t x [v] []
  | .vw k st win, v => ∃ (o : Own) (e : TypeId) (r : Ty) (ys : List r.D) (h : Value), S.ow k = some o ∧ (getT (.sl true o.e o.r) o.xs st).run = some ⟨.sl true e r, ys⟩ ∧
      hdr w (c.hv k) (.sl true o.e o.r) st = some h ∧ WinOk r.size ys.length win h v
  | .qn e, v => ∃ q : Bool, v = .bool q ∧ (q = true → e = true)
  | .nil, v => v = .slice none 0 0
  | .no, _ => True
inductive All2 {α β : Type} (p : α → β → Prop) : List α → List β → Prop
  | nil : All2 p [] []
  | cons {a b as bs} : p a b → All2 p as bs → All2 p (a :: as) (b :: bs)
def PlOk (S : St) (c : Cc) (p : Nat × Nat) (v : Value) : Prop := ∃ n, S.ms p.1 = some n ∧ v = .pointer (some ⟨c.mb p.1, p.2, none⟩)
def S1Ok (S : St) (c : Cc) (w : World) (K : Nat → Prop) : S1 → Value → Prop
  | .one l, v => LeafOk S c w K l v
  | .ag ls, v => ∃ vs : List Value, v = .agg vs.toArray ∧ All2 (LeafOk S c w K) ls vs
  | .pl k off, v => ∃ n, S.ms k = some n ∧ v = .pointer (some ⟨c.mb k, off, none⟩)
  | .el k st, v => ∃ (o : Own) (a : Addr), S.ow k = some o ∧ adr w (c.hv k) (.sl true o.e o.r) st = some a ∧ v = .pointer (some a) ∧
      ∃ (pre : Steps) (p : Nat × Nat) (d : (u : Ty) × u.D), st = pre ++ [p] ∧ (getT (.sl true o.e o.r) o.xs pre).run = some d
  | .rp t x off, v => ∃ (a : Addr) (vs : List Value), v = .pointer (some (a.add off)) ∧ Rp w K t x vs [] ∧ K a.block ∧ a.block < w.heap.size ∧ ∀ j, j < vs.length → w.cell? (a.add j) = vs[j]?
  | .fv f cs, v => ∃ vs : List Value, v = .func (.func f) #[] vs.toArray ∧ All2 (PlOk S c) cs vs
def SVOk (S : St) (c : Cc) (w : World) (K : Nat → Prop) : SV → Value → Prop
  | .s x, v => S1Ok S c w K x v
  | .tu xs, v => ∃ vs : List Value, v = .tuple vs.toArray ∧ All2 (S1Ok S c w K) xs vs
  | .un, v => v = undef
  | .no, _ => True
structure Inv (b : Base) (S : St) (w : World) (c : Cc) : Prop where
  ms : ∀ k n, S.ms k = some n → ∃ cs e fr, w.heap[c.mb k]? = some (.cells cs e fr) ∧ cs.size = n ∧ NF fr cs.size ∧ ∀ i v, cs[i]? = some v → LeafOk S c w (Kok b S c) (S.mc k i) v
  ow : ∀ k o, S.ow k = some o → Rp w (Kok b S c) (.sl true o.e o.r) o.xs [c.hv k] (c.F k)
  nd : ∀ k, S.ow k ≠ none → (c.F k).Nodup
  oo : ∀ k k', k ≠ k' → S.ow k ≠ none → S.ow k' ≠ none → ∀ g, g ∈ c.F k → g ∉ c.F k'
  mm : ∀ k k', k ≠ k' → S.ms k ≠ none → S.ms k' ≠ none → c.mb k ≠ c.mb k'
  mo : ∀ k k', S.ms k ≠ none → S.ow k' ≠ none → c.mb k ∉ c.F k'
  fr : ∀ g, Owned S c g → g < w.heap.size ∧ (b.w0.heap.size ≤ g ∨ b.O0 g)
  fix : ∀ g, g < b.w0.heap.size → ¬ b.O0 g → w.heap[g]? = b.w0.heap[g]?
  os : w.os = b.w0.os
  tape : w.tape = b.w0.tape
  output : w.output = b.w0.output
  size : b.w0.heap.size ≤ w.heap.size
  an : ∀ m g, b.ms[m]? = some g → c.mb (b.n1 + m) = g
theorem gl_now {b : Base} {S : St} {w : World} {c : Cc} (hi : Inv b S w c) : GlF w ∧ ∀ g, glo g → Kok b S c g := by
  have hb := b.gl
  have hlt : ∀ g, glo g → g < b.w0.heap.size := fun g hg => glo_lt hb.1 hg
  refine ⟨GlF_frame hb.1 fun g hg => hi.fix g (hlt g hg) (hb.2 g hg).2, fun g hg => ⟨.inl (hb.2 g hg).1, fun ho => ?_⟩⟩
  rcases (hi.fr g ho).2 with h | h
  · have := hlt g hg; omega
  · exact (hb.2 g hg).2 h
structure Slots (N : Nat) (S : St) (c : Cc) (w : World) (K : Nat → Prop) (a : Act) : Prop where
  ok : ∀ i, SVOk S c w K (S.sl i) (a.tmps.getD i undef)
  n : a.tmps.size = N
  d : a.defers = []
def Sim (b : Base) (N : Nat) (S : St) (a : Act) (w : World) : Prop := ∃ c, Inv b S w c ∧ Slots N S c w (Kok b S c) a ∧ ∀ p, p ∈ b.fx → a.tmps.getD p.1 undef = p.2
theorem put_fx {b : Base} {a : Act} (h : ∀ p, p ∈ b.fx → a.tmps.getD p.1 undef = p.2) {d : Option Nat} {v : Value} (hd : ∀ k, d = some k → ∀ p, p ∈ b.fx → p.1 ≠ k) : ∀ p, p ∈ b.fx → (a.put d v).tmps.getD p.1 undef = p.2 := by
  intro p hp
  cases d with
  | none => exact h p hp
  | some k =>
    have hne := hd k rfl p hp
    have : (a.put (some k) v).tmps.getD p.1 undef = a.tmps.getD p.1 undef := by
      simp [Act.put, Array.getElem?_setIfInBounds_ne (Ne.symm hne)]
    rw [this]; exact h p hp
section
variable {α β γ : Type} {p : α → β → Prop}
theorem All2.mono {q : α → β → Prop} {as bs} (h : ∀ a b, p a b → q a b) (hx : All2 p as bs) : All2 q as bs := by
  induction hx with
  | nil => exact .nil
  | cons h1 _ ih => exact .cons (h _ _ h1) ih
theorem All2.map {f : α → γ} {q : γ → β → Prop} {as bs} (h : ∀ a b, p a b → q (f a) b) (hx : All2 p as bs) : All2 q (as.map f) bs := by
  induction hx with
  | nil => exact .nil
  | cons h1 _ ih => exact .cons (h _ _ h1) ih
theorem All2.len {as bs} (hx : All2 p as bs) : as.length = bs.length := by
  induction hx with
  | nil => rfl
  | cons _ _ ih => simp [ih]
theorem All2.get {as bs} (hx : All2 p as bs) : ∀ {i : Nat} {a}, as[i]? = some a → ∃ b, bs[i]? = some b ∧ p a b := by
  induction hx with
  | nil => intro i a h; simp at h
  | cons h1 _ ih =>
    intro i a h
    cases i with
    | zero => simp only [List.getElem?_cons_zero, Option.some.injEq] at h; subst h; exact ⟨_, rfl, h1⟩
    | succ i => simp only [List.getElem?_cons_succ] at h ⊢; exact ih h
theorem All2.append {as bs as' bs'} (hx : All2 p as bs) (hy : All2 p as' bs') : All2 p (as ++ as') (bs ++ bs') := by
  induction hx with
  | nil => exact hy
  | cons h1 _ ih => exact .cons h1 ih
theorem All2.take {as bs} (hx : All2 p as bs) : ∀ n, All2 p (as.take n) (bs.take n) := by
  induction hx with
  | nil => intro n; simp; exact .nil
  | cons h1 _ ih =>
    intro n
    cases n with
    | zero => exact .nil
    | succ n => exact .cons h1 (ih n)
theorem All2.drop {as bs} (hx : All2 p as bs) : ∀ n, All2 p (as.drop n) (bs.drop n) := by
  induction hx with
  | nil => intro n; simp; exact .nil
  | cons h1 h2 ih =>
    intro n
    cases n with
    | zero => exact .cons h1 h2
    | succ n => exact ih n
theorem All2.set {as bs} (hx : All2 p as bs) : ∀ (n : Nat) {a b}, p a b → All2 p (as.set n a) (bs.set n b) := by
  induction hx with
  | nil => intro n _ _ _; exact .nil
  | cons h1 h2 ih =>
    intro n _ _ h
    cases n with
    | zero => exact .cons h h2
    | succ n => exact .cons h1 (ih n h)
end
structure Step (w w' : World) (T : Nat → Prop) : Prop where
  os : w'.os = w.os
  tape : w'.tape = w.tape
  output : w'.output = w.output
  size : w.heap.size ≤ w'.heap.size
  same : ∀ g, g < w.heap.size → ¬ T g → w'.heap[g]? = w.heap[g]?
theorem Step.refl (w : World) (T : Nat → Prop) : Step w w T := ⟨rfl, rfl, rfl, Nat.le_refl _, fun _ _ _ => rfl⟩
theorem Step.mono {w w' : World} {T T' : Nat → Prop} (h : Step w w' T) (ht : ∀ g, T g → T' g) : Step w w' T' := ⟨h.os, h.tape, h.output, h.size, fun g hg hn => h.same g hg fun x => hn (ht g x)⟩
theorem Step.trans {w w1 w2 : World} {T : Nat → Prop} (h : Step w w1 T) (k : Step w1 w2 T) : Step w w2 T :=
  ⟨k.os.trans h.os, k.tape.trans h.tape, k.output.trans h.output, Nat.le_trans h.size k.size, fun g hg hn => (k.same g (Nat.lt_of_lt_of_le hg h.size) hn).trans (h.same g hg hn)⟩
theorem adr_same {w w' : World} {K : Nat → Prop} : ∀ (st : Steps) (t : Ty) (x : t.D) {h : Value} {F : List Nat} {c : (u : Ty) × u.D}, Rp w K t x [h] F → Same w w' F → (getT t x st).run = some c → adr w' h t st = adr w h t st
  | [], t, x, h, F, c, _, _, _ => by cases t <;> rfl
  | (i, j) :: ps, t, x, h, F, c, hp, hs, hg => by
    match t, x, hp, hg with
    | .sl true e r, xs, hp, hg =>
      obtain ⟨row, d, hrow, hd, hrest⟩ := getT_run_cons hg
      obtain ⟨g, off, cap, cs, fr, v, F1, Fa, G, Fb, F2, rfl, rfl, hh, hn, _, _, hcell, hlt, hv, _⟩ := Rp.elem hp hrow hd
      have hh' : w'.heap[g]? = some (.cells cs e fr) := by rw [hs g (by simp)]; exact hh
      have h1 : w.cell? ⟨g, off + (i * r.size + j), none⟩ = some v := by rw [cell_blk hh]; exact hcell
      have h2 : w'.cell? ⟨g, off + (i * r.size + j), none⟩ = some v := by rw [cell_blk hh']; exact hcell
      cases ps with
      | nil => simp only [adr]
      | cons p ps =>
        simp only [adr, add_blk, h1, h2, cty_cell r row j hd]
        exact adr_same (p :: ps) d.1 d.2 hv (fun g hg => hs g (by simp [hg])) hrest
    | .sl false _ _, _, _, hg => simp [getT, Tr.run] at hg
    | .int _, _, _, hg => simp [getT, Tr.run] at hg
    | .bool, _, _, hg => simp [getT, Tr.run] at hg
    | .er, _, _, hg => simp [getT, Tr.run] at hg
    | .str, _, _, hg => simp [getT, Tr.run] at hg
    | .pt _, _, _, hg => simp [getT, Tr.run] at hg
    | .unit, _, _, hg => simp [getT, Tr.run] at hg
    | .pair _ _, _, _, hg => simp [getT, Tr.run] at hg
theorem hdr_same {w w' : World} {K : Nat → Prop} {st : Steps} {t : Ty} {x : t.D} {h : Value} {F : List Nat} {c : (u : Ty) × u.D} (hp : Rp w K t x [h] F) (hs : Same w w' F) (hg : (getT t x st).run = some c) : hdr w' h t st = hdr w h t st := by
  cases st with
  | nil => rfl
  | cons p ps =>
    obtain ⟨h', F', _, _, _, _, hne⟩ := Rp.reach (p :: ps) t x hp hg
    obtain ⟨a, ha, hc, hb, _, _⟩ := hne (by simp)
    simp only [hdr, adr_same (p :: ps) t x hp hs hg, ha]
    exact cell_same (hs _ hb)
theorem adr_same' {w w' : World} {K : Nat → Prop} : ∀ (st : Steps) (t : Ty) (x : t.D) {h : Value} {F : List Nat} {c : (u : Ty) × u.D} (p : Nat × Nat), Rp w K t x [h] F → Same w w' F → (getT t x st).run = some c → adr w' h t (st ++ [p]) = adr w h t (st ++ [p])
  | [], t, x, h, F, c, p, _, _, _ => adr_one
  | (i, j) :: ps, t, x, h, F, c, p, hp, hs, hg => by
    match t, x, hp, hg with
    | .sl true e r, xs, hp, hg =>
      obtain ⟨row, d, hrow, hd, hrest⟩ := getT_run_cons hg
      obtain ⟨g, off, cap, cs, fr, v, F1, Fa, G, Fb, F2, rfl, rfl, hh, hn, _, _, hcell, hlt, hv, _⟩ := Rp.elem hp hrow hd
      have hh' : w'.heap[g]? = some (.cells cs e fr) := by rw [hs g (by simp)]; exact hh
      have h1 : w.cell? ⟨g, off + (i * r.size + j), none⟩ = some v := by rw [cell_blk hh]; exact hcell
      have h2 : w'.cell? ⟨g, off + (i * r.size + j), none⟩ = some v := by rw [cell_blk hh']; exact hcell
      have ih := adr_same' ps d.1 d.2 p hv (fun g hg => hs g (by simp [hg])) hrest
      cases ps with
      | nil =>
        simp only [List.nil_append] at ih
        simp only [List.cons_append, List.nil_append, adr, add_blk, h1, h2, cty_cell r row j hd]; exact ih
      | cons q ps =>
        simp only [List.cons_append] at ih
        simp only [List.cons_append, adr, add_blk, h1, h2, cty_cell r row j hd]; exact ih
    | .sl false _ _, _, _, hg => simp [getT, Tr.run] at hg
    | .int _, _, _, hg => simp [getT, Tr.run] at hg
    | .bool, _, _, hg => simp [getT, Tr.run] at hg
    | .er, _, _, hg => simp [getT, Tr.run] at hg
    | .str, _, _, hg => simp [getT, Tr.run] at hg
    | .pt _, _, _, hg => simp [getT, Tr.run] at hg
    | .unit, _, _, hg => simp [getT, Tr.run] at hg
    | .pair _ _, _, _, hg => simp [getT, Tr.run] at hg
theorem bump_snoc : ∀ (pre : Steps) (i j n : Nat), bump (pre ++ [(i, j)]) n = pre ++ [(i, j + n)]
  | [], _, _, _ => rfl
  | [p], i, j, n => rfl
  | p :: q :: ps, i, j, n => by
    show p :: bump (q :: ps ++ [(i, j)]) n = _
    rw [bump_snoc (q :: ps) i j n]; rfl
theorem adr_snoc {w : World} : ∀ (st : Steps) {h : Value} {t : Ty} {e : TypeId} {r : Ty} {o : Bool} {a : Addr} {n cap : Nat} {x : t.D} {ys : List r.D} {K : Nat → Prop} {F : List Nat} (i : Nat), Rp w K t x [h] F → (getT t x st).run = some ⟨.sl o e r, ys⟩ → hdr w h t st = some (.slice (some a) n cap) →
    adr w h t (st ++ [(i, 0)]) = some (a.add (i * r.size))
  | [], h, t, e, r, o, a, n, cap, x, ys, K, F, i, hp, hg, hh => by
    simp only [hdr, Option.some.injEq] at hh
    subst hh
    simp only [getT, Tr.run, Option.some.injEq] at hg
    injection hg with hg _
    subst hg
    simp only [List.nil_append, adr, Nat.add_zero]
  | (i0, j) :: ps, h, t, e, r, o, a, n, cap, x, ys, K, F, i, hp, hg, hh => by
    match t, x, hp, hg, hh with
    | .sl true e0 r0, xs, hp, hg, hh =>
      obtain ⟨row, d, hrow, hd, hrest⟩ := getT_run_cons hg
      obtain ⟨g, off, cap', cs, fr, v, F1, Fa, G, Fb, F2, rfl, rfl, hb, hn, _, _, hcell, hlt, hv, _⟩ := Rp.elem hp hrow hd
      have h1 : w.cell? ⟨g, off + (i0 * r0.size + j), none⟩ = some v := by rw [cell_blk hb]; exact hcell
      have hh' : hdr w v d.1 ps = some (.slice (some a) n cap) := by
        cases ps with
        | nil => simp only [hdr, adr, add_blk, h1, Option.some.injEq] at hh; simp only [hdr, hh]
        | cons p ps => simp only [hdr, adr, add_blk, h1, cty_cell r0 row j hd] at hh; simpa only [hdr] using hh
      have ih := adr_snoc ps i hv hrest hh'
      cases ps with
      | nil =>
        simp only [List.nil_append] at ih
        simp only [List.cons_append, List.nil_append, adr, add_blk, h1, cty_cell r0 row j hd]; exact ih
      | cons q ps =>
        simp only [List.cons_append] at ih
        simp only [List.cons_append, adr, add_blk, h1, cty_cell r0 row j hd]; exact ih
    | .sl false _ _, _, _, hg, _ => simp [getT, Tr.run] at hg
    | .int _, _, _, hg, _ => simp [getT, Tr.run] at hg
    | .bool, _, _, hg, _ => simp [getT, Tr.run] at hg
    | .er, _, _, hg, _ => simp [getT, Tr.run] at hg
    | .str, _, _, hg, _ => simp [getT, Tr.run] at hg
    | .pt _, _, _, hg, _ => simp [getT, Tr.run] at hg
    | .unit, _, _, hg, _ => simp [getT, Tr.run] at hg
    | .pair _ _, _, _, hg, _ => simp [getT, Tr.run] at hg
theorem adr_bump {w : World} : ∀ (st : Steps) {h : Value} {t : Ty} {a : Addr} (n : Nat), adr w h t st = some a → adr w h t (bump st n) = some (a.add n)
  | [], h, t, a, n, ha => by cases t <;> simp [adr] at ha
  | [(i, j)], h, t, a, n, ha => by
    cases t with
    | sl o e r =>
      cases h with
      | slice A m cp =>
        cases A with
        | none => simp [adr] at ha
        | some A =>
          simp only [adr, Option.some.injEq] at ha
          subst ha
          simp only [bump, adr, add_add, Option.some.injEq]
          congr 1; omega
      | _ => simp [adr] at ha
    | _ => simp [adr] at ha
  | (i, j) :: q :: ps, h, t, a, n, ha => by
    cases t with
    | sl o e r =>
      cases h with
      | slice A m cp =>
        cases A with
        | none => simp [adr] at ha
        | some A =>
          have hb : bump ((i, j) :: q :: ps) n = (i, j) :: bump (q :: ps) n := rfl
          have hq : ∃ q' ps', bump (q :: ps) n = q' :: ps' := by
            cases ps with
            | nil => obtain ⟨x, y⟩ := q; exact ⟨_, _, rfl⟩
            | cons q2 ps => exact ⟨_, _, rfl⟩
          obtain ⟨q', ps', hq⟩ := hq
          rw [hb, hq]
          simp only [adr] at ha ⊢
          split at ha
          · rename_i h' t' h1 h2
            have := adr_bump (q :: ps) n ha
            rw [hq] at this
            exact this
          · cases ha
      | _ => simp [adr] at ha
    | _ => simp [adr] at ha
structure Stay (S S' : St) (c c' : Cc) (w w' : World) (K K' : Nat → Prop) (ks : List Kl) : Prop where
  vw : ∀ k st win v, ks.all (fun x => x.okV k st) = true → LeafOk S c w K (.vw k st win) v → LeafOk S' c' w' K' (.vw k st win) v
  el : ∀ k st v, ks.all (fun x => x.okE k st) = true → S1Ok S c w K (.el k st) v → S1Ok S' c' w' K' (.el k st) v
  pl : ∀ k off v, ks.all (fun x => x.okM k) = true → S1Ok S c w K (.pl k off) v → S1Ok S' c' w' K' (.pl k off) v
  kk : KSame w w' K K'
section
variable {S S' : St} {c c' : Cc} {w w' : World} {K K' : Nat → Prop} {ks : List Kl}
theorem Stay.leaf (h : Stay S S' c c' w w' K K' ks) {l : Leaf} {v : Value} (hl : LeafOk S c w K l v) : LeafOk S' c' w' K' (l.kp ks) v := by
  cases l with
  | v t x => exact Rp.frame h.kk t x hl fun g hg => by cases hg
  | vw k st win =>
    simp only [Leaf.kp]
    split
    · rename_i hk; exact h.vw k st win v hk hl
    · trivial
  | qn e => exact hl
  | nil => exact hl
  | no => trivial
theorem Stay.s1 (h : Stay S S' c c' w w' K K' ks) {x : S1} {v : Value} (hx : S1Ok S c w K x v) : S1Ok S' c' w' K' (x.kp ks) v := by
  cases x with
  | one l => exact h.leaf hx
  | ag ls =>
    obtain ⟨vs, e, hv⟩ := hx
    exact ⟨vs, e, hv.map fun _ _ => h.leaf⟩
  | pl k off =>
    simp only [S1.kp]
    split
    · rename_i hk; exact h.pl k off v hk hx
    · trivial
  | el k st =>
    simp only [S1.kp]
    split
    · rename_i hk; exact h.el k st v hk hx
    · trivial
  | rp t x off =>
    obtain ⟨a, vs, e, hr, hk, hs, hc⟩ := hx
    obtain ⟨h1, h2⟩ := h.kk.2 _ hk hs
    exact ⟨a, vs, e, Rp.frame h.kk t x hr (fun g hg => by cases hg), h2, Nat.lt_of_lt_of_le hs h.kk.1,
      fun j hj => (cell_same (w := w) (w' := w') (a := a.add j) (by rw [add_block]; exact h1)).trans (hc j hj)⟩
  | fv f cs =>
    simp only [S1.kp]
    split
    · rename_i hk
      obtain ⟨vs, e, hv⟩ := hx
      refine ⟨vs, e, ?_⟩
      clear e
      induction hv with
      | nil => exact .nil
      | cons h1 _ ih =>
        refine .cons ?_ (ih ?_)
        · exact h.pl _ _ _ (List.all_eq_true.2 fun x hx => by have := List.all_eq_true.1 hk x hx; simp only [List.all_cons, Bool.and_eq_true] at this; exact this.1) h1
        · exact List.all_eq_true.2 fun x hx => by have := List.all_eq_true.1 hk x hx; simp only [List.all_cons, Bool.and_eq_true] at this; exact this.2
    · trivial
theorem Stay.sv (h : Stay S S' c c' w w' K K' ks) {x : SV} {v : Value} (hx : SVOk S c w K x v) : SVOk S' c' w' K' (x.kp ks) v := by
  cases x with
  | s x => exact h.s1 hx
  | tu xs =>
    obtain ⟨vs, e, hv⟩ := hx
    exact ⟨vs, e, hv.map fun _ _ => h.s1⟩
  | un => exact hx
  | no => trivial
theorem Stay.slots {N : Nat} {a : Act} (h : Stay S S' c c' w w' K K' ks) (hs : Slots N S c w K a) (hsl : ∀ i, S'.sl i = (S.sl i).kp ks) (d : Option Nat) (x : SV) (v : Value) (hd : ∀ k, d = some k → k < N)
    (hx : SVOk S' c' w' K' x v) (hrest : ∀ l v, LeafOk (S'.putO d x) c' w' K' l v ↔ LeafOk S' c' w' K' l v) (hrest1 : ∀ l v, S1Ok (S'.putO d x) c' w' K' l v ↔ S1Ok S' c' w' K' l v) :
    Slots N (S'.putO d x) c' w' K' (a.put d v) := by
  have hsv : ∀ l v, SVOk (S'.putO d x) c' w' K' l v ↔ SVOk S' c' w' K' l v := by
    intro l v
    cases l with
    | s y => exact hrest1 y v
    | tu ys =>
      constructor
      · rintro ⟨vs, e, hv⟩; exact ⟨vs, e, hv.mono fun y v => (hrest1 y v).1⟩
      · rintro ⟨vs, e, hv⟩; exact ⟨vs, e, hv.mono fun y v => (hrest1 y v).2⟩
    | un => exact Iff.rfl
    | no => exact Iff.rfl
  cases d with
  | none =>
    refine ⟨fun i => ?_, hs.n, hs.d⟩
    rw [hsv]
    show SVOk S' c' w' K' (S'.sl i) _
    rw [hsl]; exact h.sv (hs.ok i)
  | some d =>
    refine ⟨fun i => ?_, by simp [Act.put, hs.n], hs.d⟩
    rw [hsv]
    show SVOk S' c' w' K' (if i = d then x else S'.sl i) _
    split
    · rename_i e; subst e
      have : (a.put (some i) v).tmps.getD i undef = v := by
        have := hd i rfl
        simp [Act.put, hs.n, this]
      rw [this]; exact hx
    · rename_i e
      have : (a.put (some d) v).tmps.getD i undef = a.tmps.getD i undef := by
        simp [Act.put, Array.getElem?_setIfInBounds_ne (Ne.symm e)]
      rw [this, hsl]; exact h.sv (hs.ok i)
end
theorem leaf_same {S S' : St} {c : Cc} {w : World} {K : Nat → Prop} (ho : S'.ow = S.ow) (l : Leaf) (v : Value) : LeafOk S' c w K l v ↔ LeafOk S c w K l v := by
  cases l <;> simp only [LeafOk, ho]
theorem s1_same {S S' : St} {c : Cc} {w : World} {K : Nat → Prop} (ho : S'.ow = S.ow) (hm : S'.ms = S.ms) (x : S1) (v : Value) : S1Ok S' c w K x v ↔ S1Ok S c w K x v := by
  cases x with
  | one l => exact leaf_same ho l v
  | ag ls =>
    constructor
    · rintro ⟨vs, e, hv⟩; exact ⟨vs, e, hv.mono fun l v => (leaf_same ho l v).1⟩
    · rintro ⟨vs, e, hv⟩; exact ⟨vs, e, hv.mono fun l v => (leaf_same ho l v).2⟩
  | pl k off => simp only [S1Ok, hm]
  | el k st => simp only [S1Ok, ho]
  | rp t x off => exact Iff.rfl
  | fv f cs =>
    constructor
    · rintro ⟨vs, e, hv⟩; exact ⟨vs, e, hv.mono fun p v ⟨n, h, h'⟩ => ⟨n, by rw [← hm]; exact h, h'⟩⟩
    · rintro ⟨vs, e, hv⟩; exact ⟨vs, e, hv.mono fun p v ⟨n, h, h'⟩ => ⟨n, by rw [hm]; exact h, h'⟩⟩
theorem owned_same {S S' : St} {c : Cc} (ho : S'.ow = S.ow) (hm : S'.ms = S.ms) (g : Nat) : Owned S' c g ↔ Owned S c g := by
  simp only [Owned, ho, hm]
theorem kok_same {b : Base} {S S' : St} {c : Cc} (ho : S'.ow = S.ow) (hm : S'.ms = S.ms) : Kok b S' c = Kok b S c := by
  funext g; simp only [Kok, owned_same ho hm]
theorem putO_ow (S : St) (d : Option Nat) (x : SV) : (S.putO d x).ow = S.ow := by cases d <;> rfl
theorem putO_ms (S : St) (d : Option Nat) (x : SV) : (S.putO d x).ms = S.ms := by cases d <;> rfl
theorem putO_mc (S : St) (d : Option Nat) (x : SV) : (S.putO d x).mc = S.mc := by cases d <;> rfl
theorem Leaf.kp_nil (l : Leaf) : l.kp [] = l := by cases l <;> simp [Leaf.kp]
theorem S1.kp_nil (x : S1) : x.kp [] = x := by
  cases x with
  | one l => simp [S1.kp, Leaf.kp_nil]
  | ag ls => simp only [S1.kp]; congr 1; exact (List.map_congr_left fun l _ => Leaf.kp_nil l).trans (List.map_id ls)
  | _ => simp [S1.kp]
theorem SV.kp_nil (x : SV) : x.kp [] = x := by
  cases x with
  | s x => simp [SV.kp, S1.kp_nil]
  | tu xs => simp only [SV.kp]; congr 1; exact (List.map_congr_left fun x _ => S1.kp_nil x).trans (List.map_id xs)
  | un => rfl
  | no => rfl
theorem kp_sl (S : St) (ks : List Kl) (i : Nat) : (S.kp ks).sl i = (S.sl i).kp ks := by
  cases ks with
  | nil => exact (SV.kp_nil _).symm
  | cons k ks => rfl
theorem kp_mc (S : St) (ks : List Kl) (k i : Nat) : (S.kp ks).mc k i = (S.mc k i).kp ks := by
  cases ks with
  | nil => exact (Leaf.kp_nil _).symm
  | cons k ks => rfl
theorem kp_ow (S : St) (ks : List Kl) : (S.kp ks).ow = S.ow := by cases ks <;> rfl
theorem kp_ms (S : St) (ks : List Kl) : (S.kp ks).ms = S.ms := by cases ks <;> rfl
theorem ups_sl (us : List U) : ∀ S : St, (S.ups us).sl = S.sl := by
  induction us with
  | nil => intro S; rfl
  | cons u us ih => intro S; rw [St.ups, ih]; cases u <;> rfl
theorem Inv.put {b : Base} {S S' : St} {w : World} {c : Cc} (ho : S'.ow = S.ow) (hm : S'.ms = S.ms) (hc : S'.mc = S.mc) (h : Inv b S w c) : Inv b S' w c := by
  have hk : Kok b S' c = Kok b S c := kok_same ho hm
  refine ⟨?_, ?_, ?_, ?_, ?_, ?_, ?_, h.fix, h.os, h.tape, h.output, h.size, h.an⟩
  · intro k n hn
    rw [hm] at hn
    obtain ⟨cs, e, fr, h1, h2, h3, h4⟩ := h.ms k n hn
    exact ⟨cs, e, fr, h1, h2, h3, fun i v hv => by rw [hk, hc]; exact (leaf_same ho _ _).2 (h4 i v hv)⟩
  · intro k o hk'; rw [hk]; rw [ho] at hk'; exact h.ow k o hk'
  · intro k hk'; rw [ho] at hk'; exact h.nd k hk'
  · intro k k' hne h1 h2; rw [ho] at h1 h2; exact h.oo k k' hne h1 h2
  · intro k k' hne h1 h2; rw [hm] at h1 h2; exact h.mm k k' hne h1 h2
  · intro k k' h1 h2; rw [hm] at h1; rw [ho] at h2; exact h.mo k k' h1 h2
  · intro g hg; exact h.fr g ((owned_same ho hm g).1 hg)
end Go.V

namespace Go.V
open Go.RowKit
theorem all_of {ks : List Kl} {p : Kl → Bool} (h : ks.all p = true) {k : Kl} (hk : k ∈ ks) : p k = true := List.all_eq_true.1 h k hk
theorem Stay.of {b : Base} {S S' : St} {c c' : Cc} {w w' : World} {ks : List Kl} (hi : Inv b S w c)
    (h1 : ∀ k o, S.ow k = some o → .all k ∈ ks ∨ (S'.ow k = some o ∧ c'.hv k = c.hv k ∧ Same w w' (c.F k)) ∨
      (.deep k ∈ ks ∧ c'.hv k = c.hv k ∧ ∃ xs', S'.ow k = some ⟨o.e, o.r, xs'⟩ ∧ xs'.length = o.xs.length))
    (h2 : ∀ k n, S.ms k = some n → .m k ∈ ks ∨ (S'.ms k = some n ∧ c'.mb k = c.mb k))
    (kk : KSame w w' (Kok b S c) (Kok b S' c')) : Stay S S' c c' w w' (Kok b S c) (Kok b S' c') ks := by
  refine ⟨?_, ?_, ?_, kk⟩
  · rintro k st win v hk ⟨o, e, r, ys, h, ho, hg, hh, hw⟩
    rcases h1 k o ho with hx | ⟨h3, h4, h5⟩ | ⟨hx, h4, xs', h5, h6⟩
    · have := all_of hk hx
      simp [Kl.okV] at this
    · exact ⟨o, e, r, ys, h, h3, hg, by rw [h4, hdr_same (hi.ow k o ho) h5 hg]; exact hh, hw⟩
    · have := all_of hk hx
      simp only [Kl.okV, beq_self_eq_true, Bool.not_true, Bool.false_or, List.isEmpty_iff] at this
      subst this
      simp only [getT, Tr.run, Option.some.injEq] at hg
      injection hg with ha hb
      injection ha with _ he hr
      obtain ⟨oe, or, oxs⟩ := o
      simp only at he hr h5 h6 hb
      subst he hr
      obtain rfl := eq_of_heq hb
      exact ⟨_, oe, or, xs', h, h5, rfl, by rw [h4]; exact hh, by rw [h6]; exact hw⟩
  · rintro k st v hk ⟨o, a, ho, ha, rfl, pre, p, d, rfl, hd⟩
    rcases h1 k o ho with hx | ⟨h3, h4, h5⟩ | ⟨hx, h4, xs', h5, h6⟩
    · have := all_of hk hx
      simp [Kl.okE] at this
    · exact ⟨o, a, h3, by rw [h4, adr_same' pre _ _ p (hi.ow k o ho) h5 hd]; exact ha, rfl, pre, p, d, rfl, hd⟩
    · have := all_of hk hx
      simp only [Kl.okE, beq_self_eq_true, Bool.not_true, Bool.false_or, decide_eq_true_eq, List.length_append, List.length_cons, List.length_nil] at this
      obtain rfl : pre = [] := List.eq_nil_of_length_eq_zero (by omega)
      exact ⟨_, a, h5, by rw [h4]; rw [List.nil_append] at ha ⊢; rw [adr_one (w := w)]; exact ha, rfl, [], p, _, rfl, rfl⟩
  · rintro k off v hk ⟨n, hn, rfl⟩
    rcases h2 k n hn with hx | ⟨h3, h4⟩
    · have := all_of hk hx
      simp [Kl.okM] at this
    · exact ⟨n, h3, by rw [h4]⟩
theorem ksame {b : Base} {S S' : St} {c c' : Cc} {w w' : World} {T : Nat → Prop} (hst : Step w w' T) (hT : ∀ g, T g → Owned S c g) (ho : ∀ g, Owned S' c' g → Owned S c g ∨ w.heap.size ≤ g) :
    KSame w w' (Kok b S c) (Kok b S' c') :=
  ⟨hst.size, fun g ⟨h1, h2⟩ hg => ⟨hst.same g hg fun ht => h2 (hT g ht), h1, fun hx => (ho g hx).elim h2 fun h3 => by omega⟩⟩
theorem Inv.fix' {b : Base} {S : St} {c : Cc} {w w' : World} {T : Nat → Prop} (hi : Inv b S w c) (hst : Step w w' T) (hT : ∀ g, T g → Owned S c g) : ∀ g, g < b.w0.heap.size → ¬ b.O0 g → w'.heap[g]? = b.w0.heap[g]? := by
  intro g hg hn
  have hl := hi.size
  rw [hst.same g (by omega) fun ht => ?_]
  · exact hi.fix g hg hn
  · rcases (hi.fr g (hT g ht)).2 with h | h
    · omega
    · exact hn h
theorem Inv.newMem {b : Base} {S : St} {c : Cc} {w w' : World} (hi : Inv b S w c) (d : Nat) (hdn : d < b.n1) (row : List Leaf) (vs : List Value) (e : TypeId) (hw : w' = { w with heap := w.heap.push (.cells vs.toArray e) })
    (hrow : All2 (LeafOk S c w (Kok b S c)) row vs) :
    ∃ c', c'.mb d = w.heap.size ∧ Inv b ((S.kp [.m d]).up (.ms d row)) w' c' ∧ Stay S ((S.kp [.m d]).up (.ms d row)) c c' w w' (Kok b S c) (Kok b ((S.kp [.m d]).up (.ms d row)) c') [.m d] := by
  let c' : Cc := ⟨fun k => if k = d then w.heap.size else c.mb k, c.hv, c.F⟩
  generalize hS : (S.kp [.m d]).up (.ms d row) = S'
  have how : S'.ow = S.ow := by subst hS; rfl
  have hms : ∀ k, S'.ms k = if k = d then some row.length else S.ms k := by subst hS; intro k; rfl
  have hmc : ∀ k i, S'.mc k i = if k = d then row.getD i .no else (S.mc k i).kp [.m d] := by subst hS; intro k i; rfl
  have hst : Step w w' fun _ => False := by
    subst hw
    exact ⟨rfl, rfl, rfl, by simp, fun g hg _ => by simp [Array.getElem?_push, show ¬ (g = w.heap.size) by omega]⟩
  have hown : ∀ g, Owned S' c' g → Owned S c g ∨ w.heap.size ≤ g := by
    rintro g (⟨k, hk, rfl⟩ | ⟨k, hk, hg⟩)
    · by_cases hkd : k = d
      · subst hkd; right; simp [c']
      · left; left; exact ⟨k, by rw [hms, if_neg hkd] at hk; exact hk, by simp [c', hkd]⟩
    · left; right; exact ⟨k, by rw [how] at hk; exact hk, hg⟩
  have kk := ksame (b := b) hst (fun _ h => h.elim) hown
  have stay : Stay S S' c c' w w' (Kok b S c) (Kok b S' c') [.m d] := by
    refine Stay.of hi ?_ ?_ kk
    · intro k o ho
      exact .inr (.inl ⟨by rw [how]; exact ho, rfl, fun g hg => hst.same g (hi.fr g (.inr ⟨k, by rw [ho]; simp, hg⟩)).1 (fun h => h)⟩)
    · intro k n hn
      by_cases hkd : k = d
      · subst hkd; exact .inl (by simp)
      · exact .inr ⟨by rw [hms, if_neg hkd]; exact hn, by simp [c', hkd]⟩
  refine ⟨c', by simp [c'], ?_, stay⟩
  refine ⟨?_, ?_, ?_, ?_, ?_, ?_, ?_, hi.fix' hst (fun _ h => h.elim), hst.os.trans hi.os, hst.tape.trans hi.tape, hst.output.trans hi.output, Nat.le_trans hi.size hst.size, fun m g hg => by have := hi.an m g hg; simpa [c', show ¬ (b.n1 + m = d) by omega] using this⟩
  · intro k n hn
    rw [hms] at hn
    by_cases hkd : k = d
    · subst hkd
      rw [if_pos rfl] at hn
      injection hn with hn
      refine ⟨vs.toArray, e, (0, 0), ?_, ?_, ?_, ?_⟩
      · subst hw; simp [c']
      · rw [List.size_toArray, ← hrow.len]; exact hn
      · intro i _ h; simp at h
      · intro i v hv
        rw [List.getElem?_toArray] at hv
        have hi' : i < row.length := by rw [hrow.len]; exact (List.getElem?_eq_some_iff.1 hv).1
        obtain ⟨v', h1, h2⟩ := hrow.get (List.getElem?_eq_getElem hi')
        rw [hv] at h1
        injection h1 with h1
        subst h1
        rw [hmc, if_pos rfl, List.getD_eq_getElem?_getD, List.getElem?_eq_getElem hi', Option.getD_some]
        have h3 := stay.leaf h2
        have h4 : ∀ l : Leaf, l.kp [.m k] = l := by intro l; cases l <;> simp [Leaf.kp, Kl.okV]
        rw [h4] at h3
        exact h3
    · rw [if_neg hkd] at hn
      obtain ⟨cs, e', fr, h1, h2, h3, h4⟩ := hi.ms k n hn
      refine ⟨cs, e', fr, ?_, h2, h3, ?_⟩
      · have : c'.mb k = c.mb k := by simp [c', hkd]
        rw [this, hst.same _ (lt_size h1) (fun h => h)]; exact h1
      · intro i v hv
        rw [hmc, if_neg hkd]
        exact stay.leaf (h4 i v hv)
  · intro k o ho
    rw [how] at ho
    exact Rp.frame kk _ _ (hi.ow k o ho) fun g hg => hst.same g (hi.fr g (.inr ⟨k, by rw [ho]; simp, hg⟩)).1 (fun h => h)
  · intro k hk; rw [how] at hk; exact hi.nd k hk
  · intro k k' hne h1 h2; rw [how] at h1 h2; exact hi.oo k k' hne h1 h2
  · intro k k' hne h1 h2
    rw [hms] at h1 h2
    by_cases hkd : k = d
    · have hkd' : ¬ k' = d := fun h => hne (hkd.trans h.symm)
      rw [if_neg hkd'] at h2
      have := (hi.fr (c.mb k') (.inl ⟨k', h2, rfl⟩)).1
      simp only [c', hkd, if_true, hkd', if_false]; omega
    · rw [if_neg hkd] at h1
      have h5 := (hi.fr (c.mb k) (.inl ⟨k, h1, rfl⟩)).1
      by_cases hkd' : k' = d
      · simp only [c', hkd, if_false, hkd', if_true]; omega
      · rw [if_neg hkd'] at h2
        simp only [c', hkd, hkd', if_false]; exact hi.mm k k' hne h1 h2
  · intro k k' h1 h2
    rw [hms] at h1; rw [how] at h2
    by_cases hkd : k = d
    · simp only [c', hkd, if_true]
      intro hg
      have := (hi.fr _ (.inr ⟨k', h2, hg⟩)).1
      omega
    · rw [if_neg hkd] at h1
      simp only [c', hkd, if_false]; exact hi.mo k k' h1 h2
  · intro g hg
    rcases hown g hg with h | h
    · have := hi.fr g h
      exact ⟨Nat.lt_of_lt_of_le this.1 hst.size, this.2⟩
    · refine ⟨?_, .inl (Nat.le_trans hi.size h)⟩
      rcases hg with ⟨k, hk, rfl⟩ | ⟨k, hk, hg⟩
      · by_cases hkd : k = d
        · subst hw; simp [c', hkd]
        · rw [hms, if_neg hkd] at hk
          have := (hi.fr (c.mb k) (.inl ⟨k, hk, rfl⟩)).1
          have h6 : c'.mb k = c.mb k := by simp [c', hkd]
          rw [h6]; exact Nat.lt_of_lt_of_le this hst.size
      · rw [how] at hk
        exact Nat.lt_of_lt_of_le (hi.fr g (.inr ⟨k, hk, hg⟩)).1 hst.size
theorem Inv.setMem {b : Base} {S S' : St} {c : Cc} {w w' : World} (hi : Inv b S w c) (k off n : Nat) (l : Leaf) (v : Value) (hk : S.ms k = some n) (ho : off < n) (hl : LeafOk S c w (Kok b S c) l v)
    (hS : S' = S.up (.mc k off l)) (hw : w' = w.setCell ⟨c.mb k, off, none⟩ v) :
    Inv b S' w' c ∧ Stay S S' c c w w' (Kok b S c) (Kok b S' c) [] := by
  have how : S'.ow = S.ow := by subst hS; rfl
  have hms : S'.ms = S.ms := by subst hS; rfl
  have hmc : ∀ i j, S'.mc i j = if i = k then (if j = off then l else S.mc i j) else S.mc i j := by subst hS; intro i j; rfl
  have hKok : Kok b S' c = Kok b S c := kok_same how hms
  have hst : Step w w' fun g => g = c.mb k := by
    subst hw
    exact ⟨rfl, rfl, rfl, by simp [World.setCell], fun g _ hg => Below.heap_setCell _ _ _ _ hg⟩
  have hT : ∀ g, g = c.mb k → Owned S c g := fun g hg => .inl ⟨k, by rw [hk]; simp, hg.symm⟩
  have hF : ∀ k', S.ow k' ≠ none → Same w w' (c.F k') := fun k' hk' g hg => hst.same g (hi.fr g (.inr ⟨k', hk', hg⟩)).1 fun e => hi.mo k k' (by rw [hk]; simp) hk' (e ▸ hg)
  have kk : KSame w w' (Kok b S c) (Kok b S' c) := ksame hst hT (fun g hg => .inl ((owned_same how hms g).1 hg))
  have stay : Stay S S' c c w w' (Kok b S c) (Kok b S' c) [] := by
    refine Stay.of hi ?_ ?_ kk
    · intro k' o ho'
      exact .inr (.inl ⟨by rw [how]; exact ho', rfl, hF k' (by rw [ho']; simp)⟩)
    · intro k' n' hn'
      exact .inr ⟨by rw [hms]; exact hn', rfl⟩
  refine ⟨?_, stay⟩
  have hleaf : ∀ {l v}, LeafOk S c w (Kok b S c) l v → LeafOk S' c w' (Kok b S' c) l v := fun {l v} h => by
    have := stay.leaf h
    rwa [Leaf.kp_nil] at this
  refine ⟨?_, ?_, ?_, ?_, ?_, ?_, ?_, hi.fix' hst hT, hst.os.trans hi.os, hst.tape.trans hi.tape, hst.output.trans hi.output, Nat.le_trans hi.size hst.size, hi.an⟩
  · intro k' n' hn'
    rw [hms] at hn'
    obtain ⟨cs, e, fr, h1, h2, h3, h4⟩ := hi.ms k' n' hn'
    by_cases hkk : k' = k
    · subst hkk
      rw [hk] at hn'
      injection hn' with hn'
      refine ⟨cs.setIfInBounds off v, e, fr, by subst hw; exact setCell_blk h1 _ _, by simpa using h2, by simpa using h3, ?_⟩
      intro i u hu
      rw [hmc, if_pos rfl]
      by_cases hio : i = off
      · subst hio
        rw [if_pos rfl]
        rw [Array.getElem?_setIfInBounds_self_of_lt (by omega)] at hu
        injection hu with hu
        subst hu
        exact hleaf hl
      · rw [if_neg hio]
        rw [Array.getElem?_setIfInBounds_ne (Ne.symm hio)] at hu
        exact hleaf (h4 i u hu)
    · refine ⟨cs, e, fr, ?_, h2, h3, fun i u hu => ?_⟩
      · rw [hst.same _ (lt_size h1) (hi.mm k' k hkk (by rw [hn']; simp) (by rw [hk]; simp))]; exact h1
      · rw [hmc, if_neg hkk]; exact hleaf (h4 i u hu)
  · intro k' o ho'
    rw [how] at ho'
    exact Rp.frame kk _ _ (hi.ow k' o ho') (hF k' (by rw [ho']; simp))
  · intro k' hk'; rw [how] at hk'; exact hi.nd k' hk'
  · intro k1 k2 hne h1 h2; rw [how] at h1 h2; exact hi.oo k1 k2 hne h1 h2
  · intro k1 k2 hne h1 h2; rw [hms] at h1 h2; exact hi.mm k1 k2 hne h1 h2
  · intro k1 k2 h1 h2; rw [hms] at h1; rw [how] at h2; exact hi.mo k1 k2 h1 h2
  · intro g hg
    have := hi.fr g ((owned_same how hms g).1 hg)
    exact ⟨Nat.lt_of_lt_of_le this.1 hst.size, this.2⟩
theorem Inv.setOwn {b : Base} {S S' : St} {c : Cc} {w w' : World} (hi : Inv b S w c) (κ : Nat) (o' : Own) (gs : List Nat) (ks : List Kl) (h' : Value) (F' : List Nat)
    (how : ∀ k, S'.ow k = if k = κ then some o' else if k ∈ gs then none else S.ow k) (hms : S'.ms = S.ms) (hmc : ∀ k i, S'.mc k i = (S.mc k i).kp ks)
    (hgs : ∀ k, k ∈ gs → .all k ∈ ks) (hκ : ∀ o, S.ow κ = some o → .all κ ∈ ks ∨ (.deep κ ∈ ks ∧ h' = c.hv κ ∧ ∃ xs', o' = ⟨o.e, o.r, xs'⟩ ∧ xs'.length = o.xs.length))
    (hst : Step w w' fun g => ∃ k, (k = κ ∨ k ∈ gs) ∧ S.ow k ≠ none ∧ g ∈ c.F k)
    (hF : ∀ g, g ∈ F' → g < w'.heap.size ∧ ((∃ k, (k = κ ∨ k ∈ gs) ∧ S.ow k ≠ none ∧ g ∈ c.F k) ∨ w.heap.size ≤ g)) (hnd : F'.Nodup)
    (hR : ∀ K', KSame w w' (Kok b S c) K' → (∀ g, w.heap.size ≤ g → g ∉ F' → K' g) → Rp w' K' (.sl true o'.e o'.r) o'.xs [h'] F') :
    ∃ c', c'.mb = c.mb ∧ c'.hv κ = h' ∧ c'.F κ = F' ∧ Inv b S' w' c' ∧ Stay S S' c c' w w' (Kok b S c) (Kok b S' c') ks ∧ ∀ k, k ≠ κ → c'.hv k = c.hv k ∧ c'.F k = c.F k := by
  let c' : Cc := ⟨c.mb, fun k => if k = κ then h' else c.hv k, fun k => if k = κ then F' else c.F k⟩
  have hcF : ∀ k, k ≠ κ → c'.F k = c.F k := fun k hk => by simp [c', hk]
  have hch : ∀ k, k ≠ κ → c'.hv k = c.hv k := fun k hk => by simp [c', hk]
  have hcκ : c'.F κ = F' := by simp [c']
  have hT : ∀ g, (∃ k, (k = κ ∨ k ∈ gs) ∧ S.ow k ≠ none ∧ g ∈ c.F k) → Owned S c g := fun g ⟨k, _, h1, h2⟩ => .inr ⟨k, h1, h2⟩
  have hkept : ∀ k, k ≠ κ → S'.ow k ≠ none → k ∉ gs ∧ S.ow k ≠ none := by
    intro k hk h
    rw [how, if_neg hk] at h
    by_cases hg : k ∈ gs
    · rw [if_pos hg] at h; exact absurd rfl h
    · rw [if_neg hg] at h; exact ⟨hg, h⟩
  have hown : ∀ g, Owned S' c' g → Owned S c g ∨ w.heap.size ≤ g := by
    rintro g (⟨k, hk, rfl⟩ | ⟨k, hk, hg⟩)
    · exact .inl (.inl ⟨k, by rw [hms] at hk; exact hk, rfl⟩)
    · by_cases hkκ : k = κ
      · subst hkκ
        rw [hcκ] at hg
        rcases (hF g hg).2 with h | h
        · exact .inl (hT g h)
        · exact .inr h
      · rw [hcF k hkκ] at hg
        exact .inl (.inr ⟨k, (hkept k hkκ hk).2, hg⟩)
  have kk : KSame w w' (Kok b S c) (Kok b S' c') := ksame hst hT hown
  have hsame : ∀ k, k ≠ κ → k ∉ gs → S.ow k ≠ none → Same w w' (c.F k) := fun k hk hg ho g hgF => hst.same g (hi.fr g (.inr ⟨k, ho, hgF⟩)).1 (by
    rintro ⟨k2, h1, h2, h3⟩
    have hne : k ≠ k2 := by rintro rfl; exact h1.elim hk hg
    exact hi.oo k k2 hne ho h2 g hgF h3)
  have stay : Stay S S' c c' w w' (Kok b S c) (Kok b S' c') ks := by
    refine Stay.of hi ?_ ?_ kk
    · intro k o ho
      by_cases hkκ : k = κ
      · subst hkκ
        rcases hκ o ho with h | ⟨h1, h2, xs', h3, h4⟩
        · exact .inl h
        · exact .inr (.inr ⟨h1, by simp [c', h2], xs', by rw [how, if_pos rfl, h3], h4⟩)
      · by_cases hg : k ∈ gs
        · exact .inl (hgs k hg)
        · exact .inr (.inl ⟨by rw [how, if_neg hkκ, if_neg hg]; exact ho, hch k hkκ, hsame k hkκ hg (by rw [ho]; simp)⟩)
    · intro k n hn
      exact .inr ⟨by rw [hms]; exact hn, rfl⟩
  refine ⟨c', rfl, by simp [c'], hcκ, ?_, stay, fun k hk => ⟨hch k hk, hcF k hk⟩⟩
  refine ⟨?_, ?_, ?_, ?_, ?_, ?_, ?_, hi.fix' hst hT, hst.os.trans hi.os, hst.tape.trans hi.tape, hst.output.trans hi.output, Nat.le_trans hi.size hst.size, hi.an⟩
  · intro k n hn
    rw [hms] at hn
    obtain ⟨cs, e, fr, h1, h2, h3, h4⟩ := hi.ms k n hn
    refine ⟨cs, e, fr, ?_, h2, h3, fun i u hu => by rw [hmc]; exact stay.leaf (h4 i u hu)⟩
    show w'.heap[c.mb k]? = _
    rw [hst.same _ (lt_size h1) (by rintro ⟨k2, _, h5, h6⟩; exact hi.mo k k2 (by rw [hn]; simp) h5 h6)]; exact h1
  · intro k o ho
    by_cases hkκ : k = κ
    · subst hkκ
      rw [how, if_pos rfl] at ho
      injection ho with ho
      subst ho
      have : c'.hv k = h' := by simp [c']
      rw [this, hcκ]
      refine hR _ kk fun g hg hgF => ⟨.inr (.inl (Nat.le_trans hi.size hg)), ?_⟩
      rintro (⟨k2, h1, rfl⟩ | ⟨k2, h1, h2⟩)
      · rw [hms] at h1
        have := (hi.fr (c.mb k2) (.inl ⟨k2, h1, rfl⟩)).1
        have h9 : c'.mb k2 = c.mb k2 := rfl
        omega
      · by_cases hk2 : k2 = k
        · subst hk2; rw [hcκ] at h2; exact hgF h2
        · rw [hcF k2 hk2] at h2
          have := (hi.fr g (.inr ⟨k2, (hkept k2 hk2 h1).2, h2⟩)).1
          omega
    · have h1 := hkept k hkκ (by rw [ho]; simp)
      rw [how, if_neg hkκ, if_neg h1.1] at ho
      rw [hch k hkκ, hcF k hkκ]
      exact Rp.frame kk _ _ (hi.ow k o ho) (hsame k hkκ h1.1 h1.2)
  · intro k hk
    by_cases hkκ : k = κ
    · subst hkκ; rw [hcκ]; exact hnd
    · rw [hcF k hkκ]; exact hi.nd k (hkept k hkκ hk).2
  · intro k1 k2 hne h1 h2 g hg
    by_cases hk1 : k1 = κ
    · have hk2 : k2 ≠ κ := fun h => hne (hk1.trans h.symm)
      have h4 := hkept k2 hk2 h2
      rw [hcF k2 hk2]
      subst hk1
      rw [hcκ] at hg
      rcases (hF g hg).2 with ⟨k3, h5, h6, h7⟩ | h5
      · have hne3 : k3 ≠ k2 := by rintro rfl; exact h5.elim hk2 h4.1
        exact hi.oo k3 k2 hne3 h6 h4.2 g h7
      · intro hx
        have := (hi.fr g (.inr ⟨k2, h4.2, hx⟩)).1
        omega
    · have h3 := hkept k1 hk1 h1
      rw [hcF k1 hk1] at hg
      by_cases hk2 : k2 = κ
      · subst hk2
        rw [hcκ]
        intro hx
        rcases (hF g hx).2 with ⟨k3, h5, h6, h7⟩ | h5
        · have hne3 : k1 ≠ k3 := by rintro rfl; exact h5.elim hk1 h3.1
          exact hi.oo k1 k3 hne3 h3.2 h6 g hg h7
        · have := (hi.fr g (.inr ⟨k1, h3.2, hg⟩)).1
          omega
      · rw [hcF k2 hk2]
        exact hi.oo k1 k2 hne h3.2 (hkept k2 hk2 h2).2 g hg
  · intro k1 k2 hne h1 h2; rw [hms] at h1 h2; exact hi.mm k1 k2 hne h1 h2
  · intro k1 k2 h1 h2
    rw [hms] at h1
    by_cases hk2 : k2 = κ
    · subst hk2
      rw [hcκ]
      intro hx
      rcases (hF _ hx).2 with ⟨k3, _, h6, h7⟩ | h5
      · exact hi.mo k1 k3 h1 h6 h7
      · have := (hi.fr (c.mb k1) (.inl ⟨k1, h1, rfl⟩)).1
        have h9 : c'.mb k1 = c.mb k1 := rfl
        omega
    · rw [hcF k2 hk2]; exact hi.mo k1 k2 h1 (hkept k2 hk2 h2).2
  · intro g hg
    refine ⟨?_, ?_⟩
    · rcases hg with ⟨k, hk, rfl⟩ | ⟨k, hk, hg⟩
      · rw [hms] at hk
        exact Nat.lt_of_lt_of_le (hi.fr (c.mb k) (.inl ⟨k, hk, rfl⟩)).1 hst.size
      · by_cases hkκ : k = κ
        · subst hkκ; rw [hcκ] at hg; exact (hF g hg).1
        · rw [hcF k hkκ] at hg
          exact Nat.lt_of_lt_of_le (hi.fr g (.inr ⟨k, (hkept k hkκ hk).2, hg⟩)).1 hst.size
    · rcases hown g hg with h | h
      · exact (hi.fr g h).2
      · exact .inl (Nat.le_trans hi.size h)
end Go.V

namespace Go.V
open Go.RowKit
def zeroV : Ty → Value
  | .int k => .int k 0
  | .bool => .bool false
  | .str => .string ⟨#[]⟩
  | .pt _ => .pointer none
  | .er => .nilIface
  | _ => .slice none 0 0
def zeroIs : Ty → Value → Bool
  | .int k, .int k' n => k == k' && n == 0
  | .bool, .bool b => !b
  | .str, .string s => s.data.isEmpty
  | .sl _ _ _, .slice none 0 0 => true
  | .pt _, .pointer none => true
  | _, _ => false
theorem zeroIs_eq {t : Ty} {v : Value} (h : zeroIs t v = true) : v = zeroV t ∧ t.size = 1 ∧ ∀ a b, t ≠ .pair a b := by
  unfold zeroIs at h
  split at h
  · simp only [Bool.and_eq_true, beq_iff_eq] at h
    obtain ⟨rfl, rfl⟩ := h
    exact ⟨rfl, rfl, by simp⟩
  · rename_i b
    cases b
    · exact ⟨rfl, rfl, by simp⟩
    · cases h
  · rename_i s
    obtain ⟨d⟩ := s
    simp only [Array.isEmpty_iff] at h
    subst h
    exact ⟨rfl, rfl, by simp⟩
  · exact ⟨rfl, rfl, by simp⟩
  · exact ⟨rfl, rfl, by simp⟩
  · cases h
def zerosAre : List Ty → List Value → Bool
  | [], [] => true
  | t :: ts, v :: vs => zeroIs t v && zerosAre ts vs
  | _, _ => false
theorem zerosAre_eq : ∀ {ts : List Ty} {vs : List Value}, zerosAre ts vs = true → vs = ts.map zeroV ∧ ∀ t ∈ ts, t.size = 1 ∧ ∀ a b, t ≠ .pair a b
  | [], [], _ => ⟨rfl, by simp⟩
  | t :: ts, v :: vs, h => by
    simp only [zerosAre, Bool.and_eq_true] at h
    obtain ⟨h1, h2⟩ := zeroIs_eq h.1
    obtain ⟨h3, h4⟩ := zerosAre_eq h.2
    refine ⟨by rw [h1, h3]; rfl, ?_⟩
    intro u hu
    rcases List.mem_cons.1 hu with rfl | hu
    · exact h2
    · exact h4 u hu
  | [], _ :: _, h => by simp [zerosAre] at h
  | _ :: _, [], h => by simp [zerosAre] at h
def descIs : Ty → TypeDesc → Bool
  | .int k, .int k' => k == k'
  | .bool, .bool => true
  | .str, .string => true
  | _, _ => false
def isAggD : TypeDesc → Bool
  | .struct _ | .array _ _ => true
  | _ => false
def fieldsAre (P : Program) : List (Nat × Nat × Bool) → List Field → Bool
  | [], [] => true
  | (o, n, ag) :: fs, f :: gs => f.offset == o && !(n == 0) && (match P.info? f.type with | some i => i.size == n | none => false) &&
      (match P.underlying f.type with | some d => isAggD d == ag | none => false) && fieldsAre P fs gs
  | _, _ => false
def eqAre (P : Program) : List Ty → List Field → Bool
  | [], [] => true
  | t :: ts, f :: gs => !(f.name == "_") && (match P.underlying f.type with | some d => descIs t d | none => false) && eqAre P ts gs
  | _, _ => false
def offsAre : List (Nat × Nat × Bool) → Nat → Bool
  | [], _ => true
  | (o, n, ag) :: fs, i => o == i && n == 1 && !ag && offsAre fs (i + 1)
def tyOk (P : Program) (t : TypeId) : TI → Bool
  | .cell u => (match P.underlying t with | some d => descIs u d | none => false) &&
      (match P.info? t with | some i => i.size == 1 && (match i.zero with | some z => zeroIs u z | none => false) | none => false)
  | .slice e ts bytes => (match P.underlying t with | some (.slice e') => e == e' | _ => false) &&
      (match P.info? t with | some i => i.size == 1 && (match i.zero with | some z => zeroIs (.sl true 0 .unit) z | none => false) | none => false) &&
      (match P.info? e with | some i => i.size == ts.length && i.bytes == bytes && !(bytes == 0) && !(ts.isEmpty) && (match i.zero with | some z => zerosAre ts z.cells.toList && !(ts.length == 1 && isAggD ((P.underlying e).getD .invalid) && false) | none => false) | none => false)
  | .struct fs row eq => (match P.underlying t with
      | some (.struct fields) => fieldsAre P fs fields.toList && (!eq || (eqAre P row fields.toList && offsAre fs 0 && !P.stoodInHeld t && !P.eqGuardType P.depth t))
      | _ => false) &&
      (match P.info? t with | some i => i.size == row.length && (match i.zero with | some (.agg cs) => zerosAre row cs.toList | _ => false) | none => false)
  | .ptr e => (match P.underlying t with | some (.pointer e') => e == e' | _ => false)
  | .err => (match P.underlying t with | some (.interface _) => true | _ => false)
  | .other => true
def TabOk (P : Program) (ti : TypeId → TI) : Prop := ∀ t, tyOk P t (ti t) = true
section
variable {P : Program} {ti : TypeId → TI} (h : TabOk P ti) {t : TypeId}
include h
theorem TabOk.cell {u : Ty} (ht : ti t = .cell u) : (∃ d, P.underlying t = some d ∧ descIs u d = true) ∧ ∃ i, P.info? t = some i ∧ i.size = 1 ∧ i.zero = some (zeroV u) ∧ u.size = 1 := by
  have := h t
  rw [ht] at this
  simp only [tyOk, Bool.and_eq_true] at this
  obtain ⟨h1, h2⟩ := this
  split at h1
  · rename_i d hd
    refine ⟨⟨d, hd, h1⟩, ?_⟩
    split at h2
    · rename_i i hi
      simp only [Bool.and_eq_true, beq_iff_eq] at h2
      obtain ⟨h3, h4⟩ := h2
      split at h4
      · rename_i z hz; exact ⟨i, hi, h3, by rw [hz, (zeroIs_eq h4).1], (zeroIs_eq h4).2.1⟩
      · cases h4
    · cases h2
  · cases h1
theorem TabOk.slice {e : TypeId} {ts : List Ty} {bytes : Nat} (ht : ti t = .slice e ts bytes) : P.underlying t = some (.slice e) ∧ (∃ i, P.info? t = some i ∧ i.size = 1 ∧ i.zero = some (.slice none 0 0)) ∧
    0 < bytes ∧ 0 < ts.length ∧ ∃ i z, P.info? e = some i ∧ i.size = ts.length ∧ i.bytes = bytes ∧ i.zero = some z ∧ z.cells.toList = ts.map zeroV ∧ ∀ t ∈ ts, t.size = 1 ∧ ∀ a b, t ≠ .pair a b := by
  have := h t
  rw [ht] at this
  simp only [tyOk, Bool.and_eq_true] at this
  obtain ⟨⟨h1, h2⟩, h3⟩ := this
  refine ⟨?_, ?_, ?_⟩
  · split at h1
    · rename_i e' he; simp only [beq_iff_eq] at h1; rw [he, h1]
    · cases h1
  · split at h2
    · rename_i i hi
      simp only [Bool.and_eq_true, beq_iff_eq] at h2
      obtain ⟨h4, h5⟩ := h2
      split at h5
      · rename_i z hz; exact ⟨i, hi, h4, by rw [hz, (zeroIs_eq h5).1]; rfl⟩
      · cases h5
    · cases h2
  · split at h3
    · rename_i i hi
      simp only [Bool.and_eq_true, beq_iff_eq, Bool.not_eq_true', beq_eq_false_iff_ne] at h3
      obtain ⟨⟨⟨⟨h4, h5⟩, h6⟩, h7⟩, h8⟩ := h3
      split at h8
      · rename_i z hz
        simp only [Bool.and_eq_true] at h8
        obtain ⟨h9, h10⟩ := zerosAre_eq h8.1
        refine ⟨by omega, ?_, i, z, hi, h4, h5, hz, h9, h10⟩
        cases ts with
        | nil => simp at h7
        | cons a b => simp
      · cases h8
    · cases h3
theorem TabOk.struct {fs : List (Nat × Nat × Bool)} {row : List Ty} {eq : Bool} (ht : ti t = .struct fs row eq) : ∃ fields, P.underlying t = some (.struct fields) ∧ fieldsAre P fs fields.toList = true ∧
    (eq = true → eqAre P row fields.toList = true ∧ offsAre fs 0 = true ∧ P.stoodInHeld t = false ∧ P.eqGuardType P.depth t = false) ∧
    ∃ i, P.info? t = some i ∧ i.size = row.length ∧ i.zero = some (.agg (row.map zeroV).toArray) ∧ ∀ t ∈ row, t.size = 1 ∧ ∀ a b, t ≠ .pair a b := by
  have := h t
  rw [ht] at this
  simp only [tyOk, Bool.and_eq_true] at this
  obtain ⟨h1, h2⟩ := this
  split at h1
  · rename_i fields hf
    simp only [Bool.and_eq_true, Bool.or_eq_true, Bool.not_eq_true'] at h1
    refine ⟨fields, hf, h1.1, ?_, ?_⟩
    · intro he
      rcases h1.2 with h3 | h3
      · rw [he] at h3; cases h3
      · exact ⟨h3.1.1.1, h3.1.1.2, h3.1.2, h3.2⟩
    · split at h2
      · rename_i i hi
        simp only [Bool.and_eq_true, beq_iff_eq] at h2
        obtain ⟨h4, h5⟩ := h2
        split at h5
        · rename_i cs hz
          obtain ⟨h6, h7⟩ := zerosAre_eq h5
          refine ⟨i, hi, h4, ?_, h7⟩
          rw [hz, ← h6]
        · cases h5
      · cases h2
  · cases h1
theorem TabOk.ptr {e : TypeId} (ht : ti t = .ptr e) : P.underlying t = some (.pointer e) := by
  have := h t
  rw [ht] at this
  simp only [tyOk] at this
  split at this
  · rename_i e' he; simp only [beq_iff_eq] at this; rw [he, this]
  · cases this
end
def Tr.ev {α : Type} (S : St) : Tr α → Option α
  | .ret a => some a
  | .fail => none
  | .br c t e => if c = true then t.ev S else e.ev S
  | .get _ o f => o.bind fun b => (f b).ev S
  | .alt _ _ s f g => match s with
    | .inl b => (f b).ev S
    | .inr b => (g b).ev S
  | .rdO k f => (f (S.ow k)).ev S
  | .rdC k off f => (f (S.mc k off)).ev S
  | .rdM k f => (f (S.ms k)).ev S
theorem ev_bind {α β : Type} (S : St) (t : Tr α) (f : α → Tr β) : (t.bind f).ev S = (t.ev S).bind fun x => (f x).ev S := by
  induction t with
  | ret a => rfl
  | fail => rfl
  | br c t e ih1 ih2 => simp only [Tr.bind, Tr.ev]; split <;> assumption
  | get γ o g ih => cases o <;> simp [Tr.bind, Tr.ev, ih]
  | alt γ δ s g h ih1 ih2 => cases s <;> simp [Tr.bind, Tr.ev, ih1, ih2]
  | rdO k g ih => simp [Tr.bind, Tr.ev, ih]
  | rdC k off g ih => simp [Tr.bind, Tr.ev, ih]
  | rdM k g ih => simp [Tr.bind, Tr.ev, ih]
theorem at_ev {α : Type} (S : St) (t : Tr α) : ∀ (g : List Lg) {x : α} {l : List Lg}, (t.at S g).run = some (x, l) → t.ev S = some x := by
  induction t with
  | ret a => intro g x l h; simp only [Tr.at, Tr.run, Option.some.injEq, Prod.mk.injEq] at h; simp [Tr.ev, h.1]
  | fail => intro g x l h; simp [Tr.at, Tr.run] at h
  | br c t e ih1 ih2 =>
    intro g x l h
    simp only [Tr.at, Tr.run] at h
    simp only [Tr.ev]
    split at h
    · rename_i hc; rw [if_pos hc]; exact ih1 g h
    · rename_i hc; rw [if_neg hc]; exact ih2 g h
  | get γ o f ih =>
    intro g x l h
    simp only [Tr.at, run_get, Option.bind_eq_some_iff] at h
    obtain ⟨b, hb, h⟩ := h
    simp only [Tr.ev, hb, Option.bind_some]
    exact ih b g h
  | alt γ δ s f f' ih1 ih2 =>
    intro g x l h
    cases s with
    | inl b => exact ih1 b g h
    | inr b => exact ih2 b g h
  | rdO k f ih => intro g x l h; exact ih _ _ h
  | rdC k off f ih => intro g x l h; exact ih _ _ h
  | rdM k f ih => intro g x l h; exact ih _ _ h
theorem ev_iff {α : Type} {S : St} {c : Bool} {t : Tr α} {a : α} (h : (Tr.iff c t).ev S = some a) : c = true ∧ t.ev S = some a := by
  simp only [Tr.ev] at h
  split at h
  · exact ⟨by assumption, h⟩
  · cases h
theorem ev_get {S : St} : ∀ (st : Steps) (t : Ty) (x : t.D), (getT t x st).ev S = (getT t x st).run
  | [], _, _ => rfl
  | (i, j) :: ps, t, x => by
    match t, x with
    | .sl true e r, xs =>
      simp only [getT, Tr.ev, run_get]
      congr 1; funext row
      split
      · rename_i d _; exact ev_get ps d.1 d.2
      · rfl
    | .sl false _ _, _ => rfl
    | .int _, _ => rfl
    | .bool, _ => rfl
    | .er, _ => rfl
    | .str, _ => rfl
    | .pt _, _ => rfl
    | .unit, _ => rfl
    | .pair _ _, _ => rfl
theorem ev_set {S : St} : ∀ (st : Steps) (t : Ty) (x : t.D) (u : Ty) (z : u.D), (setT t x st u z).ev S = (setT t x st u z).run
  | [], t, x, u, z => by simp only [setT]; split <;> rfl
  | (i, j) :: ps, t, x, u, z => by
    match t, x with
    | .sl true e r, xs =>
      simp only [setT, Tr.ev, run_get]
      congr 1; funext row
      split
      · rename_i d _
        rw [ev_bind, run_bind, ev_set ps d.1 d.2 u z]
        congr 1; funext y
        split <;> rfl
      · rfl
    | .sl false _ _, _ => rfl
    | .int _, _ => rfl
    | .bool, _ => rfl
    | .er, _ => rfl
    | .str, _ => rfl
    | .pt _, _ => rfl
    | .unit, _ => rfl
    | .pair _ _, _ => rfl
theorem const_ok {S : St} {c : Cc} {w : World} {K : Nat → Prop} (v : Value) : SVOk S c w K (constSV v) v := by
  unfold constSV
  split
  · simp [SVOk, S1Ok, LeafOk, Rp]
  · simp [SVOk, S1Ok, LeafOk, Rp]
  · rename_i s; simp [SVOk, S1Ok, LeafOk, Rp]
  · simp [SVOk, S1Ok, LeafOk]
  · simp [SVOk, S1Ok, LeafOk, Rp, ErV]
  · trivial
theorem opnd_ok {N : Nat} {S : St} {c : Cc} {w : World} {K : Nat → Prop} {a : Act} (hs : Slots N S c w K a) (x : Operand) : SVOk S c w K (opnd S x) (a.eval x) := by
  cases x with
  | tmp t => exact hs.ok t
  | const v => exact const_ok v
  | global g => trivial
  | func f => exact ⟨[], rfl, .nil⟩
theorem Rp.one {w : World} {K : Nat → Prop} : ∀ (t : Ty) (x : t.D) {vs F}, Rp w K t x vs F → ∀ v ∈ vs, v.oneCell' = true
  | .int _, _, _, _, h => by simp only [Rp] at h; simp [h.1, Value.oneCell']
  | .bool, _, _, _, h => by simp only [Rp] at h; simp [h.1, Value.oneCell']
  | .er, b, _, _, h => by
    simp only [Rp] at h
    obtain ⟨v, rfl, _, hv⟩ := h
    cases b with
    | false => simp only [ErV] at hv; subst hv; simp [Value.oneCell']
    | true => obtain ⟨te, pe, rfl⟩ := hv; simp [Value.oneCell']
  | .str, _, _, _, h => by simp only [Rp] at h; simp [h.1, Value.oneCell']
  | .unit, _, _, _, h => by simp only [Rp] at h; simp [h.1]
  | .pair a b, x, _, _, h => by
    simp only [Rp] at h
    obtain ⟨v1, v2, F1, F2, rfl, _, h1, h2⟩ := h
    intro v hv
    rcases List.mem_append.1 hv with hv | hv
    · exact Rp.one a _ h1 v hv
    · exact Rp.one b _ h2 v hv
  | .sl true _ r, _, _, _, h => by
    simp only [Rp] at h
    rcases h with ⟨_, _, rfl⟩ | ⟨g, off, c, cs, fr, F', rfl, _⟩ <;> simp [Value.oneCell']
  | .sl false _ r, _, _, _, h => by
    simp only [Rp] at h
    obtain ⟨_, A, c, ws, rfl, _⟩ := h
    simp [Value.oneCell']
  | .pt t, o, _, _, h => by
    simp only [Rp] at h
    cases o with
    | none => simp [h.2, Value.oneCell']
    | some x => obtain ⟨_, ad, ws, rfl, _⟩ := h; simp [Value.oneCell']
theorem own_slice {w : World} {K : Nat → Prop} {e : TypeId} {r : Ty} {xs : List r.D} {h : Value} {F : List Nat} (hp : Rp w K (.sl true e r) xs [h] F) : ∃ A cap, h = .slice A xs.length cap ∧ (A = none → xs = [] ∧ cap = 0 ∧ F = []) := by
  simp only [Rp] at hp
  rcases hp with ⟨rfl, rfl, h1⟩ | ⟨g, off, cap, cs, fr, F', h1, _⟩
  · injection h1 with h1; exact ⟨none, 0, h1, fun _ => ⟨rfl, rfl, rfl⟩⟩
  · injection h1 with h1; exact ⟨_, cap, h1, fun h => by cases h⟩
theorem win_slice {size len : Nat} {win : Option (Nat × Nat)} {A : Option Addr} {cap : Nat} {v : Value} (h : WinOk size len win (.slice A len cap) v) : ∃ A' n cap', v = .slice A' n cap' := by
  cases win with
  | none => exact ⟨A, len, cap, h⟩
  | some p =>
    obtain ⟨lo, m⟩ := p
    obtain ⟨A0, n0, cap0, A', cap', q, _, h2, _⟩ := h
    exact ⟨A', _, cap', h2⟩
theorem vw_slice {b : Base} {S : St} {c : Cc} {w : World} {K : Nat → Prop} (hi : Inv b S w c) {k : Nat} {st : Steps} {win : Option (Nat × Nat)} {v : Value} (h : LeafOk S c w K (.vw k st win) v) : ∃ A n cap, v = .slice A n cap := by
  obtain ⟨o, e, r, ys, hd, ho, hg, hh, hw⟩ := h
  obtain ⟨h', F', h1, h2, _⟩ := Rp.reach st _ _ (hi.ow k o ho) hg
  rw [hh] at h1
  injection h1 with h1
  subst h1
  obtain ⟨A, cap, rfl, _⟩ := own_slice h2
  exact win_slice hw
theorem leaf_one {b : Base} {S : St} {c : Cc} {w : World} {K : Nat → Prop} (hi : Inv b S w c) {l : Leaf} {v : Value} (h : LeafOk S c w K l v) (hl : l.is = true) : v.oneCell' = true := by
  cases l with
  | v t x => exact Rp.one t x h v (by simp)
  | vw k st win => obtain ⟨A, n, cap, rfl⟩ := vw_slice hi h; rfl
  | qn e => obtain ⟨q, rfl, _⟩ := h; rfl
  | nil => rw [show v = .slice none 0 0 from h]; rfl
  | no => cases hl
theorem one_cells {v : Value} (h : v.oneCell' = true) : v.cells = #[v] := by cases v <;> first | rfl | (simp [Value.oneCell'] at h)
theorem leaves_ok {b : Base} {S : St} {c : Cc} {w : World} {K : Nat → Prop} (hi : Inv b S w c) {x : SV} {v : Value} {ls : List Leaf} (hx : SVOk S c w K x v) (hl : leaves x = some ls) :
    ∃ vs : List Value, v.cells = vs.toArray ∧ All2 (LeafOk S c w K) ls vs ∧ (∀ u ∈ vs, u.oneCell' = true) := by
  match x, hx, hl with
  | .s (.one l), hx, hl =>
    simp only [leaves] at hl
    split at hl
    · rename_i hl'
      injection hl with hl
      subst hl
      have := leaf_one hi hx hl'
      exact ⟨[v], one_cells this, .cons hx .nil, by simpa using this⟩
    · cases hl
  | .s (.ag ls'), hx, hl =>
    simp only [leaves] at hl
    split at hl
    · rename_i hl'
      injection hl with hl
      subst hl
      obtain ⟨vs, rfl, hv⟩ := hx
      refine ⟨vs, rfl, hv, ?_⟩
      intro u hu
      have key : ∀ (ls : List Leaf) (vs : List Value), All2 (LeafOk S c w K) ls vs → ls.all Leaf.is = true → ∀ u ∈ vs, u.oneCell' = true := by
        intro ls vs h
        induction h with
        | nil => intro _ u hu; cases hu
        | cons h1 _ ih =>
          intro hall u hu
          simp only [List.all_cons, Bool.and_eq_true] at hall
          rcases List.mem_cons.1 hu with rfl | hu
          · exact leaf_one hi h1 hall.1
          · exact ih hall.2 u hu
      exact key _ _ hv hl' u hu
    · cases hl
  | .s (.pl ..), _, hl => simp [leaves] at hl
  | .s (.el ..), _, hl => simp [leaves] at hl
  | .s (.rp ..), _, hl => simp [leaves] at hl
  | .s (.fv ..), _, hl => simp [leaves] at hl
  | .tu _, _, hl => simp [leaves] at hl
  | .un, _, hl => simp [leaves] at hl
  | .no, _, hl => simp [leaves] at hl
end Go.V

namespace Go.V
open Go.RowKit
def Did (b : Base) (S : St) (c : Cc) (w : World) (out : Out) (v : Value) (w' : World) : Prop :=
  ∃ c', Inv b ((S.kp out.ks).ups out.us) w' c' ∧ Stay S ((S.kp out.ks).ups out.us) c c' w w' (Kok b S c) (Kok b ((S.kp out.ks).ups out.us) c') out.ks ∧
    SVOk ((S.kp out.ks).ups out.us) c' w' (Kok b ((S.kp out.ks).ups out.us) c') out.x v
theorem Did.same {b : Base} {S : St} {c : Cc} {w : World} (hi : Inv b S w c) {x : SV} {v : Value} (hx : SVOk S c w (Kok b S c) x v) : Did b S c w ⟨x, [], []⟩ v w :=
  ⟨c, hi, ⟨fun _ _ _ _ _ h => h, fun _ _ _ _ h => h, fun _ _ _ _ h => h, KSame.refl _ _⟩, hx⟩
theorem Did.sim {b : Base} {N : Nat} {S : St} {c : Cc} {w w' : World} {a : Act} {out : Out} {v : Value} (hs : Slots N S c w (Kok b S c) a) (h : Did b S c w out v w') (d : Option Nat) (hd : ∀ k, d = some k → k < N)
    (hfx : ∀ p, p ∈ b.fx → a.tmps.getD p.1 undef = p.2) (hdx : ∀ k, d = some k → ∀ p, p ∈ b.fx → p.1 ≠ k) :
    Sim b N (S.app d out) (a.put d v) w' := by
  obtain ⟨c', h1, h2, h3⟩ := h
  refine ⟨c', h1.put (putO_ow ..) (putO_ms ..) (putO_mc ..), ?_, put_fx hfx hdx⟩
  show Slots N (((S.kp out.ks).ups out.us).putO d out.x) c' w' (Kok b (((S.kp out.ks).ups out.us).putO d out.x) c') _
  rw [kok_same (putO_ow _ d out.x) (putO_ms _ d out.x)]
  exact h2.slots hs (fun i => by rw [ups_sl, kp_sl]) d out.x v hd h3 (fun l v => leaf_same (putO_ow ..) l v) (fun x v => s1_same (putO_ow ..) (putO_ms ..) x v)
section
variable {P : Program} {w : World} {K : Nat → Prop} {S : St} {c : Cc}
theorem ba_toList (l : List UInt8) : (⟨l.toArray⟩ : ByteArray).toList = l := by
  simp
theorem int_leaf {k : IntKind} {n : Int} {v : Value} (h : LeafOk S c w K (.v (.int k) n) v) : v = .int k n := by
  have := h; simp only [LeafOk, Rp] at this; simpa using this.1
theorem bool_leaf {n : Bool} {v : Value} (h : LeafOk S c w K (.v .bool n) v) : v = .bool n := by
  have := h; simp only [LeafOk, Rp] at this; simpa using this.1
theorem er_leaf {n : Bool} {v : Value} (h : LeafOk S c w K (.v .er n) v) : ErV n v := by
  have := h; simp only [LeafOk, Rp] at this
  obtain ⟨u, h1, _, h2⟩ := this
  simp only [List.cons.injEq, and_true] at h1
  subst h1; exact h2
theorem str_leaf {n : List UInt8} {v : Value} (h : LeafOk S c w K (.v .str n) v) : v = .string ⟨n.toArray⟩ := by
  have := h; simp only [LeafOk, Rp] at this; simpa using this.1
theorem mk_int {k : IntKind} {n : Int} : LeafOk S c w K (.v (.int k) n) (.int k n) := by simp [LeafOk, Rp]
theorem mk_bool {n : Bool} : LeafOk S c w K (.v .bool n) (.bool n) := by simp [LeafOk, Rp]
theorem mk_str {n : List UInt8} : LeafOk S c w K (.v .str n) (.string ⟨n.toArray⟩) := by simp [LeafOk, Rp]
theorem sv_leaf {l : Leaf} {v : Value} (h : LeafOk S c w K l v) : SVOk S c w K (.s (.one l)) v := h
theorem leaf_sv {l : Leaf} {v : Value} (h : SVOk S c w K (.s (.one l)) v) : LeafOk S c w K l v := h
theorem guard_one (op : BinOp) (t : TypeId) (x y : Operand) {u v : Value} (hu : u.oneCell' = true) (hn : u ≠ .nilIface) : eqGuard op t x y u v = pure () := by
  cases u <;> first | (simp [Value.oneCell'] at hu; done) | (exact absurd rfl hn) | (cases op <;> rfl)
theorem equalIn_bool (d : Nat) (t : TypeId) (a b : Bool) (ht : P.underlying t = some .bool) : (Op.equalIn (d + 1) t (.bool a) (.bool b)).run P w = .ok (a == b) w := by
  simp only [Op.equalIn, Sem.run_bind, run_underlying ht, Result.andThen_ok, Sem.run_pure]
theorem equalIn_int (d : Nat) (t : TypeId) (k k' : IntKind) (a b : Int) (ht : P.underlying t = some (.int k')) : (Op.equalIn (d + 1) t (.int k a) (.int k b)).run P w = .ok (a == b) w := by
  simp only [Op.equalIn, Sem.run_bind, run_underlying ht, Result.andThen_ok, if_true, Sem.run_pure]
theorem bool_eql (t : TypeId) (a b : Bool) (ht : P.underlying t = some .bool) : (binOp .eql t (.bool a) (.bool b)).run P w = .ok (.bool (a == b)) w := by
  simp only [binOp, Op.equal, Sem.run_bind, show Op.maxDepth = 9999 + 1 from rfl, equalIn_bool _ _ _ _ ht, Result.andThen_ok, Sem.run_pure]
theorem bool_neq (t : TypeId) (a b : Bool) (ht : P.underlying t = some .bool) : (binOp .neq t (.bool a) (.bool b)).run P w = .ok (.bool (a != b)) w := by
  simp only [binOp, Op.equal, Sem.run_bind, show Op.maxDepth = 9999 + 1 from rfl, equalIn_bool _ _ _ _ ht, Result.andThen_ok, Sem.run_pure]
  rfl
theorem err_under {ti : TypeId → TI} (hT : TabOk P ti) {t : TypeId} (ht : ti t = .err) : ∃ ms, P.underlying t = some (.interface ms) := by
  have := hT t
  rw [ht] at this
  simp only [tyOk] at this
  split at this
  · rename_i ms hms; exact ⟨ms, hms⟩
  · cases this
theorem equalIn_held (d : Nat) (t : TypeId) {ms : Array (String × TypeId)} (hu : P.underlying t = some (.interface ms)) (u : TypeId) (x : Value) : (Op.equalIn (d + 1) t (.iface u x) .nilIface).run P w = .ok false w := by
  rw [Op.equalIn]
  simp [run_underlying hu]
theorem equalIn_nil2 (d : Nat) (t : TypeId) {ms : Array (String × TypeId)} (hu : P.underlying t = some (.interface ms)) : (Op.equalIn (d + 1) t .nilIface .nilIface).run P w = .ok true w := by
  rw [Op.equalIn]
  simp [run_underlying hu]
theorem er_neq (t : TypeId) (x : Operand) {n : Bool} {v : Value} (hv : ErV n v) {ms : Array (String × TypeId)} (hu : P.underlying t = some (.interface ms)) : (do eqGuard .neq t x (.const .nilIface) v .nilIface; binOp .neq t v .nilIface).run P w = .ok (.bool n) w := by
  cases n with
  | false =>
    simp only [ErV] at hv
    subst hv
    rw [show eqGuard .neq t x (.const .nilIface) .nilIface .nilIface = pure () by cases x <;> rfl]
    simp only [Sem.run_bind, Sem.run_pure, Result.andThen_ok, binOp, Op.equal, show Op.maxDepth = 9999 + 1 from rfl, equalIn_nil2 _ _ hu]
    rfl
  | true =>
    obtain ⟨te, pe, rfl⟩ := hv
    rw [show eqGuard .neq t x (.const .nilIface) (.iface te pe) .nilIface = pure () from rfl]
    simp only [Sem.run_bind, Sem.run_pure, Result.andThen_ok, binOp, Op.equal, show Op.maxDepth = 9999 + 1 from rfl, equalIn_held _ _ hu]
    rfl
theorem vbin_ok (op : BinOp) (t : TypeId) (x y : Leaf) (u v : Value) (l : Leaf) (hx : LeafOk S c w K x u) (hy : LeafOk S c w K y v) (h : (vbin op x y).ev S = some l)
    (ht : ∀ a, x = .v .bool a → P.underlying t = some .bool) : ∃ r, (binOp op t u v).run P w = .ok r w ∧ LeafOk S c w K l r := by
  unfold vbin at h
  split at h
  · rename_i k a k' b'
    obtain rfl := int_leaf hx
    obtain rfl := int_leaf hy
    split at h
    · obtain ⟨h1, h2⟩ := ev_iff h
      simp only [decide_eq_true_eq] at h1
      simp only [Tr.ev, Option.some.injEq] at h2
      subst h2
      have : ¬ ((b' : Int) < 0) := Int.not_lt.2 h1
      exact ⟨_, by simp [binOp, Op.shift, this], mk_int⟩
    · obtain ⟨h1, h2⟩ := ev_iff h
      simp only [decide_eq_true_eq] at h1
      simp only [Tr.ev, Option.some.injEq] at h2
      subst h2
      have : ¬ ((b' : Int) < 0) := Int.not_lt.2 h1
      exact ⟨_, by simp [binOp, Op.shift, this], mk_int⟩
    · rename_i hs1 hs2
      split at h
      · rename_i hk
        subst hk
        split at h
        case h_4 | h_5 =>
          obtain ⟨h1, h2⟩ := ev_iff h
          simp only [decide_eq_true_eq] at h1
          simp only [Tr.ev, Option.some.injEq] at h2
          subst h2
          exact ⟨_, by simp [binOp, Op.intDiv, h1], mk_int⟩
        case h_16 => simp [Tr.ev] at h
        all_goals
          simp only [Tr.ev, Option.some.injEq] at h
          subst h
        · exact ⟨_, by simp [binOp, Op.intArith] <;> rfl, mk_int⟩
        · exact ⟨_, by simp [binOp, Op.intArith] <;> rfl, mk_int⟩
        · exact ⟨_, by simp [binOp, Op.intArith] <;> rfl, mk_int⟩
        · exact ⟨_, by simp [binOp, Op.intBits] <;> rfl, mk_int⟩
        · exact ⟨_, by simp [binOp, Op.intBits] <;> rfl, mk_int⟩
        · exact ⟨_, by simp [binOp, Op.intBits] <;> rfl, mk_int⟩
        · exact ⟨_, by simp [binOp, Op.intBits] <;> rfl, mk_int⟩
        · exact ⟨_, by simp [binOp, Op.intCmp] <;> rfl, mk_bool⟩
        · exact ⟨_, by simp [binOp, Op.intCmp] <;> rfl, mk_bool⟩
        · exact ⟨_, by simp [binOp, Op.intCmp] <;> rfl, mk_bool⟩
        · exact ⟨_, by simp [binOp, Op.intCmp] <;> rfl, mk_bool⟩
        · exact ⟨_, by simp [binOp, Op.intCmp] <;> rfl, mk_bool⟩
        · exact ⟨_, by simp [binOp, Op.intCmp] <;> rfl, mk_bool⟩
      · simp [Tr.ev] at h
  · rename_i a b'
    obtain rfl := bool_leaf hx
    obtain rfl := bool_leaf hy
    have htt := ht a rfl
    split at h
    · simp only [Tr.ev, Option.some.injEq] at h; subst h; exact ⟨_, bool_eql t a b' htt, mk_bool⟩
    · simp only [Tr.ev, Option.some.injEq] at h; subst h; exact ⟨_, bool_neq t a b' htt, mk_bool⟩
    · simp [Tr.ev] at h
  · rename_i a b'
    obtain rfl := str_leaf hx
    obtain rfl := str_leaf hy
    have e1 := ba_toList a
    have e2 := ba_toList b'
    split at h
    · obtain ⟨h1, h2⟩ := ev_iff h
      simp only [decide_eq_true_eq] at h1
      simp only [Tr.ev, Option.some.injEq] at h2
      subst h2
      refine ⟨.string (⟨(List.toArray a)⟩ ++ ⟨List.toArray b'⟩), ?_, ?_⟩
      · have : ¬ ((9223372036854775807 : Int) < (List.length a : Int) + (List.length b' : Int)) := by omega
        simp [binOp, Op.stringOp, ByteArray.size, this]
      · have : (⟨(List.toArray a)⟩ ++ ⟨List.toArray b'⟩ : ByteArray) = ⟨((a : List UInt8) ++ b').toArray⟩ := by
          apply ByteArray.ext; simp
        rw [this]; exact mk_str
    · simp only [Tr.ev, Option.some.injEq] at h; subst h; exact ⟨_, by simp [binOp, Op.stringOp, e1, e2] <;> rfl, mk_bool⟩
    · simp only [Tr.ev, Option.some.injEq] at h; subst h; exact ⟨_, by simp [binOp, Op.stringOp, e1, e2] <;> rfl, mk_bool⟩
    · simp only [Tr.ev, Option.some.injEq] at h; subst h; exact ⟨_, by simp [binOp, Op.stringOp, e1, e2] <;> rfl, mk_bool⟩
    · simp only [Tr.ev, Option.some.injEq] at h; subst h; exact ⟨_, by simp [binOp, Op.stringOp, e1, e2] <;> rfl, mk_bool⟩
    · simp only [Tr.ev, Option.some.injEq] at h; subst h; exact ⟨_, by simp [binOp, Op.stringOp, e1, e2] <;> rfl, mk_bool⟩
    · simp only [Tr.ev, Option.some.injEq] at h; subst h; exact ⟨_, by simp [binOp, Op.stringOp, e1, e2] <;> rfl, mk_bool⟩
    · simp [Tr.ev] at h
  · simp [Tr.ev] at h
theorem vun_ok (op : UnOp) (x : Leaf) (u : Value) (l : Leaf) (hx : LeafOk S c w K x u) (h : (vun op x).ev S = some l) : ∃ r, (Op.unary op u).run P w = .ok r w ∧ LeafOk S c w K l r := by
  unfold vun at h
  split at h
  · obtain rfl := int_leaf hx
    split at h
    · simp only [Tr.ev, Option.some.injEq] at h; subst h; exact ⟨_, by simp [Op.unary, Op.intArith] <;> rfl, mk_int⟩
    · simp only [Tr.ev, Option.some.injEq] at h; subst h; exact ⟨_, by simp [Op.unary, Op.intBits] <;> rfl, mk_int⟩
    · simp [Tr.ev] at h
  · obtain rfl := bool_leaf hx
    split at h
    · simp only [Tr.ev, Option.some.injEq] at h; subst h; exact ⟨_, by simp [Op.unary] <;> rfl, mk_bool⟩
    · simp [Tr.ev] at h
  · simp [Tr.ev] at h
end
end Go.V

namespace Go.V
open Go.RowKit
theorem drop_take_take {α : Type} (l : List α) (a b n k : Nat) (h : a + b ≤ n) : (((l.drop k).take n).drop a).take b = (l.drop (k + a)).take b := by
  rw [List.drop_take, List.drop_drop, List.take_take]
  congr 1; omega
theorem own_win {w : World} {K : Nat → Prop} {e : TypeId} {r : Ty} {ys : List r.D} {h v : Value} {F : List Nat} {lo m : Nat} (hp : Rp w K (.sl true e r) ys [h] F) (hnd : F.Nodup) (hw : WinOk r.size ys.length (some (lo, m)) h v) :
    ∃ F', Rp w K (.sl true e r) ((ys.drop lo).take m) [v] F' ∧ (∀ g, g ∈ F' → g ∈ F) ∧ F'.Nodup := by
  obtain ⟨A, n, cap, A', cap', q, hh, hv, hle, hq, hlo, hnone, hsome⟩ := hw
  have hlen : ((ys.drop lo).take m).length = min m (ys.length - lo) := by rw [List.length_take, List.length_drop]
  simp only [Rp] at hp ⊢
  rcases hp with ⟨rfl, rfl, h1⟩ | ⟨g, off, c, cs, fr, F0, h1, rfl, hg, hn, hoff, hc, hr⟩
  · injection h1 with h1
    rw [hh] at h1
    injection h1 with h2 h3 h4
    obtain ⟨h5, h6⟩ := hnone h2
    subst h5 h6
    refine ⟨[], .inl ⟨by simp, rfl, ?_⟩, by simp, by simp⟩
    rw [hv]; simp
  · injection h1 with h1 _
    rw [hh] at h1
    injection h1 with h2 h3 h4
    subst h2 h3 h4
    have hA := hsome _ rfl
    subst hA
    have hsplit : ys = ys.take lo ++ ((ys.drop lo).take m ++ (ys.drop lo).drop m) := by rw [List.take_append_drop, List.take_append_drop]
    rw [hsplit] at hr
    obtain ⟨v1, v23, F1, F23, e1, rfl, r1, r23⟩ := RpL.split hr
    obtain ⟨v2, v3, F2, F3, rfl, rfl, r2, r3⟩ := RpL.split r23
    have l1 := RpL.len (fun x vs F h => Rp.len r x h) r1
    have l2 := RpL.len (fun x vs F h => Rp.len r x h) r2
    have l3 := RpL.len (fun x vs F h => Rp.len r x h) r3
    refine ⟨g :: F2, .inr ⟨g, off + q * r.size, cap', cs, fr, F2, ?_, rfl, hg, hn, ?_, ?_, ?_⟩, ?_, ?_⟩
    · rw [hv, hlen, add_blk]
    · have : (q + cap') * r.size ≤ cap * r.size := Nat.mul_le_mul_right _ hq
      rw [Nat.add_mul] at this; omega
    · rw [hlen]; exact hle
    · rw [hlen]
      rcases Nat.eq_zero_or_pos (min m (ys.length - lo)) with hz | hz
      · rw [hz]
        have hnil : (ys.drop lo).take m = [] := List.eq_nil_of_length_eq_zero (by rw [hlen, hz])
        rw [hnil] at r2 ⊢
        simp only [Nat.zero_mul, List.take_zero]
        exact ⟨rfl, r2.2⟩
      · have hqlo := hlo hz
        subst hqlo
        rw [List.take_append_drop, List.take_append_drop] at e1
        have hlo' : q < ys.length := by omega
        have hl1 : v1.length = q * r.size := by rw [l1, List.length_take]; congr 1; omega
        have hl2 : v2.length = min m (ys.length - q) * r.size := by rw [l2, hlen]
        have : (cs.toList.drop (off + q * r.size)).take (min m (ys.length - q) * r.size) = v2 := by
          have hb : q * r.size + min m (ys.length - q) * r.size ≤ ys.length * r.size := by rw [← Nat.add_mul]; exact Nat.mul_le_mul_right _ (by omega)
          have := drop_take_take cs.toList (q * r.size) (min m (ys.length - q) * r.size) (ys.length * r.size) off hb
          rw [← this, e1, ← hl1, List.drop_left, ← hl2, List.take_left]
        rw [this]; exact r2
    · intro b hb
      rcases List.mem_cons.1 hb with rfl | hb
      · simp
      · simp [hb]
    · rw [List.nodup_cons] at hnd ⊢
      refine ⟨fun hb => hnd.1 (by simp [hb]), ?_⟩
      exact (List.nodup_append.1 (List.nodup_append.1 hnd.2).2.1).1
theorem view_own {b : Base} {S : St} {c : Cc} {w : World} (hi : Inv b S w c) {k : Nat} {st : Steps} {win : Option (Nat × Nat)} {v : Value} {o : Own} (h : LeafOk S c w (Kok b S c) (.vw k st win) v) (hv : (viewT k st win).ev S = some o) :
    S.ow k ≠ none ∧ ∃ F', Rp w (Kok b S c) (.sl true o.e o.r) o.xs [v] F' ∧ (∀ g, g ∈ F' → g ∈ c.F k) ∧ F'.Nodup := by
  obtain ⟨o0, e, r, ys, hd, ho, hg, hh, hw⟩ := h
  refine ⟨by rw [ho]; simp, ?_⟩
  simp only [viewT, Tr.ev, ho, ev_bind, Option.bind_eq_some_iff] at hv
  obtain ⟨c0, hc0, hv⟩ := hv
  rw [ev_get] at hc0
  rw [hg] at hc0
  injection hc0 with hc0
  subst hc0
  have hown := hi.ow k o0 ho
  have hndk := hi.nd k (by rw [ho]; simp)
  obtain ⟨h', F', h1, h2, h3, h9, _⟩ := Rp.reach st _ _ hown hg
  rw [hh] at h1
  injection h1 with h1
  subst h1
  have hnd' : F'.Nodup := h9 hndk
  cases win with
  | none =>
    simp only [Tr.ev, Option.some.injEq] at hv
    subst hv
    have hw' : v = hd := hw
    subst hw'
    exact ⟨F', h2, h3, hnd'⟩
  | some p =>
    obtain ⟨lo, m⟩ := p
    simp only [Tr.ev, Option.some.injEq] at hv
    subst hv
    obtain ⟨F2, h4, h5, h6⟩ := own_win h2 hnd' hw
    exact ⟨F2, h4, fun g hg => h3 g (h5 g hg), h6⟩
def winLen (win : Option (Nat × Nat)) (n : Nat) : Nat := match win with | none => n | some (lo, m) => min m (n - lo)
theorem view_info {b : Base} {S : St} {c : Cc} {w : World} (hi : Inv b S w c) {k : Nat} {st : Steps} {win : Option (Nat × Nat)} {v : Value} {o : Own} (h : LeafOk S c w (Kok b S c) (.vw k st win) v) (hv : (viewT k st win).ev S = some o) :
    ∃ (o0 : Own) (ys : List o.r.D) (A : Option Addr) (cap : Nat), S.ow k = some o0 ∧ (getT (.sl true o0.e o0.r) o0.xs st).run = some ⟨.sl true o.e o.r, ys⟩ ∧ hdr w (c.hv k) (.sl true o0.e o0.r) st = some (.slice A ys.length cap) ∧
      (A = none → ys.length = 0 ∧ cap = 0) ∧ WinOk o.r.size ys.length win (.slice A ys.length cap) v ∧ o.xs.length = winLen win ys.length ∧
      Rp w (Kok b S c) (.sl true o0.e o0.r) o0.xs [c.hv k] (c.F k) := by
  obtain ⟨o0, e, r, ys, hd, hk, hg, hh, hw⟩ := h
  simp only [viewT, Tr.ev, hk, ev_bind, Option.bind_eq_some_iff] at hv
  obtain ⟨c0, hc0, hv⟩ := hv
  rw [ev_get, hg] at hc0
  injection hc0 with hc0
  subst hc0
  have hown := hi.ow k o0 hk
  obtain ⟨hd', Fd, g1, g2, _⟩ := Rp.reach st _ _ hown hg
  rw [hh] at g1
  injection g1 with g1
  subst g1
  obtain ⟨Ad, capd, rfl, hnd'⟩ := own_slice g2
  have hz : Ad = none → ys.length = 0 ∧ capd = 0 := fun hA => ⟨by have h8 : ys = [] := (hnd' hA).1; rw [h8]; rfl, (hnd' hA).2.1⟩
  cases win with
  | none => simp only [Tr.ev, Option.some.injEq] at hv; subst hv; exact ⟨o0, ys, Ad, capd, hk, hg, hh, hz, hw, rfl, hown⟩
  | some p =>
    obtain ⟨lo, m⟩ := p
    simp only [Tr.ev, Option.some.injEq] at hv; subst hv
    exact ⟨o0, ys, Ad, capd, hk, hg, hh, hz, hw, by simp [List.length_take, List.length_drop, winLen], hown⟩
theorem own_read {w : World} {K : Nat → Prop} {e : TypeId} {r : Ty} {xs : List r.D} {v : Value} {F : List Nat} (hp : Rp w K (.sl true e r) xs [v] F) :
    ∃ A cap ws F', v = .slice A xs.length cap ∧ RpL (Rp w K r) xs ws F' ∧ (∀ g, g ∈ F' → g ∈ F) ∧ (A = none → xs = [] ∧ cap = 0) ∧
      (xs = [] ∨ ∃ ad, A = some ad ∧ ad.block < w.heap.size ∧ ∀ j, j < ws.length → w.cell? (ad.add j) = ws[j]?) := by
  simp only [Rp] at hp
  rcases hp with ⟨rfl, rfl, h1⟩ | ⟨g, off, cap, cs, fr, F', h1, rfl, hg, hn, hoff, hc, hr⟩
  · injection h1 with h1
    exact ⟨none, 0, [], [], h1, ⟨rfl, rfl⟩, by simp, fun _ => ⟨rfl, rfl⟩, .inl rfl⟩
  · injection h1 with h1
    refine ⟨_, cap, _, F', h1, hr, fun b hb => by simp [hb], fun h => (by cases h), .inr ⟨_, rfl, lt_size hg, fun j hj => ?_⟩⟩
    rw [add_blk, cell_blk hg, List.getElem?_take, List.getElem?_drop, ← Array.getElem?_toList]
    rw [List.length_take] at hj
    rw [if_pos (by omega)]
theorem data_read {b : Base} {S : St} {c : Cc} {w : World} (hi : Inv b S w c) {l : Leaf} {v : Value} {o : Own} (h : LeafOk S c w (Kok b S c) l v) (hv : (dataT l).ev S = some o) :
    ∃ A cap ws F', v = .slice A o.xs.length cap ∧ RpL (Rp w (Kok b S c) o.r) o.xs ws F' ∧
      (o.xs = [] ∨ ∃ ad, A = some ad ∧ ad.block < w.heap.size ∧ ∀ j, j < ws.length → w.cell? (ad.add j) = ws[j]?) := by
  unfold dataT at hv
  split at hv
  · rename_i o' e r xs
    simp only [Tr.ev, Option.some.injEq] at hv
    subst hv
    cases o' with
    | true =>
      obtain ⟨A, cap, ws, F', h1, h2, _, _, h3⟩ := own_read h
      exact ⟨A, cap, ws, F', h1, h2, h3⟩
    | false =>
      simp only [LeafOk, Rp] at h
      obtain ⟨_, A, cap, ws, h1, _, h2, h3⟩ := h
      injection h1 with h1
      refine ⟨A, cap, ws, [], h1, h2, ?_⟩
      rcases h3 with h3 | ⟨ad, h4, _, h5, h6⟩
      · exact .inl h3
      · exact .inr ⟨ad, h4, h5, h6⟩
  · obtain ⟨_, F', h1, _, _⟩ := view_own hi h hv
    obtain ⟨A, cap, ws, F2, h2, h3, _, _, h4⟩ := own_read h1
    exact ⟨A, cap, ws, F2, h2, h3, h4⟩
  · simp [Tr.ev] at hv
theorem len_ok {b : Base} {S : St} {c : Cc} {w : World} (hi : Inv b S w c) {t : TI} {l : Leaf} {v : Value} {n : Nat} (h : LeafOk S c w (Kok b S c) l v) (hv : (lenT t l).ev S = some n) :
    (∃ s : ByteArray, v = .string s ∧ s.size = n ∧ t.isStr = true) ∨ (t.isSl = true ∧ ∃ A cap, v = .slice A n cap) := by
  unfold lenT at hv
  split at hv
  · split at hv
    · simp only [Tr.ev, Option.some.injEq] at hv
      subst hv
      rw [str_leaf h]
      exact .inl ⟨_, rfl, by simp [ByteArray.size], by assumption⟩
    · simp [Tr.ev] at hv
  · rename_i o e r xs
    split at hv
    · simp only [Tr.ev, Option.some.injEq] at hv
      subst hv
      obtain ⟨A, cap, ws, F', h1, _⟩ := data_read (o := ⟨e, r, xs⟩) hi h (by simp [dataT, Tr.ev])
      exact .inr ⟨by assumption, A, cap, h1⟩
    · simp [Tr.ev] at hv
  · split at hv
    · simp only [ev_bind, Option.bind_eq_some_iff, Tr.ev, Option.some.injEq] at hv
      obtain ⟨o, ho, rfl⟩ := hv
      obtain ⟨A, cap, ws, F', h1, _⟩ := data_read hi h (by simpa [dataT] using ho)
      exact .inr ⟨by assumption, A, cap, h1⟩
    · simp [Tr.ev] at hv
  · split at hv
    · simp only [Tr.ev, Option.some.injEq] at hv
      subst hv
      rw [show v = .slice none 0 0 from h]
      exact .inr ⟨by assumption, none, 0, rfl⟩
    · simp [Tr.ev] at hv
  · simp [Tr.ev] at hv
theorem win_cut {size len : Nat} {win : Option (Nat × Nat)} {h v : Value} {A : Option Addr} {n cap : Nat} (hl : h = .slice A len cap ∧ (A = none → len = 0 ∧ cap = 0)) (hv : WinOk size len win h v) {A1 : Option Addr} {cap1 : Nat}
    (hv1 : v = .slice A1 n cap1) {lo m mx : Nat} (hle : lo + m ≤ n) (hmx : lo + m ≤ mx) (hcap : mx ≤ cap1) (A2 : Option Addr) (hA : A2 = if mx = lo then A1 else A1.map (·.add (lo * size)))
    (hlen : ∀ p, win = some p → n = min p.2 (len - p.1)) (hlen0 : win = none → n = len) : WinOk size len (cutWin win lo m) h (.slice A2 m (mx - lo)) := by
  subst hA
  obtain ⟨rfl, hnone⟩ := hl
  cases win with
  | none =>
    have hv' : v = .slice A len cap := hv
    rw [hv'] at hv1
    injection hv1 with e1 e2 e3
    subst e1 e2 e3
    refine ⟨A, len, cap, (if mx = lo then A else A.map (·.add (lo * size))), mx - lo, if mx = lo then 0 else lo, rfl, ?_, ?_, ?_, ?_, ?_, ?_⟩
    · congr 1; omega
    · have : min m (len - lo) = m := by omega
      omega
    · split <;> omega
    · intro hz; rw [if_neg (by omega)]
    · intro hn
      obtain ⟨h1, h2⟩ := hnone hn
      subst hn
      refine ⟨?_, by omega⟩
      split <;> rfl
    · intro a ha
      subst ha
      split
      · simp [Addr.add]
      · rfl
  | some p =>
    obtain ⟨l0, m0⟩ := p
    obtain ⟨A0, n0, cap0, A', cap', q, e0, e1, h1, h2, h3, h4, h5⟩ := hv
    injection e0 with f1 f2 f3
    subst f1 f2 f3
    rw [e1] at hv1
    injection hv1 with f1 f2 f3
    subst f1 f3
    have hn := hlen _ rfl
    simp only at hn
    refine ⟨A, len, cap, (if mx = lo then A' else A'.map (·.add (lo * size))), mx - lo, if mx = lo then q else q + lo, rfl, ?_, ?_, ?_, ?_, ?_, ?_⟩
    · congr 1; omega
    · have : min m (len - (l0 + lo)) = m := by omega
      omega
    · split <;> omega
    · intro hz
      rw [if_neg (by omega)]
      have := h3 (by omega)
      omega
    · intro hA
      obtain ⟨g1, g2⟩ := h4 hA
      refine ⟨?_, by omega⟩
      subst g1
      split <;> rfl
    · intro a ha
      have := h5 a ha
      subst this
      split
      · rfl
      · simp only [Option.map_some, add_add, Option.some.injEq]
        congr 1; rw [Nat.add_mul]
end Go.V

namespace Go.V
open Go.RowKit
section
variable {P : Program} {ti : TypeId → TI} {w : World}
theorem isStr_eq {t : TI} (h : t.isStr = true) : t = .cell .str := by
  unfold TI.isStr at h; split at h
  · rfl
  · cases h
theorem isSlOf_eq {t : TI} {n : Nat} (h : t.isSlOf n = true) : ∃ e ts bytes, t = .slice e ts bytes ∧ ts.length = n := by
  unfold TI.isSlOf at h; split at h
  · exact ⟨_, _, _, rfl, by simpa using h⟩
  · cases h
theorem isSl_eq {t : TI} (h : t.isSl = true) : ∃ e ts bytes, t = .slice e ts bytes := by
  unfold TI.isSl at h; split at h
  · exact ⟨_, _, _, rfl⟩
  · cases h
theorem str_under (hT : TabOk P ti) {t : TypeId} (h : (ti t).isStr = true) : P.underlying t = some .string := by
  obtain ⟨⟨d, hd, he⟩, _⟩ := hT.cell (isStr_eq h)
  rw [hd]; cases d <;> first | rfl | (simp [descIs] at he; done)
theorem rowTy_size : ∀ (ts : List Ty), (∀ t ∈ ts, t.size = 1) → (rowTy ts).size = ts.length
  | [], _ => rfl
  | [t], h => by simpa [rowTy] using h t (by simp)
  | t :: u :: ts, h => by
    have := rowTy_size (u :: ts) fun x hx => h x (by simp [hx])
    simp only [rowTy, Ty.size, h t (by simp), this, List.length_cons]; omega
theorem sl_under (hT : TabOk P ti) {t : TypeId} {n : Nat} (h : (ti t).isSlOf n = true) : ∃ e i, P.underlying t = some (.slice e) ∧ P.info? e = some i ∧ i.size = n := by
  obtain ⟨e, ts, bytes, he, hn⟩ := isSlOf_eq h
  obtain ⟨h1, _, _, _, i, z, h2, h3, _⟩ := hT.slice he
  exact ⟨e, i, h1, h2, by rw [h3, hn]⟩
theorem sl_under' (hT : TabOk P ti) {t : TypeId} (h : (ti t).isSl = true) : ∃ e i, P.underlying t = some (.slice e) ∧ P.info? e = some i := by
  obtain ⟨e, ts, bytes, he⟩ := isSl_eq h
  obtain ⟨h1, _, _, _, i, z, h2, _⟩ := hT.slice he
  exact ⟨e, i, h1, h2⟩
theorem bound_ok {N : Nat} {S : St} {c : Cc} {a : Act} {K : Nat → Prop} (hs : Slots N S c w K a) {x : Option Operand} {d : Nat} {n : Int} (h : (bound (x.map (opnd S)) d).ev S = some n) :
    (x = none ∧ n = d) ∨ ∃ y k, x = some y ∧ a.eval y = .int k n := by
  cases x with
  | none => simp only [Option.map_none, bound, Tr.ev, Option.some.injEq] at h; exact .inl ⟨rfl, h.symm⟩
  | some y =>
    simp only [Option.map_some] at h
    have hy := opnd_ok hs y
    unfold bound at h
    split at h
    · simp at *
    · rename_i k n' he
      injection he with he
      rw [he] at hy
      simp only [Tr.ev, Option.some.injEq] at h
      subst h
      have hy' : LeafOk S c w K (.v (.int k) n') (a.eval y) := hy
      exact .inr ⟨y, k, rfl, int_leaf hy'⟩
    · simp [Tr.ev] at h
theorem bounds_ok {N : Nat} {S : St} {c : Cc} {a : Act} {K : Nat → Prop} (hs : Slots N S c w K a) {len : Nat} {lo hi mx : Option Operand} {f : Nat → Nat → Tr SV} {r : SV}
    (h : (boundsT len (lo.map (opnd S)) (hi.map (opnd S)) (mx.map (opnd S)) f).ev S = some r) (isS : Bool) (cap : Nat) (hcap : len ≤ cap) (hmx : isS = false → mx = none) :
    ∃ l n m, (f l n).ev S = some r ∧ l + n ≤ len ∧ l + n ≤ m ∧ m ≤ cap ∧ (mx = none → m = cap) ∧ (Instr.sliceBounds isS len cap (lo.map a.eval) (hi.map a.eval) (mx.map a.eval)).run P w = .ok (l, l + n, m) w := by
  simp only [boundsT, ev_bind, Option.bind_eq_some_iff] at h
  obtain ⟨l, hl, hh, hhh, m, hm, g0⟩ := h
  obtain ⟨c1, g1⟩ := ev_iff g0
  obtain ⟨c2, g2⟩ := ev_iff g1
  obtain ⟨c3, g3⟩ := ev_iff g2
  obtain ⟨c4, g4⟩ := ev_iff g3
  obtain ⟨c5, g5⟩ := ev_iff g4
  simp only [decide_eq_true_eq] at c2 c3 c4 c5
  have hlo := bound_ok hs hl
  have hhi := bound_ok hs hhh
  have hmm := bound_ok hs hm
  obtain ⟨l', rfl⟩ := Int.eq_ofNat_of_zero_le c2
  obtain ⟨h', rfl⟩ := Int.eq_ofNat_of_zero_le (show (0 : Int) ≤ hh by omega)
  obtain ⟨m', rfl⟩ := Int.eq_ofNat_of_zero_le (show (0 : Int) ≤ m by omega)
  simp only [Int.toNat_natCast] at g5
  have c3' : l' ≤ h' := by omega
  have c4' : h' ≤ m' := by omega
  have c5' : m' ≤ len := by omega
  have e : l' + (h' - l') = h' := by omega
  have s1 : ∀ (x : Operand) (k : IntKind) (i y : Nat) (code : BoundsCode), a.eval x = .int k (i : Int) → i ≤ y → (Instr.sliceBound (a.eval x) y code).run P w = .ok i w := by
    intro x k i y code hx hiy
    rw [hx]
    simp only [Instr.sliceBound, asIntOf, Sem.run_bind, Sem.run_pure, Result.andThen_ok, Sem.run_ite]
    rw [if_pos ⟨by omega, by omega⟩]; simp
  rcases hmm with ⟨rfl, hm0⟩ | ⟨my, mk, rfl, hme⟩
  · refine ⟨l', h' - l', cap, g5, by omega, by omega, Nat.le_refl _, fun _ => rfl, ?_⟩
    rw [e]
    rcases hhi with ⟨rfl, hh0⟩ | ⟨hy, hk, rfl, hhe⟩
    · obtain rfl : h' = len := by omega
      rcases hlo with ⟨rfl, hl0⟩ | ⟨ly, lk, rfl, hle⟩
      · obtain rfl : l' = 0 := by omega
        simp [Instr.sliceBounds]
      · simp [Instr.sliceBounds, s1 ly lk l' _ _ hle c3']
    · rcases hlo with ⟨rfl, hl0⟩ | ⟨ly, lk, rfl, hle⟩
      · obtain rfl : l' = 0 := by omega
        cases isS <;> simp [Instr.sliceBounds, s1 hy hk h' _ _ hhe (show h' ≤ cap by omega)]
      · cases isS <;> simp [Instr.sliceBounds, s1 hy hk h' _ _ hhe (show h' ≤ cap by omega), s1 ly lk l' _ _ hle c3']
  · rcases hhi with ⟨rfl, hh0⟩ | ⟨hy, hk, rfl, hhe⟩
    · simp at c1
    · refine ⟨l', h' - l', m', g5, by omega, by omega, by omega, fun hx => (by cases hx), ?_⟩
      rw [e]
      cases isS with
      | false => cases hmx rfl
      | true =>
        rcases hlo with ⟨rfl, hl0⟩ | ⟨ly, lk, rfl, hle⟩
        · obtain rfl : l' = 0 := by omega
          simp [Instr.sliceBounds, s1 my mk m' _ _ hme (show m' ≤ cap by omega), s1 hy hk h' _ _ hhe c4']
        · simp [Instr.sliceBounds, s1 my mk m' _ _ hme (show m' ≤ cap by omega), s1 hy hk h' _ _ hhe c4', s1 ly lk l' _ _ hle c3']
theorem extract_str (s : List UInt8) (l n : Nat) (_h : l + n ≤ s.length) : (⟨s.toArray⟩ : ByteArray).extract l (l + n) = ⟨((s.drop l).take n).toArray⟩ := by
  apply ByteArray.ext
  simp only [ByteArray.data_extract]
  apply Array.ext'
  simp [List.extract_eq_take_drop]
theorem slice_ok {b : Base} {N : Nat} {S : St} {c : Cc} {a : Act} (hT : TabOk P ti) (hi : Inv b S w c) (hs : Slots N S c w (Kok b S c) a) {t : TypeId} {x : Leaf} {v : Value} {lo hi' mx : Option Operand} {r : SV}
    (hx : LeafOk S c w (Kok b S c) x v) (h : (sliceT (ti t) x (lo.map (opnd S)) (hi'.map (opnd S)) (mx.map (opnd S))).ev S = some r) :
    ∃ u, (Instr.sliceAt t v (lo.map a.eval) (hi'.map a.eval) (mx.map a.eval)).run P w = .ok u w ∧ SVOk S c w (Kok b S c) r u := by
  unfold sliceT at h
  split at h
  · rename_i s
    split at h
    · rename_i hc
      simp only [Bool.and_eq_true, Option.isNone_iff_eq_none, Option.map_eq_none_iff] at hc
      obtain ⟨hc, rfl⟩ := hc
      obtain rfl := str_leaf hx
      have hu := str_under hT hc
      obtain ⟨l, n, m, h1, h2, h3, h4, h5, h6⟩ := bounds_ok (P := P) hs h false s.length (Nat.le_refl _) (fun _ => rfl)
      simp only [Tr.ev, Option.some.injEq] at h1
      subst h1
      simp only [Option.map_none] at h6
      refine ⟨.string ⟨((s.drop l).take n).toArray⟩, ?_, sv_leaf mk_str⟩
      simp only [Instr.sliceAt, Instr.slice, Sem.run_bind, run_underlying hu, Result.andThen_ok, Option.map_none, Option.isSome_none, Bool.false_eq_true, if_false]
      have hsz : (ByteArray.mk s.toArray).size = s.length := by simp [ByteArray.size]
      simp [hsz, h6, extract_str s l n h2]
    · simp [Tr.ev] at h
  · rename_i e r' xs
    split at h
    · rename_i hc
      obtain ⟨e', i, hu, hie, hsz⟩ := sl_under hT hc
      simp only [LeafOk, Rp] at hx
      obtain ⟨_, A, cap, ws, hv, hcap, hr, hxs⟩ := hx
      injection hv with hv
      subst hv
      obtain ⟨l, n, m, h1, h2, h3, h4, h5, h6⟩ := bounds_ok (P := P) hs h true cap hcap (fun hx => (by cases hx))
      simp only [Tr.ev, Option.some.injEq] at h1
      subst h1
      refine ⟨.slice (if m = l then A else A.map (·.add (l * r'.size))) n (m - l), ?_, ?_⟩
      · simp only [Instr.sliceAt, Instr.slice, Sem.run_bind, run_underlying hu, Result.andThen_ok, h6, sizeOf, typeInfo, Sem.run_pure]
        simp [hie, hsz, Nat.add_sub_cancel_left]
      · have hlen : ((xs.drop l).take n).length = n := by rw [List.length_take, List.length_drop]; omega
        have hsplit : xs = xs.take l ++ ((xs.drop l).take n ++ (xs.drop l).drop n) := by rw [List.take_append_drop, List.take_append_drop]
        rw [hsplit] at hr
        obtain ⟨v1, v23, F1, F23, e1, eF, r1, r23⟩ := RpL.split hr
        obtain ⟨v2, v3, F2, F3, rfl, rfl, r2, r3⟩ := RpL.split r23
        have l1 := RpL.len (fun x vs F h => Rp.len r' x h) r1
        have hF2 : F2 = [] := by
          have := congrArg List.length eF
          simp only [List.length_nil, List.length_append] at this
          exact List.eq_nil_of_length_eq_zero (by omega)
        subst hF2
        simp only [SVOk, S1Ok, LeafOk, Rp]
        refine ⟨trivial, _, _, v2, by rw [hlen], by rw [hlen]; omega, r2, ?_⟩
        rcases Nat.eq_zero_or_pos n with hz | hz
        · left; exact List.eq_nil_of_length_eq_zero (by rw [hlen, hz])
        · right
          rcases hxs with rfl | ⟨ad, rfl, k1, k2, k3⟩
          · simp at h2; omega
          · refine ⟨ad.add (l * r'.size), by rw [if_neg (by omega)]; rfl, by rw [add_block]; exact k1, by rw [add_block]; exact k2, fun j hj => ?_⟩
            rw [add_add, k3 _ (by rw [e1]; simp only [List.length_append]; rw [l1, List.length_take, Nat.min_eq_left (by omega)]; omega), e1]
            have : l * r'.size = v1.length := by rw [l1, List.length_take, Nat.min_eq_left (by omega)]
            rw [this, List.getElem?_append_right (by omega), List.getElem?_append_left (by omega)]
            congr 1; omega
    · simp [Tr.ev] at h
  · rename_i k st win
    simp only [ev_bind, Option.bind_eq_some_iff] at h
    obtain ⟨o, ho, h⟩ := h
    split at h
    · rename_i hc
      obtain ⟨e', i, hu, hie, hsz⟩ := sl_under hT hc
      obtain ⟨hne, F', hp, hsub, hnd⟩ := view_own hi hx ho
      obtain ⟨A, cap, ws, F2, rfl, hr, _, hnone, hxs⟩ := own_read hp
      have hcap : o.xs.length ≤ cap := by
        simp only [Rp] at hp
        rcases hp with ⟨h1, _⟩ | ⟨g, off, c1, cs, fr, F0, h1, _, _, _, _, h2, _⟩
        · rw [h1]; simp
        · injection h1 with h1 _; injection h1 with _ _ h1; omega
      obtain ⟨l, n, m, h1, h2, h3, h4, h5, h6⟩ := bounds_ok (P := P) hs h true cap hcap (fun hx => (by cases hx))
      simp only [Tr.ev, Option.some.injEq] at h1
      subst h1
      refine ⟨.slice (if m = l then A else A.map (·.add (l * o.r.size))) n (m - l), ?_, ?_⟩
      · simp only [Instr.sliceAt, Instr.slice, Sem.run_bind, run_underlying hu, Result.andThen_ok, h6, sizeOf, typeInfo, Sem.run_pure]
        simp [hie, hsz, Nat.add_sub_cancel_left]
      · obtain ⟨o0, ys, Ad, capd, hk, hg, hh, hz, hw, hl, _⟩ := view_info hi hx ho
        refine ⟨o0, _, o.r, ys, _, hk, hg, hh, ?_⟩
        refine win_cut (n := o.xs.length) ⟨rfl, hz⟩ hw rfl h2 h3 h4 _ rfl ?_ ?_
        · intro p hp'; subst hp'; exact hl
        · intro hp'; subst hp'; exact hl
    · simp [Tr.ev] at h
  · split at h
    · rename_i hc
      obtain ⟨e', i, hu, hie⟩ := sl_under' hT hc
      obtain rfl : v = .slice none 0 0 := hx
      obtain ⟨l, n, m, h1, h2, h3, h4, h5, h6⟩ := bounds_ok (P := P) hs h true 0 (Nat.le_refl _) (fun hx => (by cases hx))
      simp only [Tr.ev, Option.some.injEq] at h1
      subst h1
      obtain rfl : l = 0 := by omega
      obtain rfl : n = 0 := by omega
      obtain rfl : m = 0 := by omega
      refine ⟨.slice none 0 0, ?_, rfl⟩
      simp only [Instr.sliceAt, Instr.slice, Sem.run_bind, run_underlying hu, Result.andThen_ok, h6, sizeOf, typeInfo, Sem.run_pure]
      simp [hie]
    · simp [Tr.ev] at h
  · simp [Tr.ev] at h
theorem index_ok {b : Base} {S : St} {c : Cc} (hT : TabOk P ti) (hi : Inv b S w c) {t : TypeId} {x : Leaf} {v : Value} {k : IntKind} {i : Int} {r : SV}
    (hx : LeafOk S c w (Kok b S c) x v) (h : (indexT (ti t) x i).ev S = some r) :
    ∃ u, (Instr.indexAt t v (.int k i)).run P w = .ok u w ∧ SVOk S c w (Kok b S c) r u := by
  unfold indexT at h
  replace h := ev_iff h
  obtain ⟨c1, h⟩ := h
  simp only [decide_eq_true_eq] at c1
  obtain ⟨j, rfl⟩ := Int.eq_ofNat_of_zero_le c1
  simp only [Int.toNat_natCast] at h
  split at h
  · rename_i e r' xs
    split at h
    · rename_i hc
      obtain ⟨e', ie, hu, hie, hsz⟩ := sl_under hT hc
      simp only [Tr.ev, Option.bind_eq_some_iff, Option.some.injEq] at h
      obtain ⟨row, hrow, rfl⟩ := h
      have hj : j < xs.length := (List.getElem?_eq_some_iff.1 hrow).1
      simp only [LeafOk, Rp] at hx
      obtain ⟨_, A, cap, ws, hv, hcap, hr, hxs⟩ := hx
      injection hv with hv
      subst hv
      rcases hxs with rfl | ⟨ad, rfl, k1, k2, k3⟩
      · simp at hj
      obtain ⟨v1, u, v2, F1, G, F2, rfl, l1, hF, hp, _, _⟩ := RpL.get (fun x vs F h => Rp.len r' x h) hr hrow
      have hG : G = [] := by
        have := congrArg List.length hF
        simp only [List.length_nil, List.length_append] at this
        exact List.eq_nil_of_length_eq_zero (by omega)
      subst hG
      refine ⟨.pointer (some (ad.add (j * r'.size))), ?_, ⟨ad.add (j * r'.size), u, by simp [Addr.add], hp, by rw [add_block]; exact k1, by rw [add_block]; exact k2, fun m hm => ?_⟩⟩
      · have hlt : (j : Int) < (List.length xs : Int) := by omega
        simp only [Instr.indexAt, run_underlying hu, asIntOf, sizeOf, typeInfo, hie, Sem.run_bind, Result.andThen_ok, Sem.run_pure, Sem.run_ite, run_program]
        rw [if_pos ⟨c1, hlt⟩]; simp [hsz]
      · rw [add_add, k3 _ (by simp only [List.length_append]; omega)]
        rw [List.getElem?_append_right (by omega), List.getElem?_append_left (by omega)]
        congr 1; omega
    · simp [Tr.ev] at h
  · rename_i k' st win
    simp only [ev_bind, Option.bind_eq_some_iff] at h
    obtain ⟨o, ho, h⟩ := h
    split at h
    · rename_i hc
      obtain ⟨e', ie, hu, hie, hsz⟩ := sl_under hT hc
      replace h := ev_iff h
      obtain ⟨c2, h⟩ := h
      simp only [decide_eq_true_eq] at c2
      have hj : j < o.xs.length := by omega
      simp only [Tr.ev, Option.some.injEq] at h
      subst h
      obtain ⟨o0, ys, Ad, capd, hk, hg, hh, hz, hw, hl, hown⟩ := view_info hi hx ho
      have hval : ∃ a0 cap', v = .slice (some (a0.add (winLo win * o.r.size))) o.xs.length cap' ∧ Ad = some a0 := by
        cases Ad with
        | none =>
          have h8 := (hz rfl).1
          rw [h8] at hl
          cases win with
          | none => simp only [winLen] at hl; omega
          | some p => obtain ⟨lo, m'⟩ := p; simp only [winLen] at hl; omega
        | some a0 =>
          cases win with
          | none =>
            have hw' : v = .slice (some a0) ys.length capd := hw
            exact ⟨a0, capd, by rw [hw', hl]; simp [Addr.add, winLo, winLen], rfl⟩
          | some p =>
            obtain ⟨lo, m'⟩ := p
            obtain ⟨A0, n0, cap0, A', cap', q, e0, e1, h1, h2, h3, h4, h5⟩ := hw
            injection e0 with f1 f2 f3
            subst f1
            have := h5 a0 rfl
            subst this
            simp only [winLen] at hl
            have hq : q = lo := h3 (by omega)
            subst hq
            exact ⟨a0, cap', by rw [e1, hl]; rfl, rfl⟩
      obtain ⟨a0, cap', rfl, rfl⟩ := hval
      refine ⟨.pointer (some ((a0.add (winLo win * o.r.size)).add (j * o.r.size))), ?_, ?_⟩
      · have hlt : (j : Int) < (List.length o.xs : Int) := by omega
        simp only [Instr.indexAt, run_underlying hu, asIntOf, sizeOf, typeInfo, hie, Sem.run_bind, Result.andThen_ok, Sem.run_pure, Sem.run_ite, run_program]
        rw [if_pos ⟨c1, hlt⟩]; simp [hsz]
      · refine ⟨o0, _, hk, ?_, rfl, st, _, _, rfl, hg⟩
        rw [add_add, ← Nat.add_mul]
        exact adr_snoc st _ hown hg hh
    · simp [Tr.ev] at h
  · simp [Tr.ev] at h
end
end Go.V

namespace Go.V
open Go.RowKit
section
variable {P : Program} {ti : TypeId → TI}
theorem size_of (hT : TabOk P ti) {t : TypeId} {ts : List Ty} (h : (ti t).cells = some ts) : ∃ i, P.info? t = some i ∧ i.size = ts.length ∧ (∃ d, P.underlying t = some d ∧ isAggD d = (ti t).isAgg) ∧
    ((ti t).isAgg = false → ∃ u, ts = [u]) ∧ ∃ z, i.zero = some z ∧ z.cells.toList = ts.map zeroV ∧ ∀ u ∈ ts, u.size = 1 ∧ ∀ a b, u ≠ .pair a b := by
  cases ht : ti t with
  | cell u =>
    rw [ht] at h
    simp only [TI.cells, Option.some.injEq] at h
    subst h
    obtain ⟨⟨d, hd, hdd⟩, i, hi, h1, h2, h3⟩ := hT.cell ht
    refine ⟨i, hi, h1, ⟨d, hd, ?_⟩, fun _ => ⟨u, rfl⟩, _, h2, ?_, ?_⟩
    · cases u <;> cases d <;> first | rfl | (simp [descIs] at hdd; done)
    · cases u <;> first | rfl | (simp [Ty.size] at h3; done) | (cases d <;> simp [descIs] at hdd)
    · intro v hv
      simp only [List.mem_singleton] at hv
      subst hv
      refine ⟨h3, ?_⟩
      cases v <;> cases d <;> first | (simp [descIs] at hdd; done) | simp
  | slice e ts' bytes =>
    rw [ht] at h
    simp only [TI.cells, Option.some.injEq] at h
    subst h
    obtain ⟨h1, ⟨i, hi, h2, h3⟩, _⟩ := hT.slice ht
    exact ⟨i, hi, h2, ⟨_, h1, rfl⟩, fun _ => ⟨_, rfl⟩, _, h3, rfl, by simp [Ty.size]⟩
  | struct fs row eq =>
    rw [ht] at h
    simp only [TI.cells, Option.some.injEq] at h
    subst h
    obtain ⟨fields, h1, _, _, i, hi, h2, h3, h4⟩ := hT.struct ht
    exact ⟨i, hi, h2, ⟨_, h1, rfl⟩, fun h => (by cases h), _, h3, by simp [Value.cells], h4⟩
  | ptr e => rw [ht] at h; cases h
  | err => rw [ht] at h; cases h
  | other => rw [ht] at h; cases h
theorem run_size {t : TypeId} {i : TypeInfo} (h : P.info? t = some i) (w : World) : (sizeOf t).run P w = .ok i.size w := by simp [sizeOf, typeInfo, h]
theorem run_zero {t : TypeId} {i : TypeInfo} {z : Value} (h : P.info? t = some i) (hz : i.zero = some z) (w : World) : (zeroValue t).run P w = .ok z w := by simp [zeroValue, typeInfo, h, hz]
theorem run_isAgg {t : TypeId} {d : TypeDesc} (h : P.underlying t = some d) (w : World) : (isAgg t).run P w = .ok (isAggD d) w := by
  unfold isAgg
  simp only [Sem.run_bind, run_underlying h, Result.andThen_ok]
  cases d <;> rfl
theorem zeroLeaf_ok {S : St} {c : Cc} {w : World} {K : Nat → Prop} : ∀ (ts : List Ty), (∀ u ∈ ts, u.size = 1 ∧ ∀ a b, u ≠ .pair a b) → All2 (LeafOk S c w K) (ts.map zeroLeaf) (ts.map zeroV)
  | [], _ => .nil
  | t :: ts, h => by
    refine .cons ?_ (zeroLeaf_ok ts fun u hu => h u (by simp [hu]))
    have := h t (by simp)
    cases t with
    | pair a b => exact absurd rfl (this.2 a b)
    | unit => simp [Ty.size] at this
    | int k => simp [zeroLeaf, zeroV, LeafOk, Rp, Ty.zero]
    | bool => simp [zeroLeaf, zeroV, LeafOk, Rp, Ty.zero]
    | er => simp [zeroLeaf, zeroV, LeafOk, Rp, Ty.zero, ErV]
    | str => simp [zeroLeaf, zeroV, LeafOk, Rp, Ty.zero]
    | sl o e r => simp [zeroLeaf, zeroV, LeafOk]
    | pt t => simp [zeroLeaf, zeroV, LeafOk, Rp, Ty.zero]
theorem newMem_did {b : Base} {S : St} {c : Cc} {w : World} (hi : Inv b S w c) (d : Nat) (hdn : d < b.n1) (row : List Leaf) (vs : List Value) (e : TypeId) (hrow : All2 (LeafOk S c w (Kok b S c)) row vs) :
    Did b S c w ⟨.s (.pl d 0), [.m d], [.ms d row]⟩ (.pointer (some ⟨w.heap.size, 0, none⟩)) { w with heap := w.heap.push (.cells vs.toArray e) } := by
  obtain ⟨c', h1, h2, h3⟩ := hi.newMem d hdn row vs e rfl hrow
  exact ⟨c', h2, h3, row.length, by simp [St.ups, St.up], by rw [h1]⟩
theorem run_newVar (t : TypeId) (v : Value) (w : World) : (newVar t v).run P w = .ok ⟨w.heap.size, 0, none⟩ { w with heap := w.heap.push (.cells v.cells t) } := by
  simp [newVar, newRow]
theorem alloc_ok {b : Base} {S : St} {c : Cc} {w : World} (hT : TabOk P ti) (hi : Inv b S w c) {t : TypeId} {ts : List Ty} (h : (ti t).cells = some ts) (d : Nat) (hdn : d < b.n1) :
    ∃ v w', (Instr.alloc t true (.tuple #[])).run P w = .ok v w' ∧ Did b S c w ⟨.s (.pl d 0), [.m d], [.ms d (ts.map zeroLeaf)]⟩ v w' := by
  obtain ⟨i, h1, _, _, _, z, h2, h3, h4⟩ := size_of hT h
  refine ⟨_, _, ?_, newMem_did hi d hdn _ (ts.map zeroV) t (zeroLeaf_ok ts h4)⟩
  simp only [Instr.alloc, Sem.run_bind, run_zero h1 h2, Result.andThen_ok, run_newVar, Sem.run_pure]
  rw [← h3]
theorem box_ok {b : Base} {S : St} {c : Cc} {w : World} (hi : Inv b S w c) {t : TypeId} {x : SV} {v : Value} {ls : List Leaf} (hx : SVOk S c w (Kok b S c) x v) (hl : leaves x = some ls) (d : Nat) (hdn : d < b.n1) :
    ∃ u w', (Instr.box t v).run P w = .ok u w' ∧ Did b S c w ⟨.s (.pl d 0), [.m d], [.ms d ls]⟩ u w' := by
  obtain ⟨vs, h1, h2, h3⟩ := leaves_ok hi hx hl
  refine ⟨_, _, ?_, newMem_did hi d hdn ls vs t h2⟩
  simp only [Instr.box, Sem.run_bind, run_newVar, Result.andThen_ok, Sem.run_pure, h1]
theorem box_ptr_ok {b : Base} {S : St} {c : Cc} {w : World} (hi : Inv b S w c) {t : TypeId} {u : Ty} {y : u.D} {v : Value} (hv : SVOk S c w (Kok b S c) (.s (.rp u y 0)) v) (d : Nat) (hdn : d < b.n1) :
    ∃ r w', (Instr.box t v).run P w = .ok r w' ∧ Did b S c w ⟨.s (.pl d 0), [.m d], [.ms d [.v (.pt u) (some y)]]⟩ r w' := by
  obtain ⟨ad, vs, rfl, h1, h2, h3, h4⟩ := hv
  refine ⟨_, _, ?_, newMem_did hi d hdn _ [.pointer (some (ad.add 0))] t (.cons ?_ .nil)⟩
  · simp only [Instr.box, Sem.run_bind, run_newVar, Result.andThen_ok, Sem.run_pure]
    rfl
  · simp only [LeafOk, Rp]
    exact ⟨trivial, ad, vs, by simp [Addr.add], h1, h2, h3, h4⟩
theorem cellAt_leaf : ∀ (t : Ty) (x : t.D) (j : Nat) {c}, cellAt t x j = some c → (∀ a b, c.1 ≠ .pair a b) ∧ c.1 ≠ .unit
  | .pair a b, (x, y), j, c, h => by
    simp only [cellAt] at h
    split at h
    · exact cellAt_leaf a x j h
    · exact cellAt_leaf b y _ h
  | .unit, _, _, _, h => by simp [cellAt] at h
  | .int _, _, 0, _, h => by simp only [cellAt, Option.some.injEq] at h; subst h; simp
  | .bool, _, 0, _, h => by simp only [cellAt, Option.some.injEq] at h; subst h; simp
  | .er, _, 0, _, h => by simp only [cellAt, Option.some.injEq] at h; subst h; simp
  | .str, _, 0, _, h => by simp only [cellAt, Option.some.injEq] at h; subst h; simp
  | .pt _, _, 0, _, h => by simp only [cellAt, Option.some.injEq] at h; subst h; simp
  | .sl _ _ _, _, 0, _, h => by simp only [cellAt, Option.some.injEq] at h; subst h; simp
  | .int _, _, _ + 1, _, h => by simp [cellAt] at h
  | .bool, _, _ + 1, _, h => by simp [cellAt] at h
  | .er, _, _ + 1, _, h => by simp [cellAt] at h
  | .str, _, _ + 1, _, h => by simp [cellAt] at h
  | .pt _, _, _ + 1, _, h => by simp [cellAt] at h
  | .sl _ _ _, _, _ + 1, _, h => by simp [cellAt] at h
theorem getT_leaf : ∀ (st : Steps) (t : Ty) (x : t.D) {c : (u : Ty) × u.D}, st ≠ [] → (getT t x st).run = some c → (∀ a b, c.1 ≠ .pair a b) ∧ c.1 ≠ .unit
  | [], _, _, _, hne, _ => absurd rfl hne
  | (i, j) :: ps, t, x, c, _, h => by
    match t, x, h with
    | .sl true e r, xs, h =>
      obtain ⟨row, d, hrow, hd, hrest⟩ := getT_run_cons h
      cases ps with
      | nil => simp only [getT, Tr.run, Option.some.injEq] at hrest; subst hrest; exact cellAt_leaf r row j hd
      | cons p ps => exact getT_leaf (p :: ps) d.1 d.2 (by simp) hrest
    | .sl false _ _, _, hg => simp [getT, Tr.run] at hg
    | .int _, _, hg => simp [getT, Tr.run] at hg
    | .bool, _, hg => simp [getT, Tr.run] at hg
    | .er, _, hg => simp [getT, Tr.run] at hg
    | .str, _, hg => simp [getT, Tr.run] at hg
    | .pt _, _, hg => simp [getT, Tr.run] at hg
    | .unit, _, hg => simp [getT, Tr.run] at hg
    | .pair _ _, _, hg => simp [getT, Tr.run] at hg
theorem ldCell_ok {b : Base} {S : St} {c : Cc} {w : World} (hi : Inv b S w c) {a : S1} {v : Value} {n : Nat} {l : Leaf} (ha : S1Ok S c w (Kok b S c) a v) (h : (ldCell a n).ev S = some l) :
    ∃ ad u, v = .pointer (some ad) ∧ w.cell? (ad.add n) = some u ∧ LeafOk S c w (Kok b S c) l u := by
  cases a with
  | one l' => simp [ldCell, Tr.ev] at h
  | ag ls => simp [ldCell, Tr.ev] at h
  | fv f cs => simp [ldCell, Tr.ev] at h
  | pl k off =>
    obtain ⟨m, hm, rfl⟩ := ha
    simp only [ldCell, Tr.ev, hm] at h
    split at h
    · rename_i hlt
      simp only [Tr.ev] at h
      obtain ⟨cs, e, fr, h1, h2, h3, h4⟩ := hi.ms k m hm
      have hlt' : off + n < cs.size := by omega
      have hcell : cs[off + n]? = some cs[off + n] := Array.getElem?_eq_getElem hlt'
      refine ⟨_, _, rfl, by rw [add_blk, cell_blk h1]; exact hcell, ?_⟩
      have := h4 _ _ hcell
      split at h
      · simp [Tr.ev] at h
      · simp only [Tr.ev, Option.some.injEq] at h; subst h; exact this
    · simp [Tr.ev] at h
  | el k st =>
    obtain ⟨o, ad, ho, had, rfl, pre, ⟨i, j⟩, d, rfl, hd⟩ := ha
    simp only [ldCell, Tr.ev, ho, ev_bind, Option.bind_eq_some_iff] at h
    obtain ⟨c0, hc0, h⟩ := h
    rw [ev_get] at hc0
    simp only [Option.some.injEq] at h
    subst h
    have hne : bump (pre ++ [(i, j)]) n ≠ [] := by rw [bump_snoc]; simp
    obtain ⟨h', F', h1, h2, h3, _, h4⟩ := Rp.reach _ _ _ (hi.ow k o ho) hc0
    obtain ⟨a', h5, h6, _⟩ := h4 hne
    have := adr_bump _ n had
    rw [this] at h5
    injection h5 with h5
    subst h5
    refine ⟨ad, h', rfl, h6, ?_⟩
    have hleaf := getT_leaf _ _ _ hne hc0
    obtain ⟨t0, x0⟩ := c0
    cases t0 with
    | pair a b => exact absurd rfl (hleaf.1 a b)
    | unit => exact absurd rfl hleaf.2
    | int k => simp only [leafOf, LeafOk, Rp] at h2 ⊢; exact ⟨h2.1, trivial⟩
    | bool => simp only [leafOf, LeafOk, Rp] at h2 ⊢; exact ⟨h2.1, trivial⟩
    | er => simp only [leafOf, LeafOk, Rp] at h2 ⊢; obtain ⟨v, k1, _, k2⟩ := h2; exact ⟨v, k1, trivial, k2⟩
    | str => simp only [leafOf, LeafOk, Rp] at h2 ⊢; exact ⟨h2.1, trivial⟩
    | sl o' e r =>
      cases o' with
      | true => exact ⟨o, e, r, x0, h', ho, hc0, h1, rfl⟩
      | false =>
        simp only [leafOf, LeafOk]
        have : F' = [] := by simp only [Rp] at h2; exact h2.1
        subst this; exact h2
    | pt t =>
      simp only [leafOf, LeafOk]
      have : F' = [] := by simp only [Rp] at h2; exact h2.1
      subst this; exact h2
  | rp t x off =>
    obtain ⟨ad, vs, rfl, h1, h2, h3, h4⟩ := ha
    simp only [ldCell] at h
    split at h
    · rename_i c0 hc0
      simp only [Tr.ev, Option.some.injEq] at h
      subst h
      obtain ⟨pre, u, post, Fa, G, Fb, rfl, hl, hF, hu, _⟩ := Rp.cell t x _ h1 hc0
      have hG : G = [] := by
        have := congrArg List.length hF
        simp only [List.length_nil, List.length_append] at this
        exact List.eq_nil_of_length_eq_zero (by omega)
      subst hG
      refine ⟨_, u, rfl, ?_, hu⟩
      rw [add_add, h4 _ (by simp only [List.length_append, List.length_cons]; omega)]
      rw [List.getElem?_append_right (by omega), hl, Nat.sub_self]; rfl
    · simp [Tr.ev] at h
theorem ldCells_ok {b : Base} {S : St} {c : Cc} {w : World} (hi : Inv b S w c) {a : S1} {v : Value} (ha : S1Ok S c w (Kok b S c) a v) : ∀ (n i : Nat) {ls : List Leaf}, (ldCells a n i).ev S = some ls →
    (0 < n → ∃ ad, v = .pointer (some ad)) ∧ ∃ us : List Value, us.length = n ∧ All2 (LeafOk S c w (Kok b S c)) ls us ∧ ∀ ad, v = .pointer (some ad) → ∀ j u, us[j]? = some u → w.cell? (ad.add (i + j)) = some u
  | 0, i, ls, h => by
    simp only [ldCells, Tr.ev, Option.some.injEq] at h
    subst h
    exact ⟨by omega, [], rfl, .nil, by simp⟩
  | n + 1, i, ls, h => by
    simp only [ldCells, ev_bind, Option.bind_eq_some_iff, Tr.ev, Option.some.injEq] at h
    obtain ⟨l, hl, ls', hls, rfl⟩ := h
    obtain ⟨ad, u, rfl, h1, h2⟩ := ldCell_ok hi ha hl
    obtain ⟨_, us, h3, h4, h5⟩ := ldCells_ok hi ha n (i + 1) hls
    refine ⟨fun _ => ⟨ad, rfl⟩, u :: us, by simp [h3], .cons h2 h4, ?_⟩
    intro ad' e j x hx
    injection e with e; injection e with e
    subst e
    cases j with
    | zero => simp only [List.getElem?_cons_zero, Option.some.injEq] at hx; subst hx; exact h1
    | succ j =>
      have := h5 ad rfl j x (by simpa using hx)
      rwa [show i + (j + 1) = i + 1 + j by omega]
theorem load_ok {b : Base} {S : St} {c : Cc} {w : World} (hT : TabOk P ti) (hi : Inv b S w c) {t : TypeId} {a : S1} {v : Value} {ts : List Ty} (ha : S1Ok S c w (Kok b S c) a v) (ht : (ti t).cells = some ts) {x : SV}
    (h : (if (ti t).isAgg then (ldCells a ts.length 0).bind fun ls => Tr.ret (SV.s (.ag ls)) else (ldCell a 0).bind fun l => Tr.ret (SV.s (.one l))).ev S = some x) (hpos : 0 < ts.length) :
    ∃ u, (Instr.loadAt t v).run P w = .ok u w ∧ SVOk S c w (Kok b S c) x u := by
  obtain ⟨i, h1, h2, ⟨d, h3, h4⟩, h5, _⟩ := size_of hT ht
  split at h
  · rename_i hag
    simp only [ev_bind, Option.bind_eq_some_iff, Tr.ev, Option.some.injEq] at h
    obtain ⟨ls, hls, rfl⟩ := h
    obtain ⟨h6, us, h7, h8, h9⟩ := ldCells_ok hi ha _ _ hls
    obtain ⟨ad, rfl⟩ := h6 hpos
    refine ⟨.agg us.toArray, ?_, us, rfl, h8⟩
    have hl := run_loadCells_list (P := P) w ad us (fun j u hu => by simpa using h9 ad rfl j u hu)
    simp only [Instr.loadAt, Instr.sureAddr, Sem.run_bind, Sem.run_pure, Result.andThen_ok, loadVar, run_isAgg h3, h4, hag, if_true, run_size h1, h2, Sem.run_ite]
    rw [h7] at hl
    rw [hl]; rfl
  · rename_i hag
    simp only [ev_bind, Option.bind_eq_some_iff, Tr.ev, Option.some.injEq] at h
    obtain ⟨l, hl, rfl⟩ := h
    obtain ⟨ad, u, rfl, h6, h7⟩ := ldCell_ok hi ha hl
    refine ⟨u, ?_, h7⟩
    have h6' : w.cell? ad = some u := by simpa [Addr.add] using h6
    have hag' : (ti t).isAgg = false := by simpa using hag
    simp only [Instr.loadAt, Instr.sureAddr, Sem.run_bind, Sem.run_pure, Result.andThen_ok, loadVar, run_isAgg h3, h4, hag', Sem.run_ite]
    simp [h6']
theorem load_ptr_ok {b : Base} {S : St} {c : Cc} {w : World} (hT : TabOk P ti) (hi : Inv b S w c) {t e : TypeId} {a : S1} {v : Value} (ha : S1Ok S c w (Kok b S c) a v) (ht : ti t = .ptr e) {u : Ty} {y : u.D}
    (h : (ldCell a 0).ev S = some (.v (.pt u) (some y))) : ∃ r, (Instr.loadAt t v).run P w = .ok r w ∧ SVOk S c w (Kok b S c) (.s (.rp u y 0)) r := by
  have h3 := hT.ptr ht
  obtain ⟨ad, r, rfl, h6, h7⟩ := ldCell_ok hi ha h
  have h6' : w.cell? ad = some r := by simpa [Addr.add] using h6
  refine ⟨r, ?_, ?_⟩
  · simp only [Instr.loadAt, Instr.sureAddr, Sem.run_bind, Sem.run_pure, Result.andThen_ok, loadVar, run_isAgg h3, isAggD, Sem.run_ite]
    simp [h6']
  · simp only [LeafOk, Rp] at h7
    obtain ⟨_, ad', ws, e1, k1, k2, k3, k4⟩ := h7
    injection e1 with e1
    subst e1
    exact ⟨ad', ws, by simp [Addr.add], k1, k2, k3, k4⟩
theorem part_one {t : TypeId} {d : TypeDesc} (hd : P.underlying t = some d) (hag : isAggD d = false) (cs : Array Value) (off : Nat) {v : Value} (hv : cs[off]? = some v) (w : World) : (part t cs off).run P w = .ok v w := by
  simp only [part, Sem.run_bind, run_isAgg hd, Result.andThen_ok, hag, Bool.false_eq_true, if_false, hv, Sem.run_pure]
theorem eqFields_cons {w : World} {d : TypeDesc} {f : Field} {fs : List Field} {cs ds : Array Value} {u v : Value} {b r : Bool} (hn : (!(f.name == "_")) = true) (hd : P.underlying f.type = some d) (hag : isAggD d = false) (hu : cs[f.offset]? = some u) (hv : ds[f.offset]? = some v)
    (h1 : (Op.equalIn 9999 f.type u v).run P w = .ok b w) (h2 : (Op.eqFields 9999 cs ds fs).run P w = .ok r w) : (Op.eqFields 9999 cs ds (f :: fs)).run P w = .ok (b && r) w := by
  have hn' : f.name ≠ "_" := by simpa using hn
  simp only [Op.eqFields, hn', ne_eq, not_false_eq_true, if_true, Sem.run_bind, part_one hd hag _ _ hu, part_one hd hag _ _ hv, Result.andThen_ok, h1]
  cases b
  · simp
  · simp [h2]
theorem aggEq_ok {w : World} {S : St} {c : Cc} {K : Nat → Prop} : ∀ (row : List Ty) (fields : List Field) (fs : List (Nat × Nat × Bool)) (i : Nat) (xs ys : List Leaf) (us vs pre pre' : List Value) {r : Bool}, eqAre P row fields = true → fieldsAre P fs fields = true → offsAre fs i = true →
    pre.length = i → pre'.length = i → All2 (LeafOk S c w K) xs us → All2 (LeafOk S c w K) ys vs → aggEq row xs ys = some r → (Op.eqFields 9999 (pre ++ us).toArray (pre' ++ vs).toArray fields).run P w = .ok r w
  | [], fields, fs, i, xs, ys, us, vs, pre, pre', r, h1, h2, h3, hp, hp', k1, k2, hr => by
    cases fields with
    | cons f fields => simp [eqAre] at h1
    | nil =>
      cases k1 <;> cases k2 <;> simp [aggEq] at hr
      subst hr; rfl
  | t :: row, [], fs, i, xs, ys, us, vs, pre, pre', r, h1, h2, h3, hp, hp', k1, k2, hr => by simp [eqAre] at h1
  | t :: row, f :: fields, [], i, xs, ys, us, vs, pre, pre', r, h1, h2, h3, hp, hp', k1, k2, hr => by simp [fieldsAre] at h2
  | t :: row, f :: fields, (o, n, ag) :: fs, i, xs, ys, us, vs, pre, pre', r, h1, h2, h3, hp, hp', k1, k2, hr => by
    simp only [eqAre, Bool.and_eq_true] at h1
    obtain ⟨⟨hn, hd⟩, h1⟩ := h1
    split at hd
    · rename_i d hd'
      simp only [fieldsAre, Bool.and_eq_true, beq_iff_eq] at h2
      obtain ⟨⟨⟨⟨ho, _⟩, _⟩, _⟩, h2⟩ := h2
      simp only [offsAre, Bool.and_eq_true, beq_iff_eq] at h3
      obtain ⟨⟨⟨hoi, _⟩, _⟩, h3⟩ := h3
      cases k1 with
      | nil => cases t <;> simp [aggEq] at hr
      | cons a1 a2 =>
        rename_i x u xs us
        cases k2 with
        | nil => cases t <;> cases x <;> simp [aggEq] at hr
        | cons b1 b2 =>
          rename_i y v ys vs
          have rec_ := fun {r'} hr' => aggEq_ok row fields fs (i + 1) xs ys us vs (pre ++ [u]) (pre' ++ [v]) (r := r') h1 h2 h3 (by simp [hp]) (by simp [hp']) a2 b2 hr'
          simp only [List.append_assoc, List.singleton_append] at rec_
          have hu : (pre ++ u :: us).toArray[f.offset]? = some u := by rw [ho, hoi, ← hp]; simp
          have hv : (pre' ++ v :: vs).toArray[f.offset]? = some v := by rw [ho, hoi, ← hp']; simp
          unfold aggEq at hr
          split at hr
          · rename_i e _ _; cases e
          · rename_i e1 e2 e3
            injection e1 with e1 e1'; injection e2 with e2 e2'; injection e3 with e3 e3'
            subst e1 e2 e3 e1' e2' e3'
            split at hr
            · rename_i hk; subst hk
              rw [Option.map_eq_some_iff] at hr
              obtain ⟨r', hr', rfl⟩ := hr
              obtain rfl := int_leaf a1
              obtain rfl := int_leaf b1
              cases d <;> simp [descIs] at hd
              exact eqFields_cons hn hd' rfl hu hv (equalIn_int 9998 f.type _ _ _ _ hd') (rec_ hr')
            · cases hr
          · rename_i e1 e2 e3
            injection e1 with e1 e1'; injection e2 with e2 e2'; injection e3 with e3 e3'
            subst e1 e2 e3 e1' e2' e3'
            rw [Option.map_eq_some_iff] at hr
            obtain ⟨r', hr', rfl⟩ := hr
            obtain rfl := bool_leaf a1
            obtain rfl := bool_leaf b1
            cases d <;> simp [descIs] at hd
            exact eqFields_cons hn hd' rfl hu hv (equalIn_bool 9998 f.type _ _ hd') (rec_ hr')
          · rename_i e1 e2 e3
            injection e1 with e1 e1'; injection e2 with e2 e2'; injection e3 with e3 e3'
            subst e1 e2 e3 e1' e2' e3'
            rw [Option.map_eq_some_iff] at hr
            obtain ⟨r', hr', rfl⟩ := hr
            have q1 := str_leaf a1
            have q2 := str_leaf b1
            cases d <;> simp [descIs] at hd
            subst q1 q2
            refine eqFields_cons hn hd' rfl hu hv ?_ (rec_ hr')
            rw [run_equalIn_string _ _ _ _ _ hd', ByteArray.toList_eq, ByteArray.toList_eq]
          · cases hr
    · cases hd
theorem agg_eql {w : World} (t : TypeId) (us vs : List Value) (fields : Array Field) (ht : P.underlying t = some (.struct fields)) (hp : P.stoodInHeld t = false) {r : Bool} (h : (Op.eqFields 9999 us.toArray vs.toArray fields.toList).run P w = .ok r w) :
    (binOp .eql t (.agg us.toArray) (.agg vs.toArray)).run P w = .ok (.bool r) w ∧ (binOp .neq t (.agg us.toArray) (.agg vs.toArray)).run P w = .ok (.bool (!r)) w := by
  have hf : P.fieldsOf t = fields := by simp [Program.fieldsOf, ht]
  have he : (Op.equalIn 10000 t (.agg us.toArray) (.agg vs.toArray)).run P w = .ok r w := by
    rw [run_equalIn_agg w 9999 t _ _ (by rw [hf]; exact ht) hp, hf]; exact h
  rw [run_eql_struct, run_neq_struct, he]
  exact ⟨rfl, rfl⟩
end
end Go.V

namespace Go.V
open Go.RowKit
theorem Stay.trans0 {S S1 S2 : St} {c c1 c2 : Cc} {w w1 w2 : World} {K K1 K2 : Nat → Prop} {ks : List Kl} (h : Stay S S1 c c1 w w1 K K1 []) (k : Stay S1 S2 c1 c2 w1 w2 K1 K2 ks) : Stay S S2 c c2 w w2 K K2 ks := by
  refine ⟨fun k' st win v hk hl => k.vw k' st win v hk (h.vw k' st win v rfl hl), fun k' st v hk hl => k.el k' st v hk (h.el k' st v rfl hl), fun k' off v hk hl => k.pl k' off v hk (h.pl k' off v rfl hl), ?_⟩
  refine ⟨Nat.le_trans h.kk.1 k.kk.1, fun g hg hlt => ?_⟩
  obtain ⟨h1, h2⟩ := h.kk.2 g hg hlt
  obtain ⟨h3, h4⟩ := k.kk.2 g h2 (Nat.lt_of_lt_of_le hlt h.kk.1)
  exact ⟨h3.trans h1, h4⟩
theorem Stay.leaf0 {S S1 : St} {c c1 : Cc} {w w1 : World} {K K1 : Nat → Prop} (h : Stay S S1 c c1 w w1 K K1 []) {l : Leaf} {v : Value} (hl : LeafOk S c w K l v) : LeafOk S1 c1 w1 K1 l v := by
  have := h.leaf hl
  rwa [Leaf.kp_nil] at this
theorem Stay.refl (S : St) (c : Cc) (w : World) (K : Nat → Prop) : Stay S S c c w w K K [] := ⟨fun _ _ _ _ _ h => h, fun _ _ _ _ h => h, fun _ _ _ _ h => h, KSame.refl _ _⟩
theorem memStore {b : Base} {c : Cc} (k n : Nat) : ∀ (ls : List Leaf) (vs : List Value) (off : Nat) (S : St) (w : World), Inv b S w c → S.ms k = some n → off + ls.length ≤ n → All2 (LeafOk S c w (Kok b S c)) ls vs →
    Inv b (S.ups (stPls k ls off)) (w.setCells (c.mb k) off vs) c ∧ Stay S (S.ups (stPls k ls off)) c c w (w.setCells (c.mb k) off vs) (Kok b S c) (Kok b (S.ups (stPls k ls off)) c) []
  | [], _, off, S, w, hi, _, _, .nil => ⟨hi, Stay.refl _ _ _ _⟩
  | l :: ls, _, off, S, w, hi, hk, hle, .cons (b := v) (bs := vs) h1 h2 => by
    simp only [List.length_cons] at hle
    obtain ⟨h3, h4⟩ := hi.setMem k off n l v hk (by omega) h1 rfl rfl
    have ih := memStore k n ls vs (off + 1) (S.up (.mc k off l)) (w.setCell ⟨c.mb k, off, none⟩ v) h3 hk (by omega) (h2.mono fun l v h => h4.leaf0 h)
    exact ⟨ih.1, h4.trans0 ih.2⟩
theorem cells_there {b : Base} {S : St} {c : Cc} {w : World} (hi : Inv b S w c) {k n : Nat} (hk : S.ms k = some n) {j : Nat} (hj : j < n) : (w.cell? ⟨c.mb k, j, none⟩).isSome = true ∧ w.frozen? ⟨c.mb k, j, none⟩ = false := by
  obtain ⟨cs, e, fr, h1, h2, h3, _⟩ := hi.ms k n hk
  refine ⟨?_, frozen_blk h1 h3 (by omega)⟩
  rw [cell_blk h1, Array.getElem?_eq_getElem (by omega)]; rfl
section
variable {P : Program} {ti : TypeId → TI}
theorem run_storeAt {t : TypeId} {i : TypeInfo} (hi : P.info? t = some i) {v : Value} {vs : List Value} (hv : v.cells = vs.toArray) (hn : i.size = vs.length) (ad : Addr) (w w' : World) (h : (storeCells ad vs).run P w = .ok () w') :
    (Instr.storeAt t (.pointer (some ad)) v).run P w = .ok () w' := by
  simp only [Instr.storeAt, Instr.sureAddr, Sem.run_bind, Sem.run_pure, Result.andThen_ok, storeVar, run_size hi, Sem.run_ite]
  rw [if_neg (by rw [hv, hn]; simp), hv]
  exact h
theorem stPl_ok {b : Base} {S : St} {c : Cc} {w : World} (hT : TabOk P ti) (hi : Inv b S w c) {t : TypeId} {k off : Nat} {v u : Value} {ts : List Ty} {x : SV} {ls : List Leaf} {r : List Kl × List U}
    (ha : S1Ok S c w (Kok b S c) (.pl k off) v) (ht : (ti t).cells = some ts) (hx : SVOk S c w (Kok b S c) x u) (hl : leaves x = some ls) (hn : ls.length = ts.length) (h : (stCells (.pl k off) ls).ev S = some r) :
    ∃ w', (Instr.storeAt t v u).run P w = .ok () w' ∧ Did b S c w ⟨.no, r.1, r.2⟩ undef w' := by
  obtain ⟨n, hk, rfl⟩ := ha
  simp only [stCells, Tr.ev, hk] at h
  split at h
  · rename_i hle
    simp only [Tr.ev, Option.some.injEq] at h
    subst h
    obtain ⟨i, h1, h2, _⟩ := size_of hT ht
    obtain ⟨vs, h3, h4, h5⟩ := leaves_ok hi hx hl
    obtain ⟨h6, h7⟩ := memStore k n ls vs off S w hi hk hle h4
    have hlen := h4.len
    have hrun := run_storeCells_cells (P := P) (c.mb k) off vs 0 w (fun j hj => (cells_there hi hk (by omega)).1) (fun j hj => (cells_there hi hk (by omega)).2) h5
    exact ⟨_, run_storeAt h1 h3 (by omega) _ w _ hrun, c, h6, h7, trivial⟩
  · simp [Tr.ev] at h
end
theorem bump_bump : ∀ (st : Steps) (a b : Nat), bump (bump st a) b = bump st (a + b)
  | [], _, _ => rfl
  | [(i, j)], a, b => by simp only [bump]; congr 2; omega
  | p :: q :: ps, a, b => by
    have hb : bump (p :: q :: ps) a = p :: bump (q :: ps) a := rfl
    obtain ⟨q', ps', hq⟩ : ∃ q' ps', bump (q :: ps) a = q' :: ps' := by
      cases ps with
      | nil => obtain ⟨x, y⟩ := q; exact ⟨_, _, rfl⟩
      | cons q2 ps => exact ⟨_, _, rfl⟩
    rw [hb, hq]
    show p :: bump (q' :: ps') b = p :: bump (q :: ps) (a + b)
    rw [← hq, bump_bump (q :: ps) a b]
theorem absorb_ok {b : Base} {S : St} {c : Cc} {w : World} (hi : Inv b S w c) {t : Ty} {l : Leaf} {v : Value} {z : t.D × List Nat} (hl : LeafOk S c w (Kok b S c) l v) (h : (absorb t l).ev S = some z) :
    (∀ k, k ∈ z.2 → S.ow k ≠ none) ∧ unlike z.2 = true ∧ ∃ G, Rp w (Kok b S c) t z.1 [v] G ∧ G.Nodup ∧ ∀ g, g ∈ G → ∃ k, k ∈ z.2 ∧ g ∈ c.F k := by
  unfold absorb at h
  split at h
  · rename_i u x
    split at h
    · rename_i hu
      subst hu
      simp only [Tr.ev, Option.some.injEq] at h
      subst h
      exact ⟨by simp, rfl, [], hl, by simp, by simp⟩
    · simp [Tr.ev] at h
  · split at h
    · rename_i o e r
      simp only [Tr.ev, Option.some.injEq] at h
      subst h
      obtain rfl : v = .slice none 0 0 := hl
      refine ⟨by simp, rfl, [], ?_, by simp, by simp⟩
      cases o with
      | true => simp only [Rp]; exact .inl ⟨trivial, trivial, trivial⟩
      | false => simp only [Rp]; exact ⟨trivial, none, 0, [], rfl, Nat.le_refl _, ⟨rfl, rfl⟩, .inl trivial⟩
    · simp [Tr.ev] at h
  · rename_i k win
    simp only [ev_bind, Option.bind_eq_some_iff] at h
    obtain ⟨o, ho, h⟩ := h
    split at h
    · rename_i hu
      subst hu
      simp only [Tr.ev, Option.some.injEq] at h
      subst h
      obtain ⟨h1, F', h2, h3, h4⟩ := view_own hi hl ho
      exact ⟨by simpa using h1, by simp [unlike], F', h2, h4, fun g hg => ⟨k, by simp, h3 g hg⟩⟩
    · simp [Tr.ev] at h
  · simp [Tr.ev] at h
theorem unlike_cons {k : Nat} {ks : List Nat} (h : unlike (k :: ks) = true) : k ∉ ks ∧ unlike ks = true := by
  simp only [unlike, Bool.and_eq_true, Bool.not_eq_true'] at h
  exact ⟨by simpa using h.1, h.2⟩
theorem unlike_append : ∀ {a b : List Nat}, unlike (a ++ b) = true → unlike a = true ∧ unlike b = true ∧ ∀ k, k ∈ a → k ∉ b
  | [], b, h => ⟨rfl, h, by simp⟩
  | k :: a, b, h => by
    obtain ⟨h1, h2⟩ := unlike_cons (ks := a ++ b) h
    obtain ⟨h3, h4, h5⟩ := unlike_append h2
    refine ⟨?_, h4, ?_⟩
    · simp only [unlike, Bool.and_eq_true, Bool.not_eq_true', h3, and_true]
      simp only [List.mem_append] at h1
      simp; exact fun h => h1 (.inl h)
    · intro x hx
      rcases List.mem_cons.1 hx with rfl | hx
      · exact fun hb => h1 (by simp [hb])
      · exact h5 x hx
theorem Step.setCell (w : World) (a : Addr) (v : Value) : Step w (w.setCell a v) (fun g => g = a.block) :=
  ⟨rfl, rfl, rfl, by simp [World.setCell], fun g _ hg => Below.heap_setCell _ _ _ _ hg⟩
section
variable {P : Program} {ti : TypeId → TI}
abbrev InKeys (c : Cc) (κ : Nat) (ks : List Nat) (g : Nat) : Prop := g ∈ c.F κ ∨ ∃ k, k ∈ ks ∧ g ∈ c.F k
theorem elStore {b : Base} {S : St} {c : Cc} {w : World} (hi : Inv b S w c) (κ : Nat) (o0 : Own) (hκ : S.ow κ = some o0) (st : Steps) (hst : st ≠ []) (hst' : ∀ n, bump st n ≠ []) (ad : Addr) :
    ∀ (ls : List Leaf) (vs : List Value) (n : Nat) (xs : List o0.r.D) (done : List Nat) (w1 : World) (F1 : List Nat) (r : Own × List Nat),
      xs.length = o0.xs.length → Rp w1 (Kok b S c) (.sl true o0.e o0.r) xs [c.hv κ] F1 → F1.Nodup → (∀ g, g ∈ F1 → InKeys c κ done g) → (∀ k, k ∈ done → S.ow k ≠ none) →
      Step w w1 (InKeys c κ done) → w1.heap.size = w.heap.size → (∀ m, n ≤ m → adr w1 (c.hv κ) (.sl true o0.e o0.r) (bump st m) = some (ad.add m)) →
      All2 (LeafOk S c w (Kok b S c)) ls vs → (∀ v, v ∈ vs → v.oneCell' = true) → (stEls ⟨o0.e, o0.r, xs⟩ st ls n).ev S = some r → κ ∉ done ++ r.2 → unlike (done ++ r.2) = true →
      ∃ (xs' : List o0.r.D) (w' : World) (F' : List Nat), (storeCells ad vs n).run P w1 = .ok () w' ∧ r.1 = ⟨o0.e, o0.r, xs'⟩ ∧ xs'.length = o0.xs.length ∧ Rp w' (Kok b S c) (.sl true o0.e o0.r) xs' [c.hv κ] F' ∧ F'.Nodup ∧
        (∀ g, g ∈ F' → InKeys c κ (done ++ r.2) g) ∧ (∀ k, k ∈ done ++ r.2 → S.ow k ≠ none) ∧ Step w w' (InKeys c κ (done ++ r.2)) ∧ w'.heap.size = w.heap.size
  | [], _, n, xs, done, w1, F1, r, hlen, hp, hnd, hF, hd, hs, hsz, _, .nil, _, h, _, _ => by
    simp only [stEls, Tr.ev, Option.some.injEq] at h
    subst h
    simp only [List.append_nil]
    exact ⟨xs, w1, F1, rfl, rfl, hlen, hp, hnd, hF, hd, hs, hsz⟩
  | l :: ls, _, n, xs, done, w1, F1, r, hlen, hp, hnd, hF, hd, hs, hsz, hadr, .cons (b := v) (bs := vs) h1 h2, hone, h, hκd, hun => by
    simp only [stEls, ev_bind, Option.bind_eq_some_iff, Tr.ev, Option.some.injEq] at h
    obtain ⟨c0, hc0, z, hz, ys, hys, r2, hr2, rfl⟩ := h
    rw [ev_get] at hc0
    rw [ev_set] at hys
    obtain ⟨k1, k2, G, k3, k4, k5⟩ := absorb_ok hi h1 hz
    simp only [← List.append_assoc] at hun hκd
    obtain ⟨hu1, _, _⟩ := unlike_append hun
    obtain ⟨_, _, hu2⟩ := unlike_append hu1
    obtain ⟨a, h', Fa, G0, Fb, p1, p2, p3, rfl, p5, p6, p7, hput⟩ := Rp.put (bump st n) _ _ (hst' n) hp hnd hc0 hys
    rw [hadr n (Nat.le_refl _)] at p1
    injection p1 with p1
    subst p1
    have hblk : (ad.add n).block = ad.block := add_block _ _
    have hone1 : v.oneCell' = true := hone v (by simp)
    have hrun : (store (ad.add n) v).run P w1 = .ok () (w1.setCell (ad.add n) v) := by
      rw [run_store P w1 _ v _ hone1, p2]; simp [p7]
    have hstep := Step.setCell w1 (ad.add n) v
    have hin : ∀ g, g = (ad.add n).block → InKeys c κ done g := fun g hg => hF g (by rw [hg]; exact List.mem_append_left _ p5)
    have hGapart : ∀ g, g ∈ G → ¬ InKeys c κ done g := by
      intro g hg hx
      obtain ⟨k, hk, hgk⟩ := k5 g hg
      have hko : S.ow k ≠ none := k1 k hk
      have hkκ : k ≠ κ := by rintro rfl; exact hκd (by simp [hk])
      rcases hx with hx | ⟨k', hk', hx⟩
      · exact hi.oo k κ hkκ hko (by rw [hκ]; simp) g hgk hx
      · have hkk : k ≠ k' := by rintro rfl; exact hu2 k hk' hk
        exact hi.oo k k' hkk hko (hd k' hk') g hgk hx
    have hGsame : Same w w1 G := fun g hg => by
      obtain ⟨k, hk, hgk⟩ := k5 g hg
      exact hs.same g (hi.fr g (.inr ⟨k, k1 k hk, hgk⟩)).1 (hGapart g hg)
    have hT : ∀ g, InKeys c κ done g → Owned S c g := by
      rintro g (hg | ⟨k, hk, hg⟩)
      · exact .inr ⟨κ, by rw [hκ]; simp, hg⟩
      · exact .inr ⟨k, hd k hk, hg⟩
    have kk1 : KSame w w1 (Kok b S c) (Kok b S c) := ksame hs hT (fun g hg => .inl hg)
    have kk2 : KSame w1 (w1.setCell (ad.add n) v) (Kok b S c) (Kok b S c) := ⟨hstep.size, fun g hg hlt => ⟨hstep.same g hlt fun e => hg.2 (hT g (hin g e)), hg⟩⟩
    have hz1 : Rp w1 (Kok b S c) c0.1 z.1 [v] G := Rp.frame kk1 _ _ k3 hGsame
    have hz2 : Rp (w1.setCell (ad.add n) v) (Kok b S c) c0.1 z.1 [v] G := Rp.frame kk2 _ _ hz1 fun g hg => Below.heap_setCell _ _ _ _ fun e => hGapart g hg (hin g e)
    obtain ⟨hnew, hadr2⟩ := hput _ _ v G hz2 kk2 rfl (fun g _ hg => Below.heap_setCell _ _ _ _ hg)
    have hset : ys.length = xs.length := by
      obtain ⟨⟨i, j⟩, ps, hb⟩ : ∃ p ps, bump st n = p :: ps := by
        cases hbb : bump st n with
        | nil => exact absurd hbb (hst' n)
        | cons p ps => exact ⟨p, ps, rfl⟩
      rw [hb] at hys
      simp only [setT, run_get, Option.bind_eq_some_iff] at hys
      obtain ⟨row, _, hys⟩ := hys
      split at hys
      · simp only [run_bind, Option.bind_eq_some_iff] at hys
        obtain ⟨yy, _, hys⟩ := hys
        split at hys
        · simp only [Tr.run, Option.some.injEq] at hys; rw [← hys]; simp
        · simp [Tr.run] at hys
      · simp [Tr.run] at hys
    have hFnd : (Fa ++ (G ++ Fb)).Nodup := by
      rw [List.nodup_append] at hnd ⊢
      obtain ⟨n1, n2, n3⟩ := hnd
      rw [List.nodup_append] at n2 ⊢
      refine ⟨n1, ⟨k4, n2.2.1, ?_⟩, ?_⟩
      · rintro x hx y hy rfl
        exact hGapart x hx (hF x (by simp [hy]))
      · rintro x hx y hy rfl
        rcases List.mem_append.1 hy with hy | hy
        · exact hGapart x hy (hF x (by simp [hx]))
        · exact n3 x hx x (by simp [hy]) rfl
    have ih := elStore hi κ o0 hκ st hst hst' ad ls vs (n + 1) ys (done ++ z.2) (w1.setCell (ad.add n) v) (Fa ++ (G ++ Fb)) r2 (hset.trans hlen) hnew hFnd
      (by
        intro g hg
        rcases List.mem_append.1 hg with hg | hg
        · rcases hF g (by simp [hg]) with h | ⟨k, h, h'⟩
          · exact .inl h
          · exact .inr ⟨k, by simp [h], h'⟩
        · rcases List.mem_append.1 hg with hg | hg
          · obtain ⟨k, h, h'⟩ := k5 g hg; exact .inr ⟨k, by simp [h], h'⟩
          · rcases hF g (by simp [hg]) with h | ⟨k, h, h'⟩
            · exact .inl h
            · exact .inr ⟨k, by simp [h], h'⟩)
      (by intro k hk; rcases List.mem_append.1 hk with hk | hk; exact hd k hk; exact k1 k hk)
      ((hs.trans (hstep.mono hin)).mono (by rintro g (h | ⟨k, h, h'⟩); exact .inl h; exact .inr ⟨k, by simp [h], h'⟩))
      (by rw [← hsz]; simp [World.setCell])
      (by
        intro m hm
        have := hadr2 (m - n)
        rw [bump_bump, show n + (m - n) = m by omega] at this
        rw [this]; exact hadr m (by omega))
      h2 (fun v hv => hone v (by simp [hv])) hr2 hκd hun
    obtain ⟨xs', w', F', q1, q2, q3, q4, q5, q6, q7, q8, q9⟩ := ih
    refine ⟨xs', w', F', ?_, q2, q3, q4, q5, by simpa [List.append_assoc] using q6, by simpa [List.append_assoc] using q7, by simpa [List.append_assoc] using q8, q9⟩
    simp only [storeCells, Sem.run_bind, hrun, Result.andThen_ok]
    exact q1
theorem goneU_ow (ks : List Nat) : ∀ (S : St), (S.ups (goneU ks)).ms = S.ms ∧ (S.ups (goneU ks)).mc = S.mc ∧ ∀ k, (S.ups (goneU ks)).ow k = if k ∈ ks then none else S.ow k := by
  induction ks with
  | nil => intro S; exact ⟨rfl, rfl, fun k => by simp [goneU, St.ups]⟩
  | cons k0 ks ih =>
    intro S
    obtain ⟨h1, h2, h3⟩ := ih (S.up (.ow k0 none))
    refine ⟨h1, h2, fun k => ?_⟩
    show ((S.up (.ow k0 none)).ups (goneU ks)).ow k = _
    rw [h3]
    by_cases hk : k ∈ ks
    · simp [hk]
    · rw [if_neg hk]
      show (if k = k0 then none else S.ow k) = _
      by_cases hk0 : k = k0
      · simp [hk0]
      · simp [hk0, hk]
theorem ups_append (us vs : List U) : ∀ S : St, S.ups (us ++ vs) = (S.ups us).ups vs := by
  induction us with
  | nil => intro S; rfl
  | cons u us ih => intro S; exact ih _
theorem selfOf_some {k : Nat} {st : Steps} {ls : List Leaf} {w : Nat × Nat} (h : selfOf k st ls = some w) : ls = [.vw k st (some (w.1, w.2))] := by
  unfold selfOf at h
  split at h
  · split at h
    · rename_i hk
      obtain ⟨rfl, rfl⟩ := hk
      injection h with h; subst h; rfl
    · cases h
  · cases h
theorem stSelf_ok {b : Base} {S : St} {c : Cc} {w : World} (hT : TabOk P ti) (hi : Inv b S w c) {t : TypeId} {κ : Nat} {st : Steps} {v u : Value} {ts : List Ty} {x : SV} {lo n : Nat} {r : List Kl × List U}
    (ha : S1Ok S c w (Kok b S c) (.el κ st) v) (ht : (ti t).cells = some ts) (hx : SVOk S c w (Kok b S c) x u) (hl : leaves x = some [.vw κ st (some (lo, n))]) (hn : ts.length = 1) (h : (stSelf κ st lo n).ev S = some r) :
    ∃ w', (Instr.storeAt t v u).run P w = .ok () w' ∧ Did b S c w ⟨.no, r.1, r.2⟩ undef w' := by
  obtain ⟨o0, ad, hκ, had, rfl, pre, ⟨i, j⟩, d, rfl, hd⟩ := ha
  generalize hst : pre ++ [(i, j)] = st at *
  have hne : st ≠ [] := by rw [← hst]; simp
  simp only [stSelf, Tr.ev, hκ, ev_bind, Option.bind_eq_some_iff] at h
  obtain ⟨c0, hc0, h⟩ := h
  split at h
  · rename_i e r' ys
    simp only [ev_bind, Option.bind_eq_some_iff, Tr.ev, Option.some.injEq] at h
    obtain ⟨zs, hzs, h⟩ := h
    subst h
    rw [ev_get] at hc0
    rw [ev_set] at hzs
    obtain ⟨ie, i1, i2, _⟩ := size_of hT ht
    obtain ⟨vs, h3, h4, h5⟩ := leaves_ok hi hx hl
    match vs, h4 with
    | [v1], .cons h4 .nil =>
      obtain ⟨o1, e1, r1, ys1, hd1, ho1, hg1, hh1, hw1⟩ := h4
      obtain rfl : o0 = o1 := by rw [hκ] at ho1; injection ho1
      rw [hc0] at hg1
      injection hg1 with hg1
      injection hg1 with ha1 hb1
      injection ha1 with _ he1 hr1
      subst he1 hr1
      obtain rfl := eq_of_heq hb1
      have hown := hi.ow κ o0 hκ
      have hnd := hi.nd κ (by rw [hκ]; simp)
      obtain ⟨a, h', Fa, G0, Fb, p1, p2, p3, p4, p5, p6, p7, hput⟩ := Rp.put st _ _ hne hown hnd hc0 hzs
      rw [had] at p1
      injection p1 with p1
      subst p1
      have hhd : hd1 = h' := by
        obtain ⟨p, ps, rfl⟩ := List.exists_cons_of_ne_nil hne
        simp only [hdr, had] at hh1
        rw [p2] at hh1
        injection hh1 with hh1
        exact hh1.symm
      subst hhd
      rw [p4] at hnd
      have hndG : G0.Nodup := (List.nodup_append.1 (List.nodup_append.1 hnd).2.1).1
      obtain ⟨F2, q1, q2, q3⟩ := own_win p6 hndG hw1
      have hone1 : v1.oneCell' = true := h5 v1 (by simp)
      have hrun : (storeCells ad [v1] 0).run P w = .ok () (w.setCell ad v1) := by
        have h0 : ad.add 0 = ad := rfl
        simp only [storeCells, Sem.run_bind, h0]
        rw [run_store P w _ v1 _ hone1, p2]; simp [p7]
      have hstep := Step.setCell w ad v1
      have hin : ∀ g, g = ad.block → g ∈ c.F κ := fun g hg => by rw [p4, hg]; exact List.mem_append_left _ p5
      have kk : KSame w (w.setCell ad v1) (Kok b S c) (Kok b S c) := ⟨hstep.size, fun g hg hlt => ⟨hstep.same g hlt fun e => hg.2 (.inr ⟨κ, by rw [hκ]; simp, hin g e⟩), hg⟩⟩
      have hG2 : ∀ g, g ∈ F2 → g ≠ ad.block := by
        rintro g hg rfl
        exact (List.nodup_append.1 hnd).2.2 ad.block p5 ad.block (List.mem_append_left _ (q2 _ hg)) rfl
      have hz : Rp (w.setCell ad v1) (Kok b S c) (.sl true e r') ((List.drop lo ys).take n) [v1] F2 := Rp.frame kk _ _ q1 fun g hg => Below.heap_setCell _ _ _ _ (hG2 g hg)
      obtain ⟨hnew, _⟩ := hput _ _ v1 F2 hz kk rfl (fun g _ hg => Below.heap_setCell _ _ _ _ hg)
      have hlen : zs.length = o0.xs.length := by
        obtain ⟨⟨i', j'⟩, ps, rfl⟩ := List.exists_cons_of_ne_nil hne
        simp only [setT, run_get, Option.bind_eq_some_iff] at hzs
        obtain ⟨row, _, hzs⟩ := hzs
        split at hzs
        · simp only [run_bind, Option.bind_eq_some_iff] at hzs
          obtain ⟨yy, _, hzs⟩ := hzs
          split at hzs
          · simp only [Tr.run, Option.some.injEq] at hzs; rw [← hzs]; simp
          · simp [Tr.run] at hzs
        · simp [Tr.run] at hzs
      have hsub : ∀ g, g ∈ Fa ++ (F2 ++ Fb) → g ∈ c.F κ := by
        intro g hg
        rw [p4]
        simp only [List.mem_append] at hg ⊢
        rcases hg with hg | hg | hg
        · exact .inl hg
        · exact .inr (.inl (q2 g hg))
        · exact .inr (.inr hg)
      have hFnd : (Fa ++ (F2 ++ Fb)).Nodup := by
        rw [List.nodup_append] at hnd ⊢
        obtain ⟨n1, n2, n3⟩ := hnd
        rw [List.nodup_append] at n2 ⊢
        refine ⟨n1, ⟨q3, n2.2.1, fun x hx y hy => n2.2.2 x (q2 x hx) y hy⟩, fun x hx y hy => n3 x hx y ?_⟩
        rcases List.mem_append.1 hy with hy | hy
        · exact List.mem_append_left _ (q2 y hy)
        · exact List.mem_append_right _ hy
      refine ⟨_, run_storeAt i1 h3 (by rw [i2, hn]; rfl) ad w _ hrun, ?_⟩
      generalize hS : (S.kp [.deep κ]).ups [.ow κ (some ⟨o0.e, o0.r, zs⟩)] = S'
      obtain ⟨c', _, _, _, e4, e5, _⟩ := hi.setOwn (S' := S') (w' := w.setCell ad v1) κ ⟨o0.e, o0.r, zs⟩ [] [.deep κ] (c.hv κ) (Fa ++ (F2 ++ Fb))
        (by intro k; rw [← hS]; show (if k = κ then _ else (S.kp _).ow k) = _; rw [kp_ow]; simp)
        (by rw [← hS]; exact kp_ms S _) (by intro k i; rw [← hS]; exact kp_mc S [.deep κ] k i) (fun k hk => by cases hk)
        (fun o ho => by
          obtain rfl : o0 = o := by rw [hκ] at ho; injection ho
          exact .inr ⟨by simp, rfl, zs, rfl, hlen⟩)
        (hstep.mono fun g hg => ⟨κ, .inl rfl, by rw [hκ]; simp, hin g hg⟩)
        (fun g hg => ⟨by
          have := (hi.fr g (.inr ⟨κ, by rw [hκ]; simp, hsub g hg⟩)).1
          simpa [World.setCell] using this, .inl ⟨κ, .inl rfl, by rw [hκ]; simp, hsub g hg⟩⟩) hFnd
        (fun K' hK _ => Rp.frame ⟨Nat.le_refl _, fun g hg hlt => ⟨rfl, (hK.2 g hg (by simpa [World.setCell] using hlt)).2⟩⟩ _ _ hnew fun g _ => rfl)
      subst hS
      exact ⟨c', e4, e5, trivial⟩
  · simp [Tr.ev] at h
theorem stEl_ok {b : Base} {S : St} {c : Cc} {w : World} (hT : TabOk P ti) (hi : Inv b S w c) {t : TypeId} {κ : Nat} {st : Steps} {v u : Value} {ts : List Ty} {x : SV} {ls : List Leaf} {r : List Kl × List U}
    (ha : S1Ok S c w (Kok b S c) (.el κ st) v) (ht : (ti t).cells = some ts) (hx : SVOk S c w (Kok b S c) x u) (hl : leaves x = some ls) (hn : ls.length = ts.length) (h : (stCells (.el κ st) ls).ev S = some r) :
    ∃ w', (Instr.storeAt t v u).run P w = .ok () w' ∧ Did b S c w ⟨.no, r.1, r.2⟩ undef w' := by
  simp only [stCells] at h
  split at h
  · rename_i ww hself
    obtain ⟨lo, n⟩ := ww
    exact stSelf_ok hT hi ha ht hx (selfOf_some hself ▸ hl) (by rw [selfOf_some hself] at hn; exact hn.symm) h
  obtain ⟨o0, ad, hκ, had, rfl, pre, ⟨i, j⟩, d, rfl, hd⟩ := ha
  simp only [Tr.ev, hκ, ev_bind, Option.bind_eq_some_iff] at h
  obtain ⟨r0, hr0, h⟩ := h
  split at h
  · simp [Tr.ev] at h
  · rename_i hc
    simp only [Bool.or_eq_true, Bool.not_eq_true', not_or, Bool.not_eq_false] at hc
    obtain ⟨hc1, hc2⟩ := hc
    have hκr : κ ∉ r0.2 := by simpa using hc1
    simp only [Tr.ev, Option.some.injEq] at h
    subst h
    obtain ⟨ie, i1, i2, _⟩ := size_of hT ht
    obtain ⟨vs, h3, h4, h5⟩ := leaves_ok hi hx hl
    have hbump : ∀ n, bump (pre ++ [(i, j)]) n ≠ [] := fun n => by rw [bump_snoc]; simp
    obtain ⟨xs', w', F', q1, q2, q3, q4, q5, q6, q7, q8, q9⟩ := elStore (P := P) hi κ o0 hκ (pre ++ [(i, j)]) (by simp) hbump ad ls vs 0 o0.xs [] w (c.F κ) r0 rfl (hi.ow κ o0 hκ) (hi.nd κ (by rw [hκ]; simp))
      (fun g hg => .inl hg) (by simp) (Step.refl _ _) rfl (fun m _ => adr_bump _ m had) h4 h5 hr0 (by simpa using hκr) (by simpa using hc2)
    simp only [List.nil_append] at q6 q7 q8
    refine ⟨w', run_storeAt i1 h3 (by rw [i2, ← hn, h4.len]) ad w w' q1, ?_⟩
    generalize hS : (S.kp (.deep κ :: gone r0.2)).ups (.ow κ (some r0.1) :: goneU r0.2) = S'
    have hg := goneU_ow r0.2 ((S.kp (.deep κ :: gone r0.2)).up (.ow κ (some r0.1)))
    have how : ∀ k, S'.ow k = if k = κ then some r0.1 else if k ∈ r0.2 then none else S.ow k := by
      intro k
      rw [← hS]
      show (((S.kp (.deep κ :: gone r0.2)).up (.ow κ (some r0.1))).ups (goneU r0.2)).ow k = _
      rw [hg.2.2]
      by_cases hk : k = κ
      · subst hk; rw [if_neg hκr, if_pos rfl]; show (if k = k then some r0.1 else _) = _; rw [if_pos rfl]
      · rw [if_neg hk]
        by_cases hk2 : k ∈ r0.2
        · rw [if_pos hk2, if_pos hk2]
        · rw [if_neg hk2, if_neg hk2]; show (if k = κ then some r0.1 else (S.kp _).ow k) = _; rw [if_neg hk, kp_ow]
    have hms : S'.ms = S.ms := by
      rw [← hS]; exact hg.1.trans (kp_ms S _)
    have hmc : ∀ k i, S'.mc k i = (S.mc k i).kp (.deep κ :: gone r0.2) := by
      intro k i; rw [← hS]
      have : ((S.kp (.deep κ :: gone r0.2)).ups (.ow κ (some r0.1) :: goneU r0.2)).mc = (S.kp (.deep κ :: gone r0.2)).mc := hg.2.1
      rw [this, kp_mc]
    obtain ⟨c', _, _, _, e4, e5, _⟩ := hi.setOwn (S' := S') (w' := w') κ r0.1 r0.2 (.deep κ :: gone r0.2) (c.hv κ) F' how hms hmc (fun k hk => by simp [gone, hk])
      (fun o ho => by
        obtain rfl : o0 = o := by rw [hκ] at ho; injection ho
        exact .inr ⟨by simp, rfl, xs', q2, q3⟩)
      (q8.mono (by rintro g (h | ⟨k, h, h'⟩); exact ⟨κ, .inl rfl, by rw [hκ]; simp, h⟩; exact ⟨k, .inr h, q7 k h, h'⟩))
      (fun g hg => by
        have : ∃ k, (k = κ ∨ k ∈ r0.2) ∧ S.ow k ≠ none ∧ g ∈ c.F k := by
          rcases q6 g hg with h | ⟨k, h, h'⟩
          · exact ⟨κ, .inl rfl, by rw [hκ]; simp, h⟩
          · exact ⟨k, .inr h, q7 k h, h'⟩
        obtain ⟨k, k1, k2, k3⟩ := this
        exact ⟨by rw [q9]; exact (hi.fr g (.inr ⟨k, k2, k3⟩)).1, .inl ⟨k, k1, k2, k3⟩⟩) q5
      (fun K' hK _ => by
        rw [q2]
        have hKin : ∀ g, Kok b S c g → g < w'.heap.size → K' g := fun g hg hlt => (hK.2 g hg (by rw [← q9]; exact hlt)).2
        exact Rp.frame ⟨Nat.le_refl _, fun g hg hlt => ⟨rfl, hKin g hg hlt⟩⟩ _ _ q4 fun g _ => rfl)
    subst hS
    exact ⟨c', e4, e5, trivial⟩
end
end Go.V

namespace Go.V
open Go.RowKit
def Held (c : Cc) (ks : List Nat) (G : List Nat) : Prop := ∀ g, g ∈ G → ∃ k, k ∈ ks ∧ g ∈ c.F k
def Ows (S : St) (ks : List Nat) : Prop := ∀ k, k ∈ ks → S.ow k ≠ none
section
variable {b : Base} {S : St} {c : Cc} {w : World}
theorem held_append {ks ls : List Nat} {G H : List Nat} (hi : Inv b S w c) (hg : Held c ks G) (hh : Held c ls H) (ho : Ows S ks) (ho' : Ows S ls) (hu : unlike (ks ++ ls) = true) (n1 : G.Nodup) (n2 : H.Nodup) :
    Held c (ks ++ ls) (G ++ H) ∧ (G ++ H).Nodup := by
  obtain ⟨_, _, h3⟩ := unlike_append hu
  refine ⟨?_, List.nodup_append.2 ⟨n1, n2, ?_⟩⟩
  · intro g hx
    rcases List.mem_append.1 hx with hx | hx
    · obtain ⟨k, h, h'⟩ := hg g hx; exact ⟨k, by simp [h], h'⟩
    · obtain ⟨k, h, h'⟩ := hh g hx; exact ⟨k, by simp [h], h'⟩
  · rintro g hx g' hx' rfl
    obtain ⟨k, h, h'⟩ := hg g hx
    obtain ⟨l, q, q'⟩ := hh g hx'
    have hne : k ≠ l := by rintro rfl; exact h3 k h q
    exact hi.oo k l hne (ho k h) (ho' l q) g h' q'
theorem ows_append {ks ls : List Nat} (h : Ows S ks) (h' : Ows S ls) : Ows S (ks ++ ls) := fun k hk => (List.mem_append.1 hk).elim (h k) (h' k)
theorem ownOut_did (hi : Inv b S w c) (key : Nat) (o : Own) (gs : List Nat) (hgs : Ows S gs) {w' : World} {h' : Value} {F' : List Nat} (hst : Step w w' (fun g => ∃ k, k ∈ gs ∧ g ∈ c.F k))
    (hF : ∀ g, g ∈ F' → g < w'.heap.size ∧ ((∃ k, k ∈ gs ∧ g ∈ c.F k) ∨ w.heap.size ≤ g)) (hnd : F'.Nodup)
    (hR : ∀ K', KSame w w' (Kok b S c) K' → (∀ g, w.heap.size ≤ g → g ∉ F' → K' g) → Rp w' K' (.sl true o.e o.r) o.xs [h'] F') : Did b S c w (ownOut key o gs) h' w' := by
  unfold Did
  show ∃ c', Inv b ((S.kp (.all key :: gone gs)).ups (goneU gs ++ [.ow key (some o)])) w' c' ∧ Stay S ((S.kp (.all key :: gone gs)).ups (goneU gs ++ [.ow key (some o)])) c c' w w' (Kok b S c) (Kok b ((S.kp (.all key :: gone gs)).ups (goneU gs ++ [.ow key (some o)])) c') (.all key :: gone gs) ∧
    SVOk ((S.kp (.all key :: gone gs)).ups (goneU gs ++ [.ow key (some o)])) c' w' (Kok b ((S.kp (.all key :: gone gs)).ups (goneU gs ++ [.ow key (some o)])) c') (.s (.one (.vw key [] none))) h'
  generalize hS : (S.kp (.all key :: gone gs)).ups (goneU gs ++ [.ow key (some o)]) = S'
  have hg := goneU_ow gs (S.kp (.all key :: gone gs))
  rw [ups_append] at hS
  have how : ∀ k, S'.ow k = if k = key then some o else if k ∈ gs then none else S.ow k := by
    intro k; rw [← hS]
    show (if k = key then some o else ((S.kp (.all key :: gone gs)).ups (goneU gs)).ow k) = _
    rw [hg.2.2, kp_ow]
  have hms : S'.ms = S.ms := by
    rw [← hS]; show ((S.kp (.all key :: gone gs)).ups (goneU gs)).ms = _; rw [hg.1, kp_ms]
  have hmc : ∀ k i, S'.mc k i = (S.mc k i).kp (.all key :: gone gs) := by
    intro k i; rw [← hS]; show ((S.kp (.all key :: gone gs)).ups (goneU gs)).mc k i = _; rw [hg.2.1, kp_mc]
  obtain ⟨c', _, e2, _, e4, e5, _⟩ := hi.setOwn (S' := S') (w' := w') key o gs (.all key :: gone gs) h' F' how hms hmc (fun k hk => by simp [gone, hk]) (fun _ _ => .inl (by simp))
    (hst.mono (by rintro g ⟨k, h, h'⟩; exact ⟨k, .inr h, hgs k h, h'⟩))
    (fun g hg => ⟨(hF g hg).1, (hF g hg).2.imp (by rintro ⟨k, h, h'⟩; exact ⟨k, .inr h, hgs k h, h'⟩) id⟩) hnd hR
  refine ⟨c', e4, e5, o, o.e, o.r, o.xs, h', by rw [how, if_pos rfl], rfl, by rw [e2]; rfl, rfl⟩
theorem absorbRow_0 (ls : List Leaf) : absorbRow [] ls = match ls with | [] => .ret ((), []) | _ :: _ => .fail := by cases ls <;> rfl
theorem absorbRow_1 (t : Ty) (l : Leaf) : absorbRow [t] [l] = absorb t l := rfl
theorem absorbRow_2 (t u : Ty) (ts : List Ty) (l : Leaf) (ls : List Leaf) : absorbRow (t :: u :: ts) (l :: ls) = (absorb t l).bind fun x => (absorbRow (u :: ts) ls).bind fun y => .ret ((x.1, y.1), x.2 ++ y.2) := rfl
theorem absorbRow_3 (t : Ty) (ts : List Ty) : absorbRow (t :: ts) [] = .fail := by cases ts <;> rfl
theorem absorbRow_4 (t : Ty) (l u : Leaf) (ls : List Leaf) : absorbRow [t] (l :: u :: ls) = .fail := rfl
theorem absorbRow_ok (hi : Inv b S w c) : ∀ (ts : List Ty) (ls : List Leaf) (vs : List Value) (z : (rowTy ts).D × List Nat), All2 (LeafOk S c w (Kok b S c)) ls vs → (absorbRow ts ls).ev S = some z → unlike z.2 = true →
    Ows S z.2 ∧ ∃ G, Rp w (Kok b S c) (rowTy ts) z.1 vs G ∧ G.Nodup ∧ Held c z.2 G := by
  intro ts
  induction ts with
  | nil =>
    intro ls vs z ha h _
    cases ls with
    | nil =>
      cases ha
      rw [absorbRow_0] at h
      replace h : some (((), []) : Unit × List Nat) = some z := h
      injection h with h
      subst h
      exact ⟨fun k hk => (by cases hk), [], by simp [rowTy, Rp], by simp, fun g hg => (by cases hg)⟩
    | cons l ls => rw [absorbRow_0] at h; cases h
  | cons t ts ih =>
    intro ls vs z ha h hu
    cases ts with
    | nil =>
      cases ls with
      | nil => rw [absorbRow_3] at h; cases h
      | cons l ls =>
        cases ls with
        | cons l2 ls => rw [absorbRow_4] at h; cases h
        | nil =>
          cases ha with
          | cons h1 h2 =>
            cases h2
            rw [absorbRow_1] at h
            obtain ⟨k1, _, G, k3, k4, k5⟩ := absorb_ok (t := t) (z := z) hi h1 h
            exact ⟨k1, G, k3, k4, k5⟩
    | cons u ts =>
      cases ls with
      | nil => rw [absorbRow_3] at h; cases h
      | cons l ls =>
        cases ha with
        | cons h1 h2 =>
          rw [absorbRow_2] at h
          obtain ⟨z1, hz1, h⟩ := Option.bind_eq_some_iff.1 ((ev_bind S _ _).symm.trans h)
          obtain ⟨z2, hz2, h⟩ := Option.bind_eq_some_iff.1 ((ev_bind S _ _).symm.trans h)
          injection h with h
          subst h
          simp only at hu
          obtain ⟨u1, u2, _⟩ := unlike_append hu
          obtain ⟨k1, _, G, k3, k4, k5⟩ := absorb_ok hi h1 hz1
          obtain ⟨m1, H, m3, m4, m5⟩ := ih ls _ z2 h2 hz2 u2
          obtain ⟨q1, q2⟩ := held_append hi k5 m5 k1 m1 hu k4 m4
          refine ⟨ows_append k1 m1, G ++ H, ?_, q2, q1⟩
          show Rp w (Kok b S c) (.pair t (rowTy (u :: ts))) (z1.1, z2.1) _ _
          rw [Rp]
          exact ⟨[_], _, G, H, rfl, rfl, k3, m3⟩
theorem absorbRow_len {S : St} : ∀ (ts : List Ty) (ls : List Leaf) (z : (rowTy ts).D × List Nat), (absorbRow ts ls).ev S = some z → ls.length = ts.length := by
  intro ts
  induction ts with
  | nil =>
    intro ls z h
    cases ls with
    | nil => rfl
    | cons l ls => rw [absorbRow_0] at h; cases h
  | cons t ts ih =>
    intro ls z h
    cases ts with
    | nil =>
      cases ls with
      | nil => rw [absorbRow_3] at h; cases h
      | cons l ls =>
        cases ls with
        | cons l2 ls => rw [absorbRow_4] at h; cases h
        | nil => rfl
    | cons u ts =>
      cases ls with
      | nil => rw [absorbRow_3] at h; cases h
      | cons l ls =>
        rw [absorbRow_2] at h
        obtain ⟨z1, hz1, h⟩ := Option.bind_eq_some_iff.1 ((ev_bind S _ _).symm.trans h)
        obtain ⟨z2, hz2, h⟩ := Option.bind_eq_some_iff.1 ((ev_bind S _ _).symm.trans h)
        have := ih ls z2 hz2
        simp only [List.length_cons] at this ⊢; omega
theorem rowsT_ok (hi : Inv b S w c) (ts : List Ty) : ∀ (ps : List (Nat × SV)) (us : List Value) (n : Nat) {z : List (rowTy ts).D × List Nat}, All2 (fun p u => SVOk S c w (Kok b S c) p.2 u) ps us → (rowsT ts ps n).ev S = some z → unlike z.2 = true →
    Ows S z.2 ∧ z.1.length = ps.length ∧ ps.map (·.1) = List.range' n ps.length ∧ (∀ u, u ∈ us → u.cells.size = ts.length) ∧ ∃ G, RpL (Rp w (Kok b S c) (rowTy ts)) z.1 (us.flatMap fun u => u.cells.toList) G ∧ G.Nodup ∧ Held c z.2 G
  | [], _, n, z, .nil, h, _ => by
    simp only [rowsT, Tr.ev, Option.some.injEq] at h
    subst h
    refine ⟨fun k hk => (by cases hk), rfl, rfl, by simp, [], ?_, by simp, fun g hg => (by cases hg)⟩
    exact ⟨rfl, rfl⟩
  | (i, x) :: ps, _, n, z, .cons (b := v) (bs := vs) h1 h2, h, hu => by
    simp only [rowsT] at h
    split at h
    · rename_i hin
      subst hin
      split at h
      · rename_i ls hls
        simp only [ev_bind, Option.bind_eq_some_iff, Tr.ev, Option.some.injEq] at h
        obtain ⟨z1, hz1, z2, hz2, rfl⟩ := h
        simp only at hu
        obtain ⟨u1, u2, _⟩ := unlike_append hu
        obtain ⟨cs, e1, e2, _⟩ := leaves_ok hi h1 hls
        obtain ⟨k1, G, k3, k4, k5⟩ := absorbRow_ok hi ts ls cs z1 e2 hz1 u1
        obtain ⟨m1, m2, m3, m4, H, m5, m6, m7⟩ := rowsT_ok hi ts ps vs (i + 1) h2 hz2 u2
        obtain ⟨q1, q2⟩ := held_append hi k5 m7 k1 m1 hu k4 m6
        have hlen := absorbRow_len ts ls z1 hz1
        refine ⟨ows_append k1 m1, by simp [m2], ?_, ?_, G ++ H, ?_, q2, q1⟩
        · simp only [List.map_cons, List.length_cons, List.range'_succ, m3]
        · intro u hu
          rcases List.mem_cons.1 hu with rfl | hu
          · rw [e1, List.size_toArray, ← e2.len, hlen]
          · exact m4 u hu
        · refine ⟨cs, _, G, H, ?_, rfl, k3, m5⟩
          simp [e1]
      · simp [Tr.ev] at h
    · simp [Tr.ev] at h
theorem zero_row {K : Nat → Prop} : ∀ (ts : List Ty), (∀ t ∈ ts, t.size = 1 ∧ ∀ a b, t ≠ .pair a b) → Rp w K (rowTy ts) (rowTy ts).zero (ts.map zeroV) []
  | [], _ => by simp [rowTy, Rp]
  | [t], h => zero1 t (h t (by simp))
  | t :: u :: ts, h => by
    simp only [rowTy, Rp, Ty.zero]
    exact ⟨[zeroV t], (u :: ts).map zeroV, [], [], rfl, rfl, zero1 t (h t (by simp)), zero_row (u :: ts) fun x hx => h x (by simp [hx])⟩
where
  zero1 (t : Ty) (h : t.size = 1 ∧ ∀ a b, t ≠ .pair a b) : Rp w K t t.zero [zeroV t] [] := by
    cases t with
    | pair a b => exact absurd rfl (h.2 a b)
    | unit => simp [Ty.size] at h
    | int k => simp [zeroV, Rp, Ty.zero]
    | bool => simp [zeroV, Rp, Ty.zero]
    | er => simp [zeroV, Rp, Ty.zero, ErV]
    | str => simp [zeroV, Rp, Ty.zero]
    | pt t => simp [zeroV, Rp, Ty.zero]
    | sl o e r =>
      cases o with
      | true => simp only [Rp, Ty.zero, zeroV]; exact .inl ⟨trivial, trivial, trivial⟩
      | false => simp only [Rp, Ty.zero, zeroV]; exact ⟨trivial, none, 0, [], rfl, Nat.le_refl _, ⟨rfl, rfl⟩, .inl trivial⟩
theorem made_rows (z : Array Value) (hz : 0 < z.size) : ∀ m, (List.range (m * z.size)).map (fun i => z[i % z.size]!) = (List.replicate m z.toList).flatten
  | 0 => by simp
  | m + 1 => by
    have h1 : (m + 1) * z.size = z.size + m * z.size := by rw [Nat.succ_mul]; omega
    rw [h1, List.range_add, List.map_append, List.map_map, List.replicate_succ, List.flatten_cons, ← made_rows z hz m]
    congr 1
    · apply List.ext_getElem?
      intro j
      by_cases hj : j < z.size
      · simp [hj, Nat.mod_eq_of_lt hj]
      · simp [hj]
    · apply List.map_congr_left
      intro j _
      simp
theorem made_take (z : Array Value) (hz : 0 < z.size) (m n : Nat) (h : m ≤ n) : (madeCells z (n * z.size)).toList.take (m * z.size) = (List.replicate m z.toList).flatten := by
  have hmn : m * z.size ≤ n * z.size := Nat.mul_le_mul_right _ h
  rw [← made_rows z hz m, madeCells, Array.toList_map, Array.toList_range, ← List.map_take, List.take_range, Nat.min_eq_left hmn]
theorem zero_rows {K : Nat → Prop} {ts : List Ty} (h : ∀ t ∈ ts, t.size = 1 ∧ ∀ a b, t ≠ .pair a b) : ∀ m, RpL (Rp w K (rowTy ts)) (List.replicate m (rowTy ts).zero) (List.replicate m (ts.map zeroV)).flatten []
  | 0 => ⟨rfl, rfl⟩
  | m + 1 => ⟨ts.map zeroV, _, [], [], by simp [List.replicate_succ], rfl, zero_row ts h, zero_rows h m⟩
end
section
variable {P : Program} {ti : TypeId → TI} {b : Base} {S : St} {c : Cc} {w : World}
theorem Step.push (w : World) (o : Obj) : Step w { w with heap := w.heap.push o } (fun _ => False) :=
  ⟨rfl, rfl, rfl, by simp, fun g hg _ => by simp [Array.getElem?_push, show ¬ (g = w.heap.size) by omega]⟩
theorem push_new (w : World) (o : Obj) : (w.heap.push o)[w.heap.size]? = some o := by simp
theorem zip_range : ∀ (us : List Value) (n : Nat), (List.range' n us.length).zip us = (us.zipIdx n).map fun x => (x.2, x.1)
  | [], _ => rfl
  | u :: us, n => by simp [List.range'_succ, zip_range us (n + 1)]
theorem buildSlice_ok (hT : TabOk P ti) (hi : Inv b S w c) {hn : List (Nat × List Ty)} {t : TypeId} {d len : Nat} {ps : List (Nat × SV)} {us : List Value} {is : List (Nat × Value)} {out : Out} (hps : All2 (fun p u => SVOk S c w (Kok b S c) p.2 u) ps us)
    (his : is = (ps.map (·.1)).zip us) (h : (buildSliceT (ti t) hn d len ps).ev S = some out) : ∃ v w', (Instr.buildSlice t len is.toArray).run P w = .ok v w' ∧ Did b S c w out v w' := by
  unfold buildSliceT at h
  split at h
  · rename_i e ts0 bytes ht
    split at h
    rotate_left
    · simp [Tr.ev] at h
    rename_i hc0
    generalize litTys ts0 (hintOf hn d ts0) ps = ts at hc0 h
    simp only [Bool.and_eq_true, List.all_eq_true, beq_iff_eq] at hc0
    obtain ⟨hall1, hl0⟩ := hc0
    unfold buildRowsT at h
    simp only [ev_bind, Option.bind_eq_some_iff] at h
    obtain ⟨r, hr, h⟩ := h
    split at h
    · rename_i hc
      simp only [Bool.and_eq_true, decide_eq_true_eq] at hc
      obtain ⟨⟨hu, hl⟩, hsmall⟩ := hc
      simp only [Tr.ev, Option.some.injEq] at h
      subst h
      obtain ⟨h1, _, _, hpos, i, z, h2, h3, h4, h5, h6, h7⟩ := hT.slice ht
      rw [← hl0] at hpos h3
      obtain ⟨k1, k2, k3, k4, G, k5, k6, k7⟩ := rowsT_ok hi ts ps us 0 hps hr hu
      have hsz : (rowTy ts).size = ts.length := rowTy_size ts hall1
      have hzs : z.cells.size = ts.length := by
        have := congrArg List.length h6
        simpa [hl0] using this
      have hlus : us.length = len := by rw [← hps.len, hl]
      have hflat : (us.flatMap fun u => u.cells.toList).length = len * ts.length := by
        have := RpL.len (fun x vs F h => Rp.len (rowTy ts) x h) k5
        rw [this, k2, hl, hsz]
      rcases Nat.eq_zero_or_pos len with hz | hp
      · -- nothing in it
        have hus : us = [] := List.eq_nil_of_length_eq_zero (by omega)
        have hps0 : ps = [] := List.eq_nil_of_length_eq_zero (by omega)
        subst hus hps0 hz
        simp only [List.map_nil, List.zip_nil_left] at his
        subst his
        have hr1 : r.1 = [] := List.eq_nil_of_length_eq_zero (by rw [k2]; rfl)
        refine ⟨.slice (some ⟨w.heap.size, 0, none⟩) 0 0, { w with heap := w.heap.push (.cells #[] e) }, ?_, ?_⟩
        · simp [Instr.buildSlice, run_underlying h1, sizeOf, typeInfo, h2, Instr.fill, newRow, Array.range_zero']
        · refine ownOut_did hi (kd d 0) ⟨e, rowTy ts, r.1⟩ r.2 k1 (F' := [w.heap.size]) ((Step.push w _).mono fun _ h => h.elim) ?_ (by simp) ?_
          · intro g hg
            simp only [List.mem_singleton] at hg
            subst hg
            exact ⟨by simp, .inr (Nat.le_refl _)⟩
          · intro K' hK _
            simp only [Rp, hr1]
            exact .inr ⟨w.heap.size, 0, 0, #[], (0, 0), [], rfl, rfl, push_new w _, NFt.zero _ (fun _ => by simp), by simp, Nat.le_refl _, by simp [RpL]⟩
      · have hfill := Great.fill_whole (s := ts.length) hpos us ((Array.range (len * i.size)).map (z.cells[· % z.cells.size]!)) k4 (by simp [h3, hlus])
        have his' : is.toArray.toList = (us.zipIdx 0).map fun x => (x.2, x.1) := by
          rw [his, k3, ← zip_range us 0, hps.len]
        have hrun := run_buildSlice (P := P) w t e len is.toArray (us.flatMap fun u => u.cells.toList).toArray i z h1 h2 h5 (by rw [h3, ← hsz]; omega) (by rw [h3]; have := Nat.mul_pos hp hpos; omega)
          (by rw [his', h3]; rw [h3] at hfill; exact hfill)
        refine ⟨_, _, hrun, ?_⟩
        refine ownOut_did hi (kd d 0) ⟨e, rowTy ts, r.1⟩ r.2 k1 (F' := w.heap.size :: G) ((Step.push w _).mono fun _ h => h.elim) ?_ ?_ ?_
        · intro g hg
          rcases List.mem_cons.1 hg with rfl | hg
          · exact ⟨by simp, .inr (Nat.le_refl _)⟩
          · obtain ⟨k, q, q'⟩ := k7 g hg
            have := (hi.fr g (.inr ⟨k, k1 k q, q'⟩)).1
            exact ⟨by simp; omega, .inl ⟨k, q, q'⟩⟩
        · rw [List.nodup_cons]
          refine ⟨fun hg => ?_, k6⟩
          obtain ⟨k, q, q'⟩ := k7 _ hg
          have := (hi.fr _ (.inr ⟨k, k1 k q, q'⟩)).1
          omega
        · intro K' hK _
          simp only [Rp]
          refine .inr ⟨w.heap.size, 0, len, _, (0, 0), G, by rw [k2, hl], rfl, push_new w _, NFt.zero _ (fun _ => by rw [List.size_toArray, hflat, ← hsz]; omega), ?_, by rw [k2, hl]; exact Nat.le_refl _, ?_⟩
          · rw [hsz, List.size_toArray, hflat]; simp
          · rw [List.drop_zero, k2, hl, hsz, ← hflat, List.take_length]
            exact RpL.frame hK _ _ _ _ (fun g hg => by
              obtain ⟨k, q, q'⟩ := k7 g hg
              exact (Step.push w _).same g (hi.fr g (.inr ⟨k, k1 k q, q'⟩)).1 (fun h => h)) k5
    · simp [Tr.ev] at h
  · simp [Tr.ev] at h
theorem makeSlice_ok (hT : TabOk P ti) (hi : Inv b S w c) {t : TypeId} {d : Nat} {l m : SV} {u v : Value} {out : Out} (hl : SVOk S c w (Kok b S c) l u) (hm : SVOk S c w (Kok b S c) m v)
    (h : (makeSliceT (ti t) d l m).ev S = some out) : ∃ r w', (Instr.makeSlice t u v).run P w = .ok r w' ∧ Did b S c w out r w' := by
  unfold makeSliceT at h
  split at h
  · rename_i e ts bytes l m ht
    obtain rfl := int_leaf (leaf_sv hl)
    obtain rfl := int_leaf (leaf_sv hm)
    replace h := ev_iff h
    obtain ⟨c1, h⟩ := h
    replace h := ev_iff h
    obtain ⟨c2, h⟩ := h
    replace h := ev_iff h
    obtain ⟨c3, h⟩ := h
    simp only [decide_eq_true_eq, roomFor] at c1 c2 c3
    simp only [Tr.ev, Option.some.injEq] at h
    subst h
    obtain ⟨h1, _, hb, hpos, i, z, h2, h3, h4, h5, h6, h7⟩ := hT.slice ht
    have hsz : (rowTy ts).size = ts.length := rowTy_size ts fun t ht => (h7 t ht).1
    have hzs : z.cells.size = ts.length := by
      have := congrArg List.length h6
      simpa using this
    obtain ⟨l', rfl⟩ := Int.eq_ofNat_of_zero_le c1
    obtain ⟨m', rfl⟩ := Int.eq_ofNat_of_zero_le (Int.le_trans c1 c2)
    simp only [Int.toNat_natCast] at c3 ⊢
    have c2' : l' ≤ m' := Int.ofNat_le.1 c2
    have hm' : m' ≤ 140737488355328 := Nat.le_trans (Nat.le_mul_of_pos_right _ hb) c3
    have hrun := run_make (P := P) w t e i z h1 h2 h5 .i64 .i64 l' m' c1 c2 (by rw [h4, ← Int.natCast_mul, Nat.mul_comm]; omega) (by omega)
    refine ⟨_, _, hrun, ?_⟩
    refine ownOut_did hi (kd d 0) ⟨e, rowTy ts, List.replicate l' (rowTy ts).zero⟩ [] (fun k hk => by cases hk) (F' := [w.heap.size]) ((Step.push w _).mono fun _ h => h.elim) ?_ (by simp) ?_
    · intro g hg
      simp only [List.mem_singleton] at hg
      subst hg
      exact ⟨by simp, .inr (Nat.le_refl _)⟩
    · intro K' hK _
      simp only [Rp]
      refine .inr ⟨w.heap.size, 0, m', madeCells z.cells (m' * i.size), (0, 0), [], by simp, rfl, push_new w _, NFt.zero _ (fun hr1 => by have hs1 := congrArg Ty.size hr1; rw [hsz] at hs1; rw [size_madeCells, h3, hs1]; simp only [Ty.size]; omega), ?_, by simp; omega, ?_⟩
      · rw [hsz, size_madeCells, h3]; omega
      · rw [List.drop_zero, List.length_replicate, hsz, h3, ← hzs, made_take z.cells (by omega) l' m' (by omega), h6]
        exact zero_rows h7 l'
  · simp [Tr.ev] at h
end
end Go.V

namespace Go.V
open Go.RowKit
theorem Rp.ro {w : World} {K : Nat → Prop} : ∀ (t : Ty) (x : t.D) {vs F}, t.ro = true → Rp w K t x vs F → F = []
  | .int _, _, _, _, _, h => by simp only [Rp] at h; exact h.2
  | .bool, _, _, _, _, h => by simp only [Rp] at h; exact h.2
  | .er, _, _, _, _, h => by simp only [Rp] at h; obtain ⟨_, _, h, _⟩ := h; exact h
  | .str, _, _, _, _, h => by simp only [Rp] at h; exact h.2
  | .pt _, _, _, _, _, h => by simp only [Rp] at h; exact h.1
  | .unit, _, _, _, _, h => by simp only [Rp] at h; exact h.2
  | .pair a b, x, _, _, hr, h => by
    simp only [Rp] at h
    simp only [Ty.ro, Bool.and_eq_true] at hr
    obtain ⟨v1, v2, F1, F2, _, rfl, h1, h2⟩ := h
    rw [Rp.ro a _ hr.1 h1, Rp.ro b _ hr.2 h2]; rfl
  | .sl true _ _, _, _, _, hr, _ => by simp [Ty.ro] at hr
  | .sl false _ r, _, _, _, _, h => by simp only [Rp] at h; exact h.1
theorem RpL.ro {w : World} {K : Nat → Prop} {r : Ty} (hr : r.ro = true) : ∀ (xs : List r.D) {vs F}, RpL (Rp w K r) xs vs F → F = []
  | [], _, _, h => h.2
  | x :: xs, _, _, h => by
    obtain ⟨v1, v2, F1, F2, _, rfl, h1, h2⟩ := h
    rw [Rp.ro r x hr h1, RpL.ro hr xs h2]; rfl
theorem RpL.one {w : World} {K : Nat → Prop} {r : Ty} : ∀ (xs : List r.D) {vs F}, RpL (Rp w K r) xs vs F → ∀ u ∈ vs, u.oneCell' = true
  | [], _, _, h => by rw [h.1]; simp
  | x :: xs, _, _, h => by
    obtain ⟨v1, v2, F1, F2, rfl, _, h1, h2⟩ := h
    intro u hu
    rcases List.mem_append.1 hu with hu | hu
    · exact Rp.one r x h1 u hu
    · exact RpL.one xs h2 u hu
theorem bytes_rep {w : World} {K : Nat → Prop} : ∀ (s : List UInt8), RpL (Rp w K (.int .u8)) (bytesOf s) (byteCells ⟨s.toArray⟩) []
  | [] => ⟨rfl, rfl⟩
  | x :: s => by
    have ih := bytes_rep (w := w) (K := K) s
    simp only [byteCells, bytesOf, List.map_cons] at ih ⊢
    exact ⟨[_], _, [], [], rfl, rfl, by simp [Rp], ih⟩
section
variable {P : Program} {ti : TypeId → TI} {b : Base} {S : St} {c : Cc} {w : World}
theorem src_slice {size : Nat} {t2 e' : TypeId} {A : Option Addr} {n cap : Nat} {ws : List Value} (hk : P.underlying t2 = some (.slice e')) (hl : ws.length = n * size) (h1 : ∀ u ∈ ws, u.oneCell' = true)
    (hA : n = 0 ∨ ∃ ad, A = some ad ∧ ∀ j, j < ws.length → w.cell? (ad.add j) = ws[j]?) : Src P size t2 (.slice A n cap) n ws w := by
  cases A with
  | none =>
    rcases hA with rfl | ⟨ad, h, _⟩
    · obtain rfl : ws = [] := List.eq_nil_of_length_eq_zero (by omega)
      exact Src.ofNil w hk cap
    · cases h
  | some a =>
    refine Src.ofSlice w hk a n cap ws hl (fun j u hu => ?_) h1
    have hj := (List.getElem?_eq_some_iff.1 hu).1
    rcases hA with rfl | ⟨ad, h, h2⟩
    · omega
    · injection h with h; subst h; rw [h2 j hj]; exact hu
theorem more_ok (hT : TabOk P ti) (hi : Inv b S w c) {t2 e : TypeId} {r : Ty} {y : Leaf} {v : Value} {m : List r.D × List Nat} (hy : LeafOk S c w (Kok b S c) y v) (h : (moreT (ti t2) e r y).ev S = some m) :
    Ows S m.2 ∧ unlike m.2 = true ∧ ∃ news F, Src P r.size t2 v m.1.length news w ∧ RpL (Rp w (Kok b S c) r) m.1 news F ∧ F.Nodup ∧ Held c m.2 F := by
  have hn : Ows S [] ∧ unlike [] = true := ⟨fun k hk => (by cases hk), rfl⟩
  have hh : Held c [] [] := fun g hg => (by cases hg)
  unfold moreT at h
  split at h
  · rename_i s
    split at h
    · rename_i hc
      split at h
      · simp only [Tr.ev, Option.some.injEq] at h
        subst h
        obtain rfl := str_leaf hy
        refine ⟨hn.1, hn.2, byteCells ⟨s.toArray⟩, [], ?_, bytes_rep s, by simp, hh⟩
        have := Src.ofString (P := P) w (str_under hT hc) ⟨s.toArray⟩
        have hs : (ByteArray.mk s.toArray).size = (bytesOf s).length := by simp [ByteArray.size, bytesOf]
        rw [hs] at this
        exact this
      · simp [Tr.ev] at h
    · simp [Tr.ev] at h
  · split at h
    · rename_i hc
      obtain ⟨e', ie, hu, hie⟩ := sl_under' hT hc
      split at h
      · rename_i hro
        split at h
        · simp only [Tr.ev, Option.some.injEq] at h
          subst h
          obtain rfl : v = .slice none 0 0 := hy
          exact ⟨hn.1, hn.2, [], [], src_slice hu (by simp) (by simp) (.inl rfl), ⟨rfl, rfl⟩, by simp, hh⟩
        · simp only [ev_bind, Option.bind_eq_some_iff] at h
          obtain ⟨o, ho, h⟩ := h
          split at h
          · rename_i he
            obtain ⟨oe, or, oxs⟩ := o
            simp only [Ty.sl.injEq, true_and] at he
            obtain ⟨rfl, rfl⟩ := he
            simp only [Tr.ev, Option.some.injEq] at h
            subst h
            obtain ⟨A, cap, ws, F', rfl, hr, hx⟩ := data_read hi hy ho
            have hF := RpL.ro hro _ hr
            subst hF
            refine ⟨hn.1, hn.2, ws, [], src_slice hu (RpL.len (fun x vs F h => Rp.len or x h) hr) (RpL.one _ hr) ?_, hr, by simp, hh⟩
            rcases hx with hx | ⟨ad, h1, _, h2⟩
            · left; simp only at hx; rw [hx]; rfl
            · exact .inr ⟨ad, h1, h2⟩
          · simp [Tr.ev] at h
      · obtain ⟨k1, k2, G, k3, k4, k5⟩ := absorb_ok (t := .sl true e r) hi hy h
        refine ⟨k1, k2, ?_⟩
        simp only [Rp] at k3
        rcases k3 with ⟨h1, rfl, h2⟩ | ⟨g, off, cap, cs, fr, F0, h1, rfl, hg, hnf, hoff, hcp, hr⟩
        · injection h2 with h2
          subst h2
          rw [h1]
          exact ⟨[], [], src_slice hu (by simp) (by simp) (.inl rfl), ⟨rfl, rfl⟩, by simp, fun g hg => (by cases hg)⟩
        · injection h1 with h1
          subst h1
          refine ⟨_, F0, src_slice hu (RpL.len (fun x vs F h => Rp.len r x h) hr) (RpL.one _ hr) (.inr ⟨_, rfl, fun j hj => ?_⟩), hr, (List.nodup_cons.1 k4).2, fun g hg => k5 g (by simp [hg])⟩
          rw [add_blk, cell_blk hg]
          rw [List.length_take, List.length_drop, Array.length_toList] at hj
          rw [List.getElem?_take_of_lt (by omega), List.getElem?_drop, Array.getElem?_toList]
    · simp [Tr.ev] at h
theorem setCells_blk {g : Nat} {e : TypeId} {fr : Nat × Nat} : ∀ (vs : List Value) (o : Nat) (w : World) (cs : Array Value), w.heap[g]? = some (.cells cs e fr) → o + vs.length ≤ cs.size →
    ∃ cs', (w.setCells g o vs).heap[g]? = some (.cells cs' e fr) ∧ cs'.size = cs.size ∧ ∀ i, cs'[i]? = if o ≤ i ∧ i < o + vs.length then vs[i - o]? else cs[i]?
  | [], o, w, cs, h, _ => ⟨cs, h, rfl, fun i => by rw [if_neg (by simp only [List.length_nil]; omega)]⟩
  | v :: vs, o, w, cs, h, hle => by
    simp only [List.length_cons] at hle
    obtain ⟨cs', h1, h2, h3⟩ := setCells_blk vs (o + 1) (w.setCell ⟨g, o, none⟩ v) _ (setCell_blk h o v) (by simp; omega)
    refine ⟨cs', h1, by rw [h2]; simp, fun i => ?_⟩
    rw [h3, List.length_cons]
    by_cases hi : o + 1 ≤ i ∧ i < o + 1 + vs.length
    · rw [if_pos hi, if_pos (by omega), show i - o = (i - (o + 1)) + 1 by omega, List.getElem?_cons_succ]
    · rw [if_neg hi]
      by_cases hio : i = o
      · subst hio
        rw [if_pos (by omega), Array.getElem?_setIfInBounds_self_of_lt (by omega)]; simp
      · rw [if_neg (by omega), Array.getElem?_setIfInBounds_ne (Ne.symm hio)]
theorem setCells_step {g : Nat} : ∀ (vs : List Value) (o : Nat) (w : World), Step w (w.setCells g o vs) (fun x => x = g) ∧ (w.setCells g o vs).heap.size = w.heap.size
  | [], _, w => ⟨Step.refl _ _, rfl⟩
  | v :: vs, o, w => by
    obtain ⟨h1, h2⟩ := setCells_step (g := g) vs (o + 1) (w.setCell ⟨g, o, none⟩ v)
    have h3 : (w.setCell ⟨g, o, none⟩ v).heap.size = w.heap.size := by simp [World.setCell]
    have h4 : Step w (w.setCell ⟨g, o, none⟩ v) (fun x => x = g) := ⟨rfl, rfl, rfl, by omega, fun x _ hx => Below.heap_setCell _ _ _ _ hx⟩
    exact ⟨h4.trans h1, by rw [← h3]; exact h2⟩
theorem not_held (hi : Inv b S w c) {ks ls : List Nat} {g : Nat} {G : List Nat} (ho : Ows S ks) (ho' : Ows S ls) (hu : unlike (ks ++ ls) = true) (hg : Held c ks [g]) (hG : Held c ls G) : g ∉ G := by
  intro hx
  obtain ⟨k, h1, h2⟩ := hg g (by simp)
  obtain ⟨l, h3, h4⟩ := hG g hx
  obtain ⟨_, _, h5⟩ := unlike_append hu
  have hne : k ≠ l := by rintro rfl; exact h5 k h1 h3
  exact hi.oo k l hne (ho k h1) (ho' l h3) g h2 h4
theorem held_lt (hi : Inv b S w c) {ks : List Nat} {G : List Nat} (ho : Ows S ks) (hG : Held c ks G) {g : Nat} (hg : g ∈ G) : g < w.heap.size := by
  obtain ⟨k, h1, h2⟩ := hG g hg
  exact (hi.fr g (.inr ⟨k, ho k h1, h2⟩)).1
theorem cell_int (hT : TabOk P ti) {t : TypeId} {k : IntKind} (h : ti t = .cell (.int k)) : P.underlying t = some (.int k) := by
  obtain ⟨⟨d, hd, he⟩, _⟩ := hT.cell h
  rw [hd]
  cases d <;> simp [descIs] at he
  rw [he]
structure Src2 (P : Program) (i : TypeInfo) (z : Value) (t t2 ty e : TypeId) (v : Value) (n : Nat) (news : List Value) (w : World) : Prop where
  newsLen : news.length = n * i.size
  grow : ∀ (A : Option Addr) (sLen cap : Nat) (olds : List Value), sLen ≤ cap → (Builtin.firstCells i.size sLen (.slice A sLen cap)).run P w.drew = .ok olds.toArray w.drew → cap < sLen + n → sLen + n ≤ 140737488355328 → (sLen + n) * i.bytes ≤ 140737488355328 →
    (Builtin.append_ #[t, t2] ty #[.slice A sLen cap, v]).run P w = .ok (.slice (some ⟨w.heap.size, 0, none⟩) (sLen + n) (grownCap w (sLen + n) cap e)) (w.drew.alloc (.cells ((olds ++ news).toArray ++ Builtin.zeroCells z.cells (grownCap w (sLen + n) cap e - (sLen + n))) e))
  room : ∀ (g off sLen cap : Nat), sLen + n ≤ cap → sLen + n ≤ 140737488355328 → (sLen + n) * i.bytes ≤ 140737488355328 → (∀ j, j < news.length → (w.cell? ⟨g, off + sLen * i.size + j, none⟩).isSome = true) → (∀ j, j < news.length → w.frozen? ⟨g, off + sLen * i.size + j, none⟩ = false) →
    (Builtin.append_ #[t, t2] ty #[.slice (some ⟨g, off, none⟩) sLen cap, v]).run P w = .ok (.slice (some ⟨g, off, none⟩) (sLen + n) cap) (w.setCells g (off + sLen * i.size) news)
  nothing : n = 0 → (Builtin.append_ #[t, t2] ty #[.slice none 0 0, v]).run P w = .ok (.slice none 0 0) w
theorem Src2.of {i : TypeInfo} {z : Value} {t t2 ty e : TypeId} {v : Value} {n : Nat} {news : List Value} (h1 : P.underlying t = some (.slice e)) (h2 : P.info? e = some i) (h5 : i.zero = some z) (h : Src P i.size t2 v n news w) : Src2 P i z t t2 ty e v n news w where
  newsLen := h.newsLen
  grow A sLen cap olds _ hold hcap hb hby := run_append_grow_src (P := P) w t t2 ty e i z h1 h2 h5 A sLen cap olds hold v n news h hcap (by omega) (growslice_fits hcap hby)
  room g off sLen cap hr _ _ hc hf := run_append_room_src (P := P) w t t2 ty e i h1 h2 g off sLen cap v n news h hr hc hf
  nothing hn := by
    subst hn
    have : news = [] := List.eq_nil_of_length_eq_zero (by rw [h.newsLen]; simp)
    subst this
    exact run_append_nothing w t t2 ty e i h1 h2 none 0 0 (Nat.le_refl _) v h
theorem Src2.zeros {i : TypeInfo} {z : Value} {t t2 ty e : TypeId} {n : Nat} (h1 : P.underlying t = some (.slice e)) (ht2 : P.underlying t2 = some (.int .i64)) (h2 : P.info? e = some i) (h5 : i.zero = some z) (hs : 0 < i.size) (hz : z.cells.size = i.size)
    (h1z : ∀ u ∈ z.cells.toList, u.oneCell' = true) : Src2 P i z t t2 ty e (.int .i64 ((n : Nat) : Int)) n (Builtin.zeroCells z.cells n).toList w where
  newsLen := by rw [Array.length_toList, size_zeroCells, hz]
  grow A sLen cap olds hle hold hcap hb hby := by
    have hn : 0 < n := by omega
    have := Lib.run_append_grow_zeros w t t2 ty e i z .i64 .i64 h1 ht2 h2 h5 A sLen cap olds hold n hn hs hcap (by omega) (by have := Nat.mul_le_mul_right i.bytes (show n ≤ sLen + n by omega); omega) (growslice_fits hcap hby)
    rw [this]
    congr 3
    apply Array.ext'
    simp
  room g off sLen cap hr hb hby hc hf := by
    have hone : ∀ u ∈ (Builtin.zeroCells z.cells n).toList, u.oneCell' = true := by
      intro u hu
      simp only [Builtin.zeroCells, Array.toList_map, List.mem_map] at hu
      obtain ⟨j, hj, rfl⟩ := hu
      have hjl : j % z.cells.size < z.cells.size := Nat.mod_lt _ (by omega)
      rw [getElem!_pos z.cells (j % z.cells.size) hjl]
      exact h1z _ (by simp)
    have hst := run_storeCells_cells (P := P) g (off + sLen * i.size) (Builtin.zeroCells z.cells n).toList 0 w (by simpa using hc) (by simpa using hf) hone
    simp only [Nat.add_zero] at hst
    have hw : IntKind.i64.wrap ((n : Nat) : Int) = n := by rw [IntKind.wrap_i64]; omega
    have hneg : ¬ (((n : Nat) : Int) < 0) := by omega
    have hnb : n * i.bytes ≤ 140737488355328 := by have := Nat.mul_le_mul_right i.bytes (show n ≤ sLen + n by omega); omega
    have h48i : ¬ (281474976710656 < ((n : Nat) : Int) * (i.bytes : Int)) := by rw [← Int.natCast_mul]; omega
    by_cases h0 : n = 0
    · subst h0
      have e0 : (Builtin.zeroCells z.cells 0) = #[] := by simp [Builtin.zeroCells]
      rw [e0] at hst ⊢
      simp [Builtin.append_, run_underlying h1, run_underlying ht2, sizeOf, typeInfo, h2, asInt, asIntOf, Addr.add_lit, storeCells, World.setCells, show IntKind.i64.wrap (0 : Int) = 0 from rfl, Nat.le_of_add_right_le hr]
    · have hns : ¬ (n * i.size = 0) := Nat.mul_ne_zero h0 (by omega)
      simp [Builtin.append_, run_underlying h1, run_underlying ht2, sizeOf, typeInfo, zeroValue, h2, h5, asInt, asIntOf, hw, hneg, hns, h48i, hr, Addr.add_lit, hst]
  nothing hn := by
    subst hn
    simp [Builtin.append_, run_underlying h1, run_underlying ht2, sizeOf, typeInfo, h2, asInt, asIntOf, show IntKind.i64.wrap (0 : Int) = 0 from rfl]
theorem moreA_ok (hT : TabOk P ti) (hi : Inv b S w c) {t t2 ty e : TypeId} {ts : List Ty} {bytes : Nat} (ht : ti t = .slice e ts bytes) {r : Ty} (hsz : r.size = ts.length) {y : Leaf} {v : Value} {m : List r.D × List Nat} (hy : LeafOk S c w (Kok b S c) y v) (h : (moreA (ti t2) e (rowTy ts) r y).ev S = some m) :
    Ows S m.2 ∧ unlike m.2 = true ∧ ∃ news F, (∀ i z, P.info? e = some i → i.zero = some z → Src2 P i z t t2 ty e v m.1.length news w) ∧ RpL (Rp w (Kok b S c) r) m.1 news F ∧ F.Nodup ∧ Held c m.2 F := by
  obtain ⟨h1, _, hb, hpos, i, z, h2, h3, h4, h5, h6, h7⟩ := hT.slice ht
  unfold moreA at h
  split at h
  · rename_i hti
    split at h
    · rename_i n
      split at h
      · rename_i hr
        subst hr
        replace h := ev_iff h
        obtain ⟨c1, h⟩ := h
        simp only [Tr.ev, Option.some.injEq] at h
        subst h
        simp only [decide_eq_true_eq] at c1
        obtain ⟨k, rfl⟩ := Int.eq_ofNat_of_zero_le c1
        obtain rfl := int_leaf hy
        have ht2 : P.underlying t2 = some (.int .i64) := cell_int hT hti
        have hzs : z.cells.size = i.size := by
          have := congrArg List.length h6
          rw [h3]; simpa using this
        have hzl : (Builtin.zeroCells z.cells k).toList = (List.replicate k (ts.map zeroV)).flatten := by
          have hmade := made_rows z.cells (by omega) k
          rw [h6] at hmade
          rw [← hmade]
          simp [Builtin.zeroCells]
        refine ⟨fun k hk => (by cases hk), rfl, (Builtin.zeroCells z.cells k).toList, [], ?_, ?_, by simp, fun g hg => (by cases hg)⟩
        · intro i' z' hi' hz'
          obtain rfl : i = i' := by rw [h2] at hi'; injection hi'
          obtain rfl : z = z' := by rw [h5] at hz'; injection hz'
          simp only [Int.toNat_natCast, List.length_replicate]
          refine Src2.zeros h1 ht2 h2 h5 (by omega) hzs (fun u hu => ?_)
          rw [h6] at hu
          obtain ⟨t, _, rfl⟩ := List.mem_map.1 hu
          cases t <;> rfl
        · rw [hzl, Int.toNat_natCast]
          exact zero_rows h7 k
      · simp [Tr.ev] at h
    · simp [Tr.ev] at h
  · obtain ⟨q1, q2, news, F, q3, q4, q5, q6⟩ := more_ok hT hi hy h
    refine ⟨q1, q2, news, F, fun i' z' hi' hz' => ?_, q4, q5, q6⟩
    obtain rfl : i = i' := by rw [h2] at hi'; injection hi'
    exact Src2.of h1 hi' hz' (by rw [h3, ← hsz]; exact q3)
theorem append_ok (hT : TabOk P ti) (hi : Inv b S w c) {t t2 ty : TypeId} {d : Nat} {x y : Leaf} {u v : Value} {out : Out} (hx : LeafOk S c w (Kok b S c) x u) (hy : LeafOk S c w (Kok b S c) y v)
    (h : (appendT (ti t) (ti t2) d x y).ev S = some out) : ∃ r w', (Builtin.append_ #[t, t2] ty #[u, v]).run P w = .ok r w' ∧ Did b S c w out r w' := by
  unfold appendT at h
  split at h
  · rename_i e ts bytes ht
    simp only [ev_bind, Option.bind_eq_some_iff] at h
    obtain ⟨r, _, h⟩ := h
    split at h
    rotate_left
    · simp [Tr.ev] at h
    rename_i hsz
    simp only [ev_bind, Option.bind_eq_some_iff] at h
    obtain ⟨⟨xs, ks⟩, hb0, ⟨ys, ls⟩, hm0, h⟩ := h
    replace h := ev_iff h
    obtain ⟨c1, h⟩ := h
    split at h
    · rename_i hun
      simp only [Tr.ev, Option.some.injEq] at h
      subst h
      simp only [roomFor, decide_eq_true_eq] at c1 hun
      obtain ⟨h1, _, hb, hpos, i, z, h2, h3, h4, h5, h6, h7⟩ := hT.slice ht
      have hzs : z.cells.size = ts.length := by
        have := congrArg List.length h6
        simpa using this
      obtain ⟨k1, _, G, k3, k4, k5⟩ := absorb_ok hi hx hb0
      obtain ⟨m1, _, news, F2, m3', m4, m5, m6⟩ := moreA_ok (t := t) (ty := ty) hT hi ht hsz hy hm0
      have m3 := m3' i z h2 h5
      simp only at k1 k3 k5 m1 m3 m4 m6
      have hnl := m3.newsLen
      rw [← h4] at c1
      have h63 : xs.length + ys.length ≤ 140737488355328 := Nat.le_trans (Nat.le_mul_of_pos_right _ (by omega)) c1
      have same2 : ∀ {w' : World} {T : Nat → Prop}, Step w w' T → ∀ {F : List Nat}, (∀ g, g ∈ F → g < w.heap.size) → (∀ g, g ∈ F → ¬ T g) → Same w w' F := fun hs F h1 h2 g hg => hs.same g (h1 g hg) (h2 g hg)
      have ho : Ows S (ks ++ ls) := ows_append k1 m1
      have grow : ∀ (A : Option Addr) (cap : Nat) (olds : List Value) (F1 : List Nat), u = .slice A xs.length cap → xs.length ≤ cap → cap < xs.length + ys.length → (Builtin.firstCells i.size xs.length (.slice A xs.length cap)).run P w.drew = .ok olds.toArray w.drew →
          RpL (Rp w (Kok b S c) r) xs olds F1 → F1.Nodup → Held c ks F1 → ∃ r' w', (Builtin.append_ #[t, t2] ty #[u, v]).run P w = .ok r' w' ∧ Did b S c w (ownOut (kd d 0) ⟨e, r, xs ++ ys⟩ (ks ++ ls)) r' w' := by
        rintro A cap olds F1 rfl hle hcap hold hro hnd hhe
        have hrun := m3.grow A xs.length cap olds hle hold hcap h63 c1
        have hge := grownCap_ge w (xs.length + ys.length) cap e
        obtain ⟨q1, q2⟩ := held_append hi hhe m6 k1 m1 hun hnd m5
        have hol : olds.length = xs.length * r.size := RpL.len (fun x vs F h => Rp.len r x h) hro
        have hgm := grownCap_le_maxLen w (xs.length + ys.length) cap e (by unfold maxLen; omega)
        generalize grownCap w (xs.length + ys.length) cap e = gc at hrun hge hgm
        generalize hcs : (olds ++ news).toArray ++ Builtin.zeroCells z.cells (gc - (xs.length + ys.length)) = cs at hrun
        generalize hw : w.drew.alloc (.cells cs e) = w' at hrun
        have hst : Step w w' (fun _ => False) := by
          subst hw
          exact ⟨rfl, rfl, rfl, (by show w.heap.size ≤ (w.heap.push _).size; simp), fun g hg _ => (by show (w.heap.push _)[g]? = _; simp [Array.getElem?_push, show ¬ (g = w.heap.size) by omega])⟩
        have hnew : w'.heap[w.heap.size]? = some (.cells cs e) := by subst hw; exact push_new w _
        have hws : w.heap.size < w'.heap.size := by subst hw; show w.heap.size < (w.heap.push _).size; simp
        refine ⟨_, _, hrun, ?_⟩
        refine ownOut_did hi (kd d 0) ⟨e, r, xs ++ ys⟩ (ks ++ ls) ho (F' := w.heap.size :: (F1 ++ F2)) (hst.mono fun _ h => h.elim) ?_ ?_ ?_
        · intro g hg
          rcases List.mem_cons.1 hg with rfl | hg
          · exact ⟨hws, .inr (Nat.le_refl _)⟩
          · exact ⟨Nat.lt_trans (held_lt hi ho q1 hg) hws, .inl (q1 g hg)⟩
        · rw [List.nodup_cons]
          exact ⟨fun hg => by have := held_lt hi ho q1 hg; omega, q2⟩
        · intro K' hK _
          simp only [Rp]
          refine .inr ⟨w.heap.size, 0, gc, cs, (0, 0), F1 ++ F2, by rw [List.length_append], rfl, hnew, NFt.zero _ (fun hr1 => by have hs1 : r.size = 1 := (by rw [hr1]; rfl); rw [← hcs, Array.size_append, List.size_toArray, List.length_append, size_zeroCells, hol, hnl, hzs, h3, ← hsz, hs1]; unfold maxLen at hgm; omega), ?_, by rw [List.length_append]; exact hge, ?_⟩
          · rw [← hcs, Array.size_append, List.size_toArray, List.length_append, size_zeroCells, hol, hnl, hzs, h3, ← hsz, ← Nat.add_mul, ← Nat.add_mul, Nat.zero_add]
            exact Nat.mul_le_mul_right _ (by omega)
          · have htake : (cs.toList.drop 0).take ((xs ++ ys).length * r.size) = olds ++ news := by
              rw [← hcs, List.drop_zero, Array.toList_append, List.take_append_of_le_length (by simp [hol, hnl, h3, hsz, Nat.add_mul])]
              apply List.take_of_length_le
              simp [hol, hnl, h3, hsz, Nat.add_mul]
            rw [htake]
            exact RpL.append (RpL.frame hK _ _ _ _ (same2 hst (fun g hg => held_lt hi k1 hhe hg) (fun _ _ h => h)) hro) (RpL.frame hK _ _ _ _ (same2 hst (fun g hg => held_lt hi m1 m6 hg) (fun _ _ h => h)) m4)
      simp only [Rp] at k3
      rcases k3 with ⟨rfl, rfl, hu⟩ | ⟨g, off, cap, cs, fr, F0, hu, rfl, hg, hnf, hoff, hcp, hro⟩
      · injection hu with hu
        subst hu
        by_cases hk : ys.length = 0
        · obtain rfl : ys = [] := List.eq_nil_of_length_eq_zero hk
          obtain rfl : news = [] := List.eq_nil_of_length_eq_zero (by rw [hnl]; simp)
          refine ⟨_, _, m3.nothing rfl, ?_⟩
          refine ownOut_did hi (kd d 0) ⟨e, r, [] ++ []⟩ (ks ++ ls) ho (F' := []) (Step.refl _ _) (by simp) (by simp) ?_
          intro K' _ _
          simp only [Rp]
          exact .inl ⟨rfl, trivial, trivial⟩
        · exact grow none 0 [] [] rfl (Nat.le_refl _) (by simp; omega) (run_firstCells_none w.drew i.size 0 0 0) ⟨rfl, rfl⟩ (by simp) (fun g hg => (by cases hg))
      · injection hu with hu
        subst hu
        obtain ⟨n1, n2⟩ := List.nodup_cons.1 k4
        have hh0 : Held c ks F0 := fun x hx => k5 x (by simp [hx])
        have hhg : Held c ks [g] := fun x hx => k5 x (by simp only [List.mem_singleton] at hx; simp [hx])
        have hol : ((cs.toList.drop off).take (xs.length * r.size)).length = xs.length * r.size := RpL.len (fun x vs F h => Rp.len r x h) hro
        by_cases hcap : xs.length + ys.length ≤ cap
        · have hfit : off + xs.length * r.size + news.length ≤ cs.size := by
            rw [hnl, h3, ← hsz, Nat.add_assoc, ← Nat.add_mul]
            exact Nat.le_trans (Nat.add_le_add_left (Nat.mul_le_mul_right _ hcap) _) hoff
          have hrun := m3.room g off xs.length cap hcap h63 c1
            (fun j hj => by rw [h3, ← hsz, cell_blk hg, Array.getElem?_eq_getElem (by omega)]; rfl)
            (fun j hj => by rw [h3, ← hsz]; exact frozen_blk hg hnf.nf (by omega))
          rw [h3, ← hsz] at hrun
          obtain ⟨cs', s1, s2, s3⟩ := setCells_blk news (off + xs.length * r.size) w cs hg hfit
          obtain ⟨s4, s5⟩ := setCells_step (g := g) news (off + xs.length * r.size) w
          generalize w.setCells g (off + xs.length * r.size) news = w' at hrun s1 s4 s5
          obtain ⟨q1, q2⟩ := held_append hi k5 m6 k1 m1 hun k4 m5
          refine ⟨_, _, hrun, ?_⟩
          refine ownOut_did hi (kd d 0) ⟨e, r, xs ++ ys⟩ (ks ++ ls) ho (F' := g :: F0 ++ F2) (s4.mono ?_) ?_ q2 ?_
          · rintro x rfl
            exact q1 x (by simp)
          · intro x hx
            exact ⟨by rw [s5]; exact held_lt hi ho q1 hx, .inl (q1 x hx)⟩
          · intro K' hK _
            simp only [Rp]
            refine .inr ⟨g, off, cap, cs', fr, F0 ++ F2, by rw [List.length_append], rfl, s1, by rw [s2]; exact hnf, by rw [s2]; exact hoff, by rw [List.length_append]; exact hcap, ?_⟩
            have htake : (cs'.toList.drop off).take ((xs ++ ys).length * r.size) = (cs.toList.drop off).take (xs.length * r.size) ++ news := by
              have hn2 : news.length = ys.length * r.size := by rw [hnl, h3, hsz]
              apply List.ext_getElem?
              intro j
              rw [List.length_append, Nat.add_mul]
              by_cases hj : j < xs.length * r.size
              · rw [List.getElem?_append_left (by omega), List.getElem?_take_of_lt (by omega), List.getElem?_take_of_lt hj, List.getElem?_drop, List.getElem?_drop, Array.getElem?_toList, Array.getElem?_toList, s3, if_neg (by omega)]
              · rw [List.getElem?_append_right (by omega), hol]
                by_cases hj2 : j < xs.length * r.size + ys.length * r.size
                · rw [List.getElem?_take_of_lt hj2, List.getElem?_drop, Array.getElem?_toList, s3, if_pos (by omega)]
                  congr 1; omega
                · rw [List.getElem?_eq_none (by rw [List.length_take]; omega), List.getElem?_eq_none (by omega)]
            rw [htake]
            exact RpL.append (RpL.frame hK _ _ _ _ (same2 s4 (fun x hx => held_lt hi k1 hh0 hx) (fun x hx h => n1 (h ▸ hx))) hro)
              (RpL.frame hK _ _ _ _ (same2 s4 (fun x hx => held_lt hi m1 m6 hx) (fun x hx h => not_held hi k1 m1 hun hhg m6 (h ▸ hx))) m4)
        · refine grow (some ⟨g, off, none⟩) cap _ F0 rfl hcp (by omega) (run_firstCells_some w.drew i.size xs.length ⟨g, off, none⟩ _ cap ((cs.toList.drop off).take (xs.length * r.size)) (by rw [hol, h3, hsz]) (fun j u hu => ?_)) hro n2 hh0
          have hj := (List.getElem?_eq_some_iff.1 hu).1
          rw [hol] at hj
          rw [List.getElem?_take_of_lt hj, List.getElem?_drop, Array.getElem?_toList] at hu
          have hg' : w.drew.heap[g]? = some (.cells cs e fr) := hg
          rw [add_blk, cell_blk hg']; exact hu
    · simp [Tr.ev] at h
  · simp [Tr.ev] at h
theorem run_copy_gen {t t2 ty e : TypeId} {i : TypeInfo} (w w' : World) (hu : P.underlying t = some (.slice e)) (hinfo : P.info? e = some i) (base : Option Addr) (dLen dCap : Nat) (v : Value) (m : Nat)
    (hlen : (Builtin.lenOf v).run P w = .ok m w) (cs : List Value) (hcells : (Builtin.firstCells i.size (Nat.min m dLen) v).run P w = .ok cs.toArray w)
    (hst : (base = none ∧ w' = w) ∨ ∃ a, base = some a ∧ (storeCells a cs).run P w = .ok () w') :
    (Builtin.copy_ #[t, t2] ty #[.slice base dLen dCap, v]).run P w = .ok (goInt (Nat.min m dLen)) w' := by
  rcases hst with ⟨rfl, rfl⟩ | ⟨a, rfl, hst⟩
  · simp [Builtin.copy_, run_underlying hu, hlen, sizeOf, typeInfo, hinfo, hcells]
  · simp [Builtin.copy_, run_underlying hu, hlen, sizeOf, typeInfo, hinfo, hcells, hst]
theorem copy_ok (hT : TabOk P ti) (hi : Inv b S w c) {t t2 ty : TypeId} {x y : Leaf} {u v : Value} {out : Out} (hx : LeafOk S c w (Kok b S c) x u) (hy : LeafOk S c w (Kok b S c) y v)
    (h : (copyT (ti t) (ti t2) x y).ev S = some out) : ∃ r w', (Builtin.copy_ #[t, t2] ty #[u, v]).run P w = .ok r w' ∧ Did b S c w out r w' := by
  unfold copyT at h
  split at h
  · rename_i k
    obtain ⟨o, e0, r0, ys0, h0, hk, hg0, hh0, hw0⟩ := hx
    obtain rfl : u = h0 := hw0
    obtain rfl : c.hv k = u := by simp only [hdr] at hh0; injection hh0
    simp only [Tr.ev, hk] at h
    split at h
    · rename_i hc
      simp only [Bool.and_eq_true] at hc
      obtain ⟨⟨hc1, hc2⟩, hro⟩ := hc
      obtain ⟨e, i, hu, hinf, hsz⟩ := sl_under hT hc1
      have hown := hi.ow k o hk
      have hnd := hi.nd k (by rw [hk]; simp)
      obtain ⟨A0, cap0, hA0⟩ : ∃ A0 cap0, c.hv k = .slice A0 o.xs.length cap0 := by
        obtain ⟨A, cap, ws, F', h1, _⟩ := own_read hown
        exact ⟨A, cap, h1⟩
      have fin : ∀ (ps : List o.r.D) (ws : List Value) (A : Option Addr) (cap : Nat), v = .slice A ps.length cap → RpL (Rp w (Kok b S c) o.r) ps ws [] → (ps = [] ∨ ∃ ad, A = some ad ∧ ∀ j, j < ws.length → w.cell? (ad.add j) = ws[j]?) →
          ∃ r w', (Builtin.copy_ #[t, t2] ty #[c.hv k, v]).run P w = .ok r w' ∧
            Did b S c w ⟨.s (.one (.v (.int .i64) ((Nat.min ps.length o.xs.length : Nat) : Int))), [.deep k], [.ow k (some ⟨o.e, o.r, ps.take o.xs.length ++ o.xs.drop ps.length⟩)]⟩ r w' := by
        rintro ps ws A cap rfl hps hx
        have hwl : ws.length = ps.length * o.r.size := RpL.len (fun x vs F h => Rp.len o.r x h) hps
        have hcl : ((ws.take (Nat.min ps.length o.xs.length * o.r.size))).length = Nat.min ps.length o.xs.length * o.r.size := by
          rw [List.length_take, hwl]
          exact Nat.min_eq_left (Nat.mul_le_mul_right _ (Nat.min_le_left _ _))
        have hcells : (Builtin.firstCells i.size (Nat.min ps.length o.xs.length) (.slice A ps.length cap)).run P w = .ok (ws.take (Nat.min ps.length o.xs.length * o.r.size)).toArray w := by
          rw [hsz]
          cases A with
          | none =>
            rcases hx with rfl | ⟨ad, h1, _⟩
            · have : ws = [] := List.eq_nil_of_length_eq_zero (by rw [hwl]; simp)
              subst this
              simp [Builtin.firstCells]
            · cases h1
          | some a =>
            refine run_firstCells_some w o.r.size _ a _ _ _ hcl (fun j u hu => ?_)
            have hj := (List.getElem?_eq_some_iff.1 hu).1
            rw [hcl] at hj
            rcases hx with rfl | ⟨ad, h1, h2⟩
            · simp at hj
            · injection h1 with h1; subst h1
              have hjw : j < ws.length := by rw [hwl]; exact Nat.lt_of_lt_of_le hj (Nat.mul_le_mul_right _ (Nat.min_le_left _ _))
              rw [h2 j hjw]
              rw [List.getElem?_take_of_lt hj] at hu
              exact hu
        have hlenS : ∀ (xs' : List o.r.D), xs' = ps.take o.xs.length ++ o.xs.drop ps.length → xs'.length = o.xs.length := by
          rintro _ rfl; simp; omega
        generalize hnew : ps.take o.xs.length ++ o.xs.drop ps.length = new at *
        have hnl := hlenS new rfl
        have turn : ∀ (w' : World) (F' : List Nat), (Builtin.copy_ #[t, t2] ty #[c.hv k, .slice A ps.length cap]).run P w = .ok (goInt (Nat.min ps.length o.xs.length)) w' → Step w w' (fun g => g ∈ c.F k) → w'.heap.size = w.heap.size →
            (∀ g, g ∈ F' → g ∈ c.F k) → F'.Nodup → (∀ K', KSame w w' (Kok b S c) K' → Rp w' K' (.sl true o.e o.r) new [c.hv k] F') →
            ∃ r w', (Builtin.copy_ #[t, t2] ty #[c.hv k, .slice A ps.length cap]).run P w = .ok r w' ∧ Did b S c w ⟨.s (.one (.v (.int .i64) ((Nat.min ps.length o.xs.length : Nat) : Int))), [.deep k], [.ow k (some ⟨o.e, o.r, new⟩)]⟩ r w' := by
          intro w' F' hrun hst hws hF hFn hR
          refine ⟨_, _, hrun, ?_⟩
          generalize hS : (S.kp [.deep k]).ups [.ow k (some ⟨o.e, o.r, new⟩)] = S'
          obtain ⟨c', _, _, _, e4, e5, _⟩ := hi.setOwn (S' := S') (w' := w') k ⟨o.e, o.r, new⟩ [] [.deep k] (c.hv k) F'
            (by intro k'; rw [← hS]; show (if k' = k then _ else (S.kp _).ow k') = _; rw [kp_ow]; simp)
            (by rw [← hS]; exact kp_ms S _) (by intro k' i; rw [← hS]; exact kp_mc S [.deep k] k' i) (fun k hk => by cases hk)
            (fun o' ho => by
              obtain rfl : o = o' := by rw [hk] at ho; injection ho
              exact .inr ⟨by simp, rfl, new, rfl, hnl⟩)
            (hst.mono fun g hg => ⟨k, .inl rfl, by rw [hk]; simp, hg⟩)
            (fun g hg => ⟨by rw [hws]; exact (hi.fr g (.inr ⟨k, by rw [hk]; simp, hF g hg⟩)).1, .inl ⟨k, .inl rfl, by rw [hk]; simp, hF g hg⟩⟩) hFn
            (fun K' hK _ => hR K' hK)
          subst hS
          exact ⟨c', e4, e5, sv_leaf mk_int⟩
        simp only [Rp] at hown
        rcases hown with ⟨hx0, hF0, hv0⟩ | ⟨g, off, capo, cs, fr, F1, hv0, hF0, hg, hnf, hoff, hcp, hr⟩
        · injection hv0 with hv0
          have hnil : new = [] := List.eq_nil_of_length_eq_zero (by rw [hnl, hx0]; rfl)
          refine turn w [] ?_ (Step.refl _ _) rfl (by simp) (by simp) (fun K' _ => by rw [hnil]; simp only [Rp]; exact .inl ⟨trivial, trivial, by rw [hv0]⟩)
          rw [hv0]
          have e0 : o.xs.length = 0 := by rw [hx0]; rfl
          have := run_copy_gen (P := P) (t2 := t2) (ty := ty) w w hu hinf none 0 0 (.slice A ps.length cap) ps.length rfl _ (by rw [← e0]; exact hcells) (.inl ⟨rfl, rfl⟩)
          rw [e0]; exact this
        · injection hv0 with hv0
          have hF1 : F1 = [] := RpL.ro hro _ hr
          subst hF1
          have hol : ((cs.toList.drop off).take (o.xs.length * o.r.size)).length = o.xs.length * o.r.size := RpL.len (fun x vs F h => Rp.len o.r x h) hr
          have hmo : Nat.min ps.length o.xs.length * o.r.size ≤ o.xs.length * o.r.size := Nat.mul_le_mul_right _ (Nat.min_le_right _ _)
          have hoc : o.xs.length * o.r.size ≤ capo * o.r.size := Nat.mul_le_mul_right _ hcp
          generalize hmv : Nat.min ps.length o.xs.length = m at *
          have hcs1 : ∀ v ∈ ws.take (m * o.r.size), v.oneCell' = true := fun v hv => RpL.one _ hps v (List.mem_of_mem_take hv)
          have hst : (storeCells ⟨g, off, none⟩ (ws.take (m * o.r.size))).run P w = .ok () (w.setCells g off (ws.take (m * o.r.size))) := by
            have := run_storeCells_cells (P := P) g off (ws.take (m * o.r.size)) 0 w (fun j hj => by rw [cell_blk hg, Array.getElem?_eq_getElem (by rw [hcl] at hj; omega)]; rfl)
              (fun j hj => frozen_blk hg hnf.nf (by rw [hcl] at hj; omega)) hcs1
            exact this
          have hrun := run_copy_gen (P := P) (t2 := t2) (ty := ty) w (w.setCells g off (ws.take (m * o.r.size))) hu hinf (some ⟨g, off, none⟩) o.xs.length capo (.slice A ps.length cap) ps.length rfl _ (by rw [show Nat.min ps.length o.xs.length = m from hmv]; exact hcells) (.inr ⟨_, rfl, hst⟩)
          rw [show Nat.min ps.length o.xs.length = m from hmv, ← hv0] at hrun
          obtain ⟨cs', s1, s2, s3⟩ := setCells_blk (ws.take (m * o.r.size)) off w cs hg (by rw [hcl]; omega)
          obtain ⟨s4, s5⟩ := setCells_step (g := g) (ws.take (m * o.r.size)) off w
          generalize w.setCells g off (ws.take (m * o.r.size)) = w' at hrun s1 s4 s5
          refine turn w' [g] hrun (s4.mono fun x hx => by rw [hF0, hx]; simp) s5 (fun x hx => by rw [hF0]; exact hx) (by simp) (fun K' hK => ?_)
          simp only [Rp]
          refine .inr ⟨g, off, capo, cs', fr, [], by rw [hnl, hv0], rfl, s1, by rw [s2]; exact hnf, by rw [s2]; exact hoff, by rw [hnl]; exact hcp, ?_⟩
          have htk : (cs'.toList.drop off).take (new.length * o.r.size) = ws.take (m * o.r.size) ++ ((cs.toList.drop off).take (o.xs.length * o.r.size)).drop (m * o.r.size) := by
            rw [hnl]
            apply List.ext_getElem?
            intro j
            by_cases hj : j < m * o.r.size
            · rw [List.getElem?_append_left (by rw [hcl]; exact hj), List.getElem?_take_of_lt (by omega), List.getElem?_drop, Array.getElem?_toList, s3, if_pos (by rw [hcl]; omega)]
              congr 1; omega
            · rw [List.getElem?_append_right (by rw [hcl]; omega), hcl, List.getElem?_drop, show m * o.r.size + (j - m * o.r.size) = j by omega]
              by_cases hj2 : j < o.xs.length * o.r.size
              · rw [List.getElem?_take_of_lt hj2, List.getElem?_take_of_lt hj2, List.getElem?_drop, List.getElem?_drop, Array.getElem?_toList, Array.getElem?_toList, s3, if_neg (by rw [hcl]; omega)]
              · rw [List.getElem?_eq_none (by rw [List.length_take]; omega), List.getElem?_eq_none (by rw [List.length_take]; omega)]
          rw [htk, ← hnew]
          have hA : RpL (Rp w (Kok b S c) o.r) (ps.take o.xs.length) (ws.take (m * o.r.size)) [] := by
            have hsp : ps = ps.take o.xs.length ++ ps.drop o.xs.length := (List.take_append_drop _ _).symm
            rw [hsp] at hps
            obtain ⟨v1, v2, G1, G2, e1, e2, q1, q2⟩ := RpL.split hps
            have l1 : v1.length = (ps.take o.xs.length).length * o.r.size := RpL.len (fun x vs F h => Rp.len o.r x h) q1
            have l2 : (ps.take o.xs.length).length = m := by rw [List.length_take, ← hmv]; exact Nat.min_comm _ _
            rw [l2] at l1
            have : ws.take (m * o.r.size) = v1 := by rw [e1, ← l1]; exact List.take_left' rfl
            rw [this]
            obtain ⟨rfl, rfl⟩ := List.append_eq_nil_iff.1 e2.symm
            exact q1
          have hB : RpL (Rp w (Kok b S c) o.r) (o.xs.drop ps.length) (((cs.toList.drop off).take (o.xs.length * o.r.size)).drop (m * o.r.size)) [] := by
            have hsp : o.xs = o.xs.take ps.length ++ o.xs.drop ps.length := (List.take_append_drop _ _).symm
            generalize (cs.toList.drop off).take (o.xs.length * o.r.size) = ows at hr
            rw [hsp] at hr
            obtain ⟨v1, v2, G1, G2, e1, e2, q1, q2⟩ := RpL.split hr
            have l1 : v1.length = (o.xs.take ps.length).length * o.r.size := RpL.len (fun x vs F h => Rp.len o.r x h) q1
            have l2 : (o.xs.take ps.length).length = m := by rw [List.length_take, ← hmv]
            rw [l2] at l1
            have : ows.drop (m * o.r.size) = v2 := by rw [e1, ← l1]; exact List.drop_left' rfl
            rw [this]
            obtain ⟨rfl, rfl⟩ := List.append_eq_nil_iff.1 e2.symm
            exact q2
          exact (RpL.append (RpL.frame hK _ _ _ _ (fun g hg => by cases hg) hA) (RpL.frame hK _ _ _ _ (fun g hg => by cases hg) hB))
      split at h
      · simp only [Tr.ev, Option.some.injEq] at h
        subst h
        obtain rfl : v = .slice none 0 0 := hy
        refine ⟨goInt 0, w, ?_, Did.same hi (sv_leaf mk_int)⟩
        obtain hrun := run_copy_gen (P := P) (t2 := t2) (ty := ty) w w hu hinf A0 o.xs.length cap0 (.slice none 0 0) 0 rfl [] (by simp [Builtin.firstCells]) (by
          cases A0 with
          | none => exact .inl ⟨rfl, rfl⟩
          | some a => exact .inr ⟨a, rfl, rfl⟩)
        rw [hA0]
        simpa using hrun
      · simp only [ev_bind, Option.bind_eq_some_iff] at h
        obtain ⟨p, hp, h⟩ := h
        split at h
        · rename_i he
          obtain ⟨pe, pr, pxs⟩ := p
          simp only [Ty.sl.injEq, true_and] at he
          obtain ⟨rfl, rfl⟩ := he
          simp only [Tr.ev, Option.some.injEq] at h
          subst h
          obtain ⟨A, cap, ws, F', rfl, hr, hx⟩ := data_read hi hy hp
          have hF := RpL.ro hro _ hr
          subst hF
          exact fin pxs ws A cap rfl hr (hx.imp id fun ⟨ad, h1, _, h2⟩ => ⟨ad, h1, h2⟩)
        · simp [Tr.ev] at h
    · simp [Tr.ev] at h
  · simp [Tr.ev] at h
end
end Go.V

namespace Go.V
open Go.RowKit
section
variable {P : Program} {ti : TypeId → TI} {b : Base} {S : St} {c : Cc} {w : World}
theorem fields_at : ∀ {fs : List (Nat × Nat × Bool)} {gs : List Field} {f : Nat} {o n : Nat} {ag : Bool}, fieldsAre P fs gs = true → fs[f]? = some (o, n, ag) →
    ∃ g, gs[f]? = some g ∧ g.offset = o ∧ n ≠ 0 ∧ (∃ i, P.info? g.type = some i ∧ i.size = n) ∧ ∃ d, P.underlying g.type = some d ∧ isAggD d = ag
  | [], _, _, _, _, _, _, h => by simp at h
  | _ :: _, [], _, _, _, _, h, _ => by simp [fieldsAre] at h
  | (o', n', ag') :: fs, g :: gs, f, o, n, ag, h, hf => by
    simp only [fieldsAre, Bool.and_eq_true, beq_iff_eq, Bool.not_eq_true', beq_eq_false_iff_ne] at h
    obtain ⟨⟨⟨⟨h1, h2⟩, h3⟩, h4⟩, h5⟩ := h
    cases f with
    | zero =>
      simp only [List.getElem?_cons_zero, Option.some.injEq, Prod.mk.injEq] at hf
      obtain ⟨rfl, rfl, rfl⟩ := hf
      refine ⟨g, rfl, h1, h2, ?_, ?_⟩
      · split at h3
        · rename_i i hi; exact ⟨i, hi, by simpa using h3⟩
        · cases h3
      · split at h4
        · rename_i d hd; exact ⟨d, hd, by simpa using h4⟩
        · cases h4
    | succ f =>
      have := fields_at (f := f) h5 (by simpa using hf)
      simpa using this
theorem fields_places : ∀ {fs : List (Nat × Nat × Bool)} {gs : List Field}, fieldsAre P fs gs = true → gs.mapM (fun f => (P.info? f.type).map fun i => (f.offset, i.size)) = some (fs.map fun x => (x.1, x.2.1))
  | [], [], _ => rfl
  | [], _ :: _, h => by simp [fieldsAre] at h
  | _ :: _, [], h => by simp [fieldsAre] at h
  | (o', n', ag') :: fs, g :: gs, h => by
    simp only [fieldsAre, Bool.and_eq_true, beq_iff_eq, Bool.not_eq_true', beq_eq_false_iff_ne] at h
    obtain ⟨⟨⟨⟨h1, h2⟩, h3⟩, h4⟩, h5⟩ := h
    split at h3
    · rename_i i hi
      rw [beq_iff_eq] at h3
      simp [List.mapM_cons, hi, fields_places h5, h1, h3]
    · cases h3
theorem run_field' {t : TypeId} {fields : Array Field} {f : Nat} {g : Field} {d : TypeDesc} {i : TypeInfo} (h1 : P.underlying t = some (.struct fields)) (h2 : fields[f]? = some g) (h3 : P.underlying g.type = some d)
    (h4 : P.info? g.type = some i) (cs : Array Value) (v : Value) (hv : if isAggD d then v = .agg (cs.extract g.offset (g.offset + i.size)) else cs[g.offset]? = some v) :
    (Instr.field t (.agg cs) f).run P w = .ok v w := by
  simp only [Instr.field, Sem.run_bind, run_underlying h1, Result.andThen_ok, h2, asAgg, Sem.run_pure, part, run_isAgg h3]
  split at hv
  · rename_i ha
    subst hv
    simp [ha, run_size h4]
  · rename_i ha
    simp [ha, hv]
theorem field_ok (hT : TabOk P ti) {K : Nat → Prop} {t : TypeId} {fs : List (Nat × Nat × Bool)} {row : List Ty} {eq : Bool} {ls : List Leaf} {v : Value} {f o n : Nat} {ag : Bool} {r : SV}
    (ht : ti t = .struct fs row eq) (hf : fs[f]? = some (o, n, ag)) (hx : SVOk S c w K (.s (.ag ls)) v)
    (hr : if ag then r = .s (.ag ((ls.drop o).take n)) else ∃ l, ls[o]? = some l ∧ r = .s (.one l)) : ∃ u, (Instr.field t v f).run P w = .ok u w ∧ SVOk S c w K r u := by
  obtain ⟨fields, h1, h2, _⟩ := hT.struct ht
  obtain ⟨g, h3, h4, h5, ⟨i, h6, h7⟩, d, h8, h9⟩ := fields_at h2 hf
  obtain ⟨vs, rfl, hall⟩ := hx
  rw [Array.getElem?_toList] at h3
  cases ag with
  | true =>
    simp only [if_true] at hr
    subst hr
    refine ⟨_, run_field' h1 h3 h8 h6 _ (.agg (vs.toArray.extract o (o + n))) (by rw [h9, h4, h7]; simp), (vs.drop o).take n, ?_, (hall.drop o).take n⟩
    congr 1
    apply Array.ext'
    simp [List.extract_eq_take_drop]
  | false =>
    obtain ⟨l, hl, rfl⟩ := hr
    obtain ⟨u, hu, hlu⟩ := hall.get hl
    exact ⟨u, run_field' h1 h3 h8 h6 _ u (by rw [h9, h4]; simpa using hu), hlu⟩
theorem fieldAt_ok (hT : TabOk P ti) {t : TypeId} {fs : List (Nat × Nat × Bool)} {row : List Ty} {eq : Bool} {f o n : Nat} {ag : Bool} (ht : ti t = .struct fs row eq) (hf : fs[f]? = some (o, n, ag)) (ad : Addr) :
    (Instr.fieldAt t (.pointer (some ad)) f).run P w = .ok (.pointer (some (ad.add o))) w := by
  obtain ⟨fields, h1, h2, _⟩ := hT.struct ht
  obtain ⟨g, h3, h4, h5, ⟨i, h6, h7⟩, d, h8, h9⟩ := fields_at h2 hf
  rw [Array.getElem?_toList] at h3
  simp only [Instr.fieldAt, Sem.run_bind, run_underlying h1, Result.andThen_ok, h3, Instr.sureAddr, Sem.run_pure, fieldPlace, run_size h6, h7, if_neg h5, h4]
theorem fieldAddr_ok (hT : TabOk P ti) {K : Nat → Prop} {t : TypeId} {fs : List (Nat × Nat × Bool)} {row : List Ty} {eq : Bool} {f o n : Nat} {ag : Bool} {a : S1} {v : Value} {r : SV} (ht : ti t = .struct fs row eq) (hf : fs[f]? = some (o, n, ag)) (ha : SVOk S c w K (.s a) v)
    (hr : (∃ k off, a = .pl k off ∧ r = .s (.pl k (off + o))) ∨ (∃ k st, a = .el k st ∧ r = .s (.el k (bump st o))) ∨ (∃ u x off, a = .rp u x off ∧ r = .s (.rp u x (off + o)))) :
    ∃ u, (Instr.fieldAt t v f).run P w = .ok u w ∧ SVOk S c w K r u := by
  rcases hr with ⟨k, off, rfl, rfl⟩ | ⟨k, st, rfl, rfl⟩ | ⟨u, x, off, rfl, rfl⟩
  · obtain ⟨m, hm, rfl⟩ := ha
    refine ⟨_, fieldAt_ok hT ht hf _, m, hm, by rw [add_blk]⟩
  · obtain ⟨o0, ad, ho, had, rfl, pre, p, d, rfl, hd⟩ := ha
    refine ⟨_, fieldAt_ok hT ht hf _, o0, _, ho, adr_bump _ o had, rfl, pre, (p.1, p.2 + o), d, ?_, hd⟩
    obtain ⟨i, j⟩ := p
    exact bump_snoc _ _ _ _
  · obtain ⟨ad, vs, rfl, h1, h2, h3, h4⟩ := ha
    refine ⟨_, fieldAt_ok hT ht hf _, ad, vs, ?_, h1, h2, h3, h4⟩
    rw [add_add]
theorem setMany_all {p : Leaf → Value → Prop} : ∀ (ls : List Leaf) (vs : List Value) (off k : Nat) (row : List Leaf) (cs : Array Value), All2 p ls vs → All2 p row cs.toList →
    All2 p (setMany row (off + k) ls) ((vs.zipIdx k).foldl (fun cs q => cs.setIfInBounds (off + q.2) q.1) cs).toList
  | [], _, _, _, _, _, .nil, h => h
  | l :: ls, _, off, k, row, cs, .cons (b := v) (bs := vs) h1 h2, h => by
    simp only [setMany, List.zipIdx_cons, List.foldl_cons]
    exact setMany_all ls vs off (k + 1) _ _ h2 (by rw [Array.toList_setIfInBounds]; exact h.set _ h1)
theorem buildT_ok (hi : Inv b S w c) (fs : List (Nat × Nat × Bool)) (place : Nat → Option (Nat × Nat)) (hp : ∀ f o n ag, fs[f]? = some (o, n, ag) → place f = some (o, n)) :
    ∀ (ps : List (Nat × SV)) (us : List Value) (row : List Leaf) (cs : Array Value) {ls : List Leaf}, All2 (fun p u => SVOk S c w (Kok b S c) p.2 u) ps us → All2 (LeafOk S c w (Kok b S c)) row cs.toList → buildT fs ps row = some ls →
      ∃ cs', Instr.fill place cs ((ps.map (·.1)).zip us) = some cs' ∧ All2 (LeafOk S c w (Kok b S c)) ls cs'.toList
  | [], _, row, cs, ls, .nil, h, hb => by
    simp only [buildT, Option.some.injEq] at hb
    subst hb
    exact ⟨cs, rfl, h⟩
  | (f, x) :: ps, _, row, cs, ls, .cons (b := u) (bs := us) h1 h2, h, hb => by
    simp only [buildT] at hb
    split at hb
    · rename_i off n ag lsx hf hlx
      split at hb
      · rename_i hn
        split at hb
        · rename_i hle
          obtain ⟨vs, e1, e2, _⟩ := leaves_ok hi h1 hlx
          have hvl : vs.length = n := by rw [← e2.len, hn]
          have hcl : row.length = cs.size := by rw [h.len]; simp
          have hall := setMany_all lsx vs off 0 row cs e2 h
          rw [Nat.add_zero] at hall
          obtain ⟨cs', q1, q2⟩ := buildT_ok hi fs place hp ps us _ _ h2 hall hb
          refine ⟨cs', ?_, q2⟩
          simp only [List.map_cons, List.zip_cons_cons, Instr.fill, hp f off n ag hf, e1, List.size_toArray]
          rw [if_neg (by simp; omega)]
          rw [← q1]
          congr 1
          rw [← Array.foldl_toList, Array.toList_zipIdx]
        · cases hb
      · cases hb
    · cases hb
theorem build_ok (hT : TabOk P ti) (hi : Inv b S w c) {t : TypeId} {fs : List (Nat × Nat × Bool)} {row : List Ty} {eq : Bool} {ps : List (Nat × SV)} {us : List Value} {is : List (Nat × Value)} {ls : List Leaf} (ht : ti t = .struct fs row eq)
    (hps : All2 (fun p u => SVOk S c w (Kok b S c) p.2 u) ps us) (his : is = (ps.map (·.1)).zip us) (h : buildT fs ps (row.map zeroLeaf) = some ls) :
    ∃ u, (Instr.build t is.toArray).run P w = .ok u w ∧ SVOk S c w (Kok b S c) (.s (.ag ls)) u := by
  obtain ⟨fields, h1, h2, _, i, h3, h4, h5, h6⟩ := hT.struct ht
  obtain ⟨cs', q1, q2⟩ := buildT_ok hi fs ((fs.map fun x => (x.1, x.2.1)).toArray[·]?) (fun f o n ag hf => by simp [hf]) ps us (row.map zeroLeaf) (row.map zeroV).toArray hps (by simpa using zeroLeaf_ok row h6) h
  refine ⟨.agg cs', run_build w t _ cs' ?_, cs'.toList, rfl, q2⟩
  simp only [Program.built, h3, h1, h5, fields_places h2, Value.cells]
  rw [his]
  exact q1
theorem text_fold (xs : List Int) : xs.foldl (fun r n => r.push (UInt8.ofNat n.toNat)) ByteArray.empty = ⟨(textOf xs).toArray⟩ := by
  have h : ∀ (xs : List Int) (r : ByteArray), xs.foldl (fun r n => r.push (UInt8.ofNat n.toNat)) r = ⟨r.data ++ (textOf xs).toArray⟩ := by
    intro xs
    induction xs with
    | nil => intro r; simp [textOf]
    | cons x xs ih =>
      intro r
      rw [List.foldl_cons, ih]
      simp [textOf, ByteArray.push]
  rw [h]; simp
theorem u8_cells {K : Nat → Prop} : ∀ (xs : List Int) {ws F}, RpL (Rp w K (.int .u8)) xs ws F → ws = xs.map (Value.int .u8)
  | [], _, _, h => h.1
  | x :: xs, _, _, ⟨v1, v2, F1, F2, e1, _, h1, h2⟩ => by
    simp only [Rp] at h1
    subst e1
    rw [h1.1, u8_cells xs h2]; rfl
theorem cell_str (hT : TabOk P ti) {t : TypeId} (h : ti t = .cell .str) : P.underlying t = some .string := by
  obtain ⟨⟨d, hd, he⟩, _⟩ := hT.cell h
  rw [hd]; cases d <;> first | rfl | (simp [descIs] at he; done)
theorem cell_bool (hT : TabOk P ti) {t : TypeId} (h : ti t = .cell .bool) : P.underlying t = some .bool := by
  obtain ⟨⟨d, hd, he⟩, _⟩ := hT.cell h
  rw [hd]; cases d <;> first | rfl | (simp [descIs] at he; done)
theorem conv_ok (hT : TabOk P ti) (hi : Inv b S w c) {s t : TypeId} {d : Nat} {x : Leaf} {v : Value} {out : Out} (hx : LeafOk S c w (Kok b S c) x v) (h : (convT ti (ti s) (ti t) d x).ev S = some out) :
    ∃ r w', (convert s t v).run P w = .ok r w' ∧ Did b S c w out r w' := by
  unfold convT at h
  split at h
  · rename_i k0 k k' n hs ht
    simp only [Tr.ev, Option.some.injEq] at h
    subst h
    obtain rfl := int_leaf hx
    refine ⟨.int k (k.wrap n), w, ?_, Did.same hi (sv_leaf mk_int)⟩
    simp [convert, run_underlying (cell_int hT hs), run_underlying (cell_int hT ht), Conv.intToInt]
  · rename_i s' hs ht
    simp only [Tr.ev, Option.some.injEq] at h
    subst h
    obtain rfl := str_leaf hx
    refine ⟨_, w, ?_, Did.same hi (sv_leaf mk_str)⟩
    simp [convert, run_underlying (cell_str hT hs), run_underlying (cell_str hT ht)]
  · rename_i e ts bytes s' hs ht
    split at h
    · rename_i he
      simp only [Tr.ev, Option.some.injEq] at h
      subst h
      obtain rfl := str_leaf hx
      obtain ⟨h1, _⟩ := hT.slice ht
      have hrun := run_bytes_of_string (P := P) w s t e ⟨s'.toArray⟩ (cell_str hT hs) h1 (cell_int hT he)
      have hge := grownCap_ge w (ByteArray.mk s'.toArray).size 0 e
      generalize grownCap w (ByteArray.mk s'.toArray).size 0 e = gc at hrun hge
      have hsz : (ByteArray.mk s'.toArray).size = s'.length := by simp [ByteArray.size]
      have hrow : bytesRow ⟨s'.toArray⟩ gc = (byteCells ⟨s'.toArray⟩).toArray ++ Array.replicate (gc - s'.length) (.int .u8 0) := by
        simp only [bytesRow, hsz, byteCells]
        congr 1
        apply Array.ext'
        simp
      have hbl : (byteCells ⟨s'.toArray⟩).length = s'.length := by rw [byteCells_length, hsz]
      rw [hrow, hsz] at hrun
      rw [hsz] at hge
      generalize hcs : (byteCells ⟨s'.toArray⟩).toArray ++ Array.replicate (gc - s'.length) (Value.int .u8 0) = cs at hrun
      have hcz : cs.size = gc := by rw [← hcs]; simp [hbl]; omega
      have hst : Step w (w.drew.alloc (.cells cs e (cs.size, cs.size + 1))) (fun _ => False) := by
        exact ⟨rfl, rfl, rfl, (by show w.heap.size ≤ (w.heap.push _).size; simp), fun g hg _ => (by show (w.heap.push _)[g]? = _; simp [Array.getElem?_push, show ¬ (g = w.heap.size) by omega])⟩
      refine ⟨_, _, hrun, ?_⟩
      refine ownOut_did hi (kd d 0) ⟨e, .int .u8, bytesOf s'⟩ [] (fun k hk => (by cases hk)) (F' := [w.heap.size]) (hst.mono fun _ h => h.elim) ?_ (by simp) ?_
      · intro g hg
        simp only [List.mem_singleton] at hg
        subst hg
        exact ⟨by show w.heap.size < (w.heap.push _).size; simp, .inr (Nat.le_refl _)⟩
      · intro K' _ _
        have hlen : (bytesOf s').length = s'.length := by simp [bytesOf]
        rw [Rp]
        refine .inr ⟨w.heap.size, 0, gc, cs, (cs.size, cs.size + 1), [], by rw [hlen], rfl, push_new w _, ⟨by intro i hi hx; omega, fun h => absurd rfl h, fun h => (by cases h)⟩, by simp [Ty.size, hcz], by rw [hlen]; exact hge, ?_⟩
        have : (cs.toList.drop 0).take ((bytesOf s').length * Ty.size (.int .u8)) = byteCells ⟨s'.toArray⟩ := by
          rw [← hcs, List.drop_zero, Array.toList_append, List.take_append_of_le_length (by simp [hbl, hlen, Ty.size])]
          apply List.take_of_length_le
          simp [hbl, hlen, Ty.size]
        rw [this]
        exact bytes_rep s'
    · simp [Tr.ev] at h
  · rename_i e ts bytes hs ht
    split at h
    · rename_i he
      simp only [Tr.ev, Option.some.injEq] at h
      subst h
      obtain rfl : v = .slice none 0 0 := hx
      obtain ⟨h1, _⟩ := hT.slice hs
      exact ⟨_, w, run_convert_bytes_nil w s e h1 (cell_int hT he) 0 0 t (cell_str hT ht), Did.same hi (sv_leaf (mk_str (n := [])))⟩
    · simp [Tr.ev] at h
  · rename_i hs ht _
    split at h
    · rename_i he
      simp only [ev_bind, Option.bind_eq_some_iff] at h
      obtain ⟨o, ho, h⟩ := h
      split at h
      · rename_i oe xs
        simp only [Tr.ev, Option.some.injEq] at h
        subst h
        obtain ⟨A, cap, ws, F', rfl, hr, hxs⟩ := data_read hi hx ho
        obtain ⟨h1, _⟩ := hT.slice hs
        have hws := u8_cells _ hr
        refine ⟨.string ⟨(textOf xs).toArray⟩, w, ?_, Did.same hi (sv_leaf mk_str)⟩
        cases A with
        | none =>
          rcases hxs with hxs | ⟨ad, h, _⟩
          · simp only at hxs
            subst hxs
            exact run_convert_bytes_nil w s _ h1 (cell_int hT he) _ cap t (cell_str hT ht)
          · cases h
        | some a =>
          rw [run_convert_bytes_string w s t _ (some a) _ cap h1 (cell_int hT he) (cell_str hT ht)]
          have hl : (loadCells a (List.length xs)).run P w = .ok (xs.map (Value.int .u8)).toArray w := by
            have := run_loadCells_list (P := P) w a (xs.map (Value.int .u8)) (fun j u hu => by
              have hj := (List.getElem?_eq_some_iff.1 hu).1
              rcases hxs with hxs | ⟨ad, h, _, h2⟩
              · simp only at hxs; subst hxs; simp at hj
              · injection h with h; subst h
                rw [h2 j (by rw [hws]; exact hj), hws]; exact hu)
            simpa using this
          rw [run_bytesToString w a _ cap xs hl, text_fold]
      · simp [Tr.ev] at h
    · simp [Tr.ev] at h
  · simp [Tr.ev] at h
theorem minmax_ok {K : Nat → Prop} {f : Builtin} {xs : List SV} {us : List Value} {r : SV} (ts : Array TypeId) (t : TypeId) (hx : All2 (SVOk S c w K) xs us) (h : (minmax f xs).ev S = some r) :
    (f = .min ∧ ∃ u, (Builtin.min_ ts t us.toArray).run P w = .ok u w ∧ SVOk S c w K r u) ∨ (f = .max ∧ ∃ u, (Builtin.max_ ts t us.toArray).run P w = .ok u w ∧ SVOk S c w K r u) := by
  unfold minmax at h
  split at h
  · rename_i k x k' y
    cases hx with
    | cons h1 h2 =>
      cases h2 with
      | cons h2 h3 =>
        cases h3
        obtain rfl := int_leaf (leaf_sv h1)
        obtain rfl := int_leaf (leaf_sv h2)
        split at h
        · rename_i hk
          subst hk
          split at h
          · simp only [Tr.ev, Option.some.injEq] at h
            subst h
            refine .inl ⟨rfl, .int k (if (y : Int) < x then y else x), ?_, sv_leaf mk_int⟩
            simp [Builtin.min_, Builtin.min2]
          · simp only [Tr.ev, Option.some.injEq] at h
            subst h
            refine .inr ⟨rfl, .int k (if (x : Int) < y then y else x), ?_, sv_leaf mk_int⟩
            simp [Builtin.max_, Builtin.max2]
          · simp [Tr.ev] at h
        · simp [Tr.ev] at h
  · simp [Tr.ev] at h
theorem index_str {K : Nat → Prop} {t : TypeId} {s : List UInt8} {k : IntKind} {i : Int} {u : UInt8} (ht : P.underlying t = some .string) (h0 : 0 ≤ i) (hu : s[i.toNat]? = some u) :
    (Instr.index t (.string ⟨s.toArray⟩) (.int k i)).run P w = .ok (.int .u8 (u.toNat : Nat)) w ∧ SVOk S c w K (.s (.one (.v (.int .u8) ((UInt8.toNat u : Nat) : Int)))) (.int .u8 (u.toNat : Nat)) := by
  refine ⟨?_, sv_leaf mk_int⟩
  have hlt : i.toNat < s.length := (List.getElem?_eq_some_iff.1 hu).1
  rw [run_index_string w t _ k i ht, dif_pos ⟨h0, by simp only [ByteArray.size, List.size_toArray]; omega⟩]
  have hs : s[i.toNat] = u := by
    have := List.getElem?_eq_getElem hlt
    rw [hu] at this
    injection this with this
    exact this.symm
  congr 2
  rw [← hs]
  rfl
end
end Go.V

namespace Go.V
open Go.RowKit
def Goes (P : Program) (o : Oper) (a : Act) (w : World) (post : Value → World → Prop) : Prop :=
  ∀ (next : Act → World → Prop) (Q : Exit → Act → World → Prop), (∀ v w', post v w' → next (a.put o.dst v) w') → o.wp P a w next Q
section
variable {P : Program} {E : Env} {b : Base} {S : St} {c : Cc} {w : World} {a : Act} {o : Oper} {post : Value → World → Prop}
theorem goes_value {s : Sem Value} (he : execOp a.eval o = (do pure (.value (← s)))) (hr : ∃ v w', s.run P w = .ok v w' ∧ post v w') : Goes P o a w post := by
  intro next Q h
  obtain ⟨v, w', h1, h2⟩ := hr
  unfold Oper.wp
  rw [he]
  simp only [Sem.run_bind, h1, Result.andThen_ok, Sem.run_pure]
  exact h v w' h2
theorem goes_unit {s : Sem Unit} (he : execOp a.eval o = (do s; pure .skip)) (hr : ∃ w', s.run P w = .ok () w' ∧ post undef w') : Goes P o a w post := by
  intro next Q h
  obtain ⟨w', h1, h2⟩ := hr
  unfold Oper.wp
  rw [he]
  simp only [Sem.run_bind, h1, Result.andThen_ok, Sem.run_pure]
  exact h undef w' h2
theorem goes_now {v : Value} (he : execOp a.eval o = pure (.value v)) (hr : post v w) : Goes P o a w post := by
  intro next Q h
  unfold Oper.wp
  rw [he, Sem.run_pure]
  exact h v w hr
theorem goes_some (hr : ∃ v w', (execOp a.eval o).run P w = .ok (.value v) w' ∧ post v w') : Goes P o a w post := by
  intro next Q h
  obtain ⟨v, w', h1, h2⟩ := hr
  unfold Oper.wp
  rw [h1]
  exact h v w' h2
theorem vbin_val {K : Nat → Prop} {op : BinOp} {x y l : Leaf} {u : Value} (hx : LeafOk S c w K x u) (h : (vbin op x y).ev S = some l) : u.oneCell' = true ∧ u ≠ .nilIface := by
  unfold vbin at h
  split at h
  · obtain rfl := int_leaf hx; exact ⟨rfl, by simp⟩
  · obtain rfl := bool_leaf hx; exact ⟨rfl, by simp⟩
  · obtain rfl := str_leaf hx; exact ⟨rfl, by simp⟩
  · simp [Tr.ev] at h
theorem parts_all {N : Nat} {K : Nat → Prop} (hs : Slots N S c w K a) : ∀ (ps : List (Nat × Operand)), All2 (fun (p : Nat × SV) u => SVOk S c w K p.2 u) (ps.map fun p => (p.1, opnd S p.2)) (ps.map fun p => a.eval p.2)
  | [] => .nil
  | p :: ps => .cons (opnd_ok hs p.2) (parts_all hs ps)
theorem parts_zip {S : St} {a : Act} : ∀ (ps : List (Nat × Operand)), ps.map (fun (p : Nat × Operand) => (p.1, a.eval p.2)) = ((ps.map fun p => (p.1, opnd S p.2)).map (·.1)).zip (ps.map fun p => a.eval p.2)
  | [] => rfl
  | p :: ps => by simp [parts_zip (S := S) (a := a) ps]
theorem parts_arr {a : Act} (ps : Array (Nat × Operand)) : (ps.map fun (i, x) => (i, a.eval x)) = (ps.toList.map fun p => (p.1, a.eval p.2)).toArray := by
  apply Array.ext'
  simp
theorem args_all {N : Nat} {K : Nat → Prop} (hs : Slots N S c w K a) : ∀ (ps : List Operand), All2 (SVOk S c w K) (ps.map (opnd S)) (ps.map a.eval)
  | [] => .nil
  | p :: ps => .cons (opnd_ok hs p) (args_all hs ps)
theorem builtin_goes {N : Nat} {f : Builtin} {args : Array Operand} {ts : Array TypeId} {dst : Option Tmp} {ty : TypeId} {pos : String} {aft : Array Edge} {gd : Option (Nat × Bool)} {s : Sem Value} (_ : Slots N S c w (Kok b S c) a)
    (he : ∀ consts, builtin f ts ty consts (args.map a.eval) = (do pure (.value (← s)))) (hr : ∃ v w', s.run P w = .ok v w' ∧ post v w') : Goes P ⟨dst, .call ⟨.builtin f, args, ts⟩, ty, pos, aft, gd⟩ a w post := by
  intro next Q h
  obtain ⟨v, w', h1, h2⟩ := hr
  unfold Oper.wp
  simp only [execOp, resolve, Sem.run_bind, Sem.run_pure, Result.andThen_ok, invoke, he, h1]
  exact h v w' h2
theorem pls_all {K : Nat → Prop} : ∀ {xs : List SV} {vs : List Value} {l : List (Nat × Nat)}, All2 (SVOk S c w K) xs vs → plsOf xs = some l → All2 (PlOk S c) l vs
  | [], _, l, .nil, h => by
    simp only [plsOf, Option.some.injEq] at h
    subst h; exact .nil
  | x :: xs, _, l, .cons (b := v) (bs := vs) h1 h2, h => by
    unfold plsOf at h
    split at h
    · rename_i e; cases e
    · rename_i k off xs' e
      injection e with e1 e2
      subst e1 e2
      split at h
      · rename_i l' hl'
        simp only [Option.some.injEq] at h
        subst h
        exact .cons h1 (pls_all h2 hl')
      · cases h
    · cases h
theorem nil_ok (hi : Inv b S w c) {x l : Leaf} {v : Value} (hx : LeafOk S c w (Kok b S c) x v) (h : (nilT x).ev S = some l) :
    ∃ A n cap, v = .slice A n cap ∧ LeafOk S c w (Kok b S c) l (.bool A.isNone) := by
  unfold nilT at h
  split at h
  · simp only [Tr.ev, Option.some.injEq] at h
    subst h
    exact ⟨none, 0, 0, hx, mk_bool⟩
  · rename_i o e r xs
    simp only [Tr.ev, Option.some.injEq] at h
    subst h
    have hd : (dataT (.v (.sl o e r) xs)).ev S = some ⟨e, r, xs⟩ := by cases o <;> rfl
    obtain ⟨A, cap, ws, F', rfl, hr, hz⟩ := data_read hi hx hd
    refine ⟨A, _, cap, rfl, _, rfl, fun hA => ?_⟩
    rcases hz with hz | ⟨ad, h1, _⟩
    · simp only at hz; rw [hz]; rfl
    · rw [h1] at hA; cases hA
  · rename_i k st win
    simp only [ev_bind, Option.bind_eq_some_iff, Tr.ev, Option.some.injEq] at h
    obtain ⟨o, ho, rfl⟩ := h
    obtain ⟨A, cap, ws, F', rfl, hr, hz⟩ := data_read hi hx (show (dataT (.vw k st win)).ev S = some o from ho)
    refine ⟨A, _, cap, rfl, _, rfl, fun hA => ?_⟩
    rcases hz with hz | ⟨ad, h1, _⟩
    · rw [hz]; rfl
    · rw [h1] at hA; cases hA
  · simp [Tr.ev] at h
theorem core_ok (hT : TabOk P E.ti) {N : Nat} (hi : Inv b S w c) (hs : Slots N S c w (Kok b S c) a) (o : Oper) {d : Nat} (hdn : d < b.n1) {out : Out}
    (hcall : ∀ fo f cs args ts out, o.op = .call ⟨.value fo, args, ts⟩ → opnd S fo = .s (.fv f cs) → args.size = ts.size → (callT E d f cs ((args.toList.map (opnd S)).zip ts.toList)).ev S = some out → Goes P o a w fun v w' => Did b S c w out v w')
    (h : (core E (opnd S) d o.op).ev S = some out) : Goes P o a w fun v w' => Did b S c w out v w' := by
  obtain ⟨dst, op, ty, pos, aft, gd⟩ := o
  simp only at h hcall
  unfold core at h
  split at h
  · rename_i x
    split at h
    · simp [Tr.ev] at h
    · simp [Tr.ev] at h
    · simp only [Tr.ev, Option.some.injEq] at h
      subst h
      exact goes_now rfl (Did.same hi (opnd_ok hs x))
  · rename_i x
    split at h
    · simp [Tr.ev] at h
    · simp [Tr.ev] at h
    · simp only [Tr.ev, Option.some.injEq] at h
      subst h
      exact goes_now rfl (Did.same hi (opnd_ok hs x))
  · rename_i cc x y
    split at h
    · rename_i cb hc
      have hb : a.eval cc = .bool cb := by
        have := opnd_ok hs cc
        rw [hc] at this
        exact bool_leaf (leaf_sv this)
      simp only [Tr.ev] at h
      refine goes_some ⟨if cb then a.eval x else a.eval y, w, ?_, ?_⟩
      · simp [execOp, hb, asBool]
      · split at h
        · rename_i hcb
          rw [if_pos hcb]
          split at h
          · simp [Tr.ev] at h
          · simp [Tr.ev] at h
          · simp only [Tr.ev, Option.some.injEq] at h
            subst h
            exact Did.same hi (opnd_ok hs x)
        · rename_i hcb
          rw [if_neg hcb]
          split at h
          · simp [Tr.ev] at h
          · simp [Tr.ev] at h
          · simp only [Tr.ev, Option.some.injEq] at h
            subst h
            exact Did.same hi (opnd_ok hs y)
    · simp [Tr.ev] at h
  · rename_i t
    split at h
    · rename_i ts ht
      simp only [Tr.ev, Option.some.injEq] at h
      subst h
      exact goes_value rfl (alloc_ok hT hi ht d hdn)
    · simp [Tr.ev] at h
  · rename_i t x
    split at h
    · rename_i ts ls ht hl
      split at h
      · simp only [Tr.ev, Option.some.injEq] at h
        subst h
        exact goes_value rfl (box_ok hi (opnd_ok hs x) hl d hdn)
      · simp [Tr.ev] at h
    · split at h
      · rename_i e u y ht hx
        simp only [Tr.ev, Option.some.injEq] at h
        subst h
        have hv := opnd_ok hs x
        rw [hx] at hv
        exact goes_value rfl (box_ptr_ok hi hv d hdn)
      · simp [Tr.ev] at h
  · rename_i t ps
    split at h
    · rename_i fs row eq ht
      split at h
      · rename_i ls hl
        simp only [Tr.ev, Option.some.injEq] at h
        subst h
        obtain ⟨u, h1, h2⟩ := build_ok (P := P) hT hi ht (parts_all hs ps.toList) (parts_zip ps.toList) hl
        rw [← parts_arr] at h1
        exact goes_value rfl ⟨u, w, h1, Did.same hi h2⟩
      · simp [Tr.ev] at h
    · simp [Tr.ev] at h
  · rename_i t len ps
    obtain ⟨u, w', h1, h2⟩ := buildSlice_ok (P := P) hT hi (parts_all hs ps.toList) (parts_zip ps.toList) h
    rw [← parts_arr] at h1
    exact goes_value rfl ⟨u, w', h1, h2⟩
  · rename_i t x
    split at h
    · rename_i a1 ts hx ht
      split at h
      · simp [Tr.ev] at h
      · rename_i hne
        simp only [ev_bind, Option.bind_eq_some_iff] at h
        obtain ⟨r, hr, h⟩ := h
        simp only [Tr.ev, Option.some.injEq] at h
        subst h
        have hv := opnd_ok hs x
        rw [hx] at hv
        have hpos : 0 < ts.length := by
          cases ts with
          | nil => simp at hne
          | cons _ _ => simp
        obtain ⟨u, h1, h2⟩ := load_ok (P := P) hT hi hv ht hr hpos
        exact goes_value rfl ⟨u, w, h1, Did.same hi h2⟩
    · rename_i a1 hx hn
      split at h
      · rename_i e ht
        simp only [ev_bind, Option.bind_eq_some_iff] at h
        obtain ⟨l, hl, h⟩ := h
        split at h
        · rename_i u o'
          cases o' with
          | none => simp [Tr.ev] at h
          | some y =>
            simp only [Tr.ev, Option.bind_some, Option.some.injEq] at h
            subst h
            have hv := opnd_ok hs x
            rw [hx] at hv
            obtain ⟨r, h1, h2⟩ := load_ptr_ok (P := P) hT hi hv ht hl
            exact goes_value rfl ⟨r, w, h1, Did.same hi h2⟩
        · simp [Tr.ev] at h
      · simp [Tr.ev] at h
    · simp [Tr.ev] at h
  · rename_i t p x
    split at h
    · rename_i a1 ts ls hx ht hl
      split at h
      · rename_i hn
        simp only [ev_bind, Option.bind_eq_some_iff, Tr.ev, Option.some.injEq] at h
        obtain ⟨r, hr, h⟩ := h
        subst h
        have hv := opnd_ok hs p
        rw [hx] at hv
        match a1, hv, hr with
        | .pl k off, hv, hr => exact goes_unit rfl (stPl_ok hT hi hv ht (opnd_ok hs x) hl hn hr)
        | .el k st, hv, hr => exact goes_unit rfl (stEl_ok hT hi hv ht (opnd_ok hs x) hl hn hr)
        | .one _, _, hr => simp [stCells, Tr.ev] at hr
        | .ag _, _, hr => simp [stCells, Tr.ev] at hr
        | .rp _ _ _, _, hr => simp [stCells, Tr.ev] at hr
        | .fv _ _, _, hr => simp [stCells, Tr.ev] at hr
      · simp [Tr.ev] at h
    · simp [Tr.ev] at h
  · rename_i x
    have hx := opnd_ok hs x
    split at h
    all_goals first
      | (simp [Tr.ev] at h; done)
      | skip
    · rename_i k off he
      simp only [Tr.ev, Option.some.injEq] at h
      subst h
      rw [he] at hx
      have hx' := hx
      obtain ⟨m, hm, hv⟩ := hx'
      refine goes_now (v := a.eval x) ?_ (Did.same hi hx)
      simp only [execOp, hv]
    · rename_i k st he
      simp only [Tr.ev, Option.some.injEq] at h
      subst h
      rw [he] at hx
      have hx' := hx
      obtain ⟨o0, ad, ho, had, hv, _⟩ := hx'
      refine goes_now (v := a.eval x) ?_ (Did.same hi hx)
      simp only [execOp, hv]
    · rename_i u y off he
      simp only [Tr.ev, Option.some.injEq] at h
      subst h
      rw [he] at hx
      have hx' := hx
      obtain ⟨ad, vs, hv, _⟩ := hx'
      refine goes_now (v := a.eval x) ?_ (Did.same hi hx)
      simp only [execOp, hv]
  · rename_i op t x y z
    split at h
    · rename_i l1 hx hy
      split at h
      · split at h
        · rename_i hsl
          simp only [ev_bind, Option.bind_eq_some_iff, Tr.ev, Option.some.injEq] at h
          obtain ⟨l, hl, h⟩ := h
          subst h
          have h1 := opnd_ok hs x
          have h2 := opnd_ok hs y
          rw [hx] at h1
          rw [hy] at h2
          obtain ⟨A, n, cap, hv, hlf⟩ := nil_ok hi (leaf_sv h1) hl
          have hy0 : a.eval y = .slice none 0 0 := h2
          obtain ⟨e, _, hu, _⟩ := sl_under' hT hsl
          refine goes_value rfl ⟨.bool A.isNone, w, ?_, Did.same hi (sv_leaf hlf)⟩
          rw [hv, hy0, guard_one .eql t x y rfl (by simp)]
          simp only [Sem.run_bind, Sem.run_pure, Result.andThen_ok]
          exact Lib.run_eql_slice_nil w t e A n cap 0 0 hu
        · simp [Tr.ev] at h
      · simp [Tr.ev] at h
    · rename_i e e2 hx hy
      have h1 := opnd_ok hs x
      rw [hx] at h1
      have hE := er_leaf (leaf_sv h1)
      split at h
      · rename_i ht
        simp only [Tr.ev, Option.some.injEq] at h
        subst h
        refine goes_value rfl ⟨.bool e, w, ?_, Did.same hi (sv_leaf mk_bool)⟩
        obtain ⟨ms, hu⟩ := err_under hT ht
        exact er_neq t x hE hu
      · simp [Tr.ev] at h
    · rename_i l1 l2 _ _ hx hy
      split at h
      · rename_i hb
        simp only [ev_bind, Option.bind_eq_some_iff, Tr.ev, Option.some.injEq] at h
        obtain ⟨l, hl, h⟩ := h
        subst h
        have h1 := opnd_ok hs x
        have h2 := opnd_ok hs y
        rw [hx] at h1
        rw [hy] at h2
        obtain ⟨r, h3, h4⟩ := vbin_ok (P := P) op t l1 l2 _ _ l (leaf_sv h1) (leaf_sv h2) hl (fun q hq => by
          subst hq
          cases ht : E.ti t with
          | cell u =>
            cases u with
            | bool => exact cell_bool hT ht
            | _ => rw [ht] at hb; simp [boolOk] at hb
          | _ => rw [ht] at hb; simp [boolOk] at hb)
        obtain ⟨g1, g2⟩ := vbin_val (leaf_sv h1) hl
        refine goes_value rfl ⟨r, w, ?_, Did.same hi (sv_leaf h4)⟩
        rw [guard_one op t x y g1 g2]
        simpa using h3
      · simp [Tr.ev] at h
    · rename_i xs ys hx hy
      have h1 := opnd_ok hs x
      have h2 := opnd_ok hs y
      rw [hx] at h1
      rw [hy] at h2
      obtain ⟨us, e1, k1⟩ := h1
      obtain ⟨vs, e2, k2⟩ := h2
      split at h
      · rename_i fs row ht
        obtain ⟨fields, f1, f2, f3, _⟩ := hT.struct ht
        obtain ⟨f4, f5, f6, f7⟩ := f3 rfl
        have hfo : P.fieldsOf t = fields := by simp [Program.fieldsOf, f1]
        split at h
        · rename_i r hr
          simp only [Tr.ev, Option.some.injEq] at h
          subst h
          have := agg_eql (w := w) t us vs fields f1 f6 (aggEq_ok (w := w) row fields.toList fs 0 xs ys us vs [] [] f4 f2 f5 rfl rfl k1 k2 hr)
          refine goes_value rfl ⟨.bool r, w, ?_, Did.same hi (sv_leaf mk_bool)⟩
          rw [e1, e2]
          simp only [Sem.run_bind, run_eqGuard_agg w _ _ _ _ _ _ f7, Result.andThen_ok, this.1]
        · rename_i r hr
          simp only [Tr.ev, Option.some.injEq] at h
          subst h
          have := agg_eql (w := w) t us vs fields f1 f6 (aggEq_ok (w := w) row fields.toList fs 0 xs ys us vs [] [] f4 f2 f5 rfl rfl k1 k2 hr)
          refine goes_value rfl ⟨.bool (!r), w, ?_, Did.same hi (sv_leaf mk_bool)⟩
          rw [e1, e2]
          simp only [Sem.run_bind, run_eqGuard_agg w _ _ _ _ _ _ f7, Result.andThen_ok, this.2]
        · simp [Tr.ev] at h
      · simp [Tr.ev] at h
    · simp [Tr.ev] at h
  · rename_i op t x
    split at h
    · rename_i l1 hx
      simp only [ev_bind, Option.bind_eq_some_iff, Tr.ev, Option.some.injEq] at h
      obtain ⟨l, hl, h⟩ := h
      subst h
      have h1 := opnd_ok hs x
      rw [hx] at h1
      obtain ⟨r, h3, h4⟩ := vun_ok (P := P) op l1 _ l (leaf_sv h1) hl
      exact goes_value rfl ⟨r, w, h3, Did.same hi (sv_leaf h4)⟩
    · simp [Tr.ev] at h
  · rename_i s t x
    split at h
    · rename_i l1 hx
      have h1 := opnd_ok hs x
      rw [hx] at h1
      exact goes_value rfl (conv_ok hT hi (leaf_sv h1) h)
    · simp [Tr.ev] at h
  · rename_i t l m
    exact goes_value rfl (makeSlice_ok hT hi (opnd_ok hs l) (opnd_ok hs m) h)
  · rename_i t x lo hi' mx
    split at h
    · rename_i l1 hx
      simp only [ev_bind, Option.bind_eq_some_iff, Tr.ev, Option.some.injEq] at h
      obtain ⟨r, hr, h⟩ := h
      subst h
      have h1 := opnd_ok hs x
      rw [hx] at h1
      obtain ⟨u, h2, h3⟩ := slice_ok (P := P) hT hi hs (leaf_sv h1) hr
      exact goes_value rfl ⟨u, w, h2, Did.same hi h3⟩
    · simp [Tr.ev] at h
  · rename_i t x f
    split at h
    · rename_i fs row eq ht
      have h1 := opnd_ok hs x
      split at h
      all_goals first
        | (simp [Tr.ev] at h; done)
        | skip
      · rename_i hf hx
        simp only [Tr.ev, Option.some.injEq] at h
        subst h
        rw [hx] at h1
        obtain ⟨u, h2, h3⟩ := fieldAddr_ok (P := P) hT ht hf h1 (.inl ⟨_, _, rfl, rfl⟩)
        exact goes_value rfl ⟨u, w, h2, Did.same hi h3⟩
      · rename_i hf hx
        simp only [Tr.ev, Option.some.injEq] at h
        subst h
        rw [hx] at h1
        obtain ⟨u, h2, h3⟩ := fieldAddr_ok (P := P) hT ht hf h1 (.inr (.inl ⟨_, _, rfl, rfl⟩))
        exact goes_value rfl ⟨u, w, h2, Did.same hi h3⟩
      · rename_i hf hx
        simp only [Tr.ev, Option.some.injEq] at h
        subst h
        rw [hx] at h1
        obtain ⟨u, h2, h3⟩ := fieldAddr_ok (P := P) hT ht hf h1 (.inr (.inr ⟨_, _, _, rfl, rfl⟩))
        exact goes_value rfl ⟨u, w, h2, Did.same hi h3⟩
    · simp [Tr.ev] at h
  · rename_i t x f
    split at h
    · rename_i fs row eq ls ht hx
      have h1 := opnd_ok hs x
      rw [hx] at h1
      split at h
      · rename_i o n hf
        simp only [Tr.ev, Option.some.injEq] at h
        subst h
        obtain ⟨u, h2, h3⟩ := field_ok (P := P) (w := w) hT ht hf h1 (r := .s (.ag ((ls.drop o).take n))) (by simp)
        exact goes_value rfl ⟨u, w, h2, Did.same hi h3⟩
      · rename_i o n hf
        split at h
        · rename_i l hl
          simp only [Tr.ev, Option.some.injEq] at h
          subst h
          obtain ⟨u, h2, h3⟩ := field_ok (P := P) (w := w) hT ht hf h1 (r := .s (.one l)) (by simpa using hl)
          exact goes_value rfl ⟨u, w, h2, Did.same hi h3⟩
        · simp [Tr.ev] at h
      · simp [Tr.ev] at h
    · simp [Tr.ev] at h
  · rename_i t x i
    split at h
    · rename_i l1 k n hx hn
      simp only [ev_bind, Option.bind_eq_some_iff, Tr.ev, Option.some.injEq] at h
      obtain ⟨r, hr, h⟩ := h
      subst h
      have h1 := opnd_ok hs x
      have h2 := opnd_ok hs i
      rw [hx] at h1
      rw [hn] at h2
      obtain ⟨u, h3, h4⟩ := index_ok (P := P) (k := k) hT hi (leaf_sv h1) hr
      refine goes_value (s := Instr.indexAt t (a.eval x) (a.eval i)) rfl ⟨u, w, ?_, Did.same hi h4⟩
      rw [int_leaf (leaf_sv h2)]; exact h3
    · simp [Tr.ev] at h
  · rename_i t x i
    split at h
    · rename_i s k n hx hn
      replace h := ev_iff h
      obtain ⟨c1, h⟩ := h
      replace h := ev_iff h
      obtain ⟨c2, h⟩ := h
      simp only [decide_eq_true_eq] at c2
      simp only [Tr.ev, Option.bind_eq_some_iff, Option.some.injEq] at h
      obtain ⟨u, hu, h⟩ := h
      subst h
      have h1 := opnd_ok hs x
      have h2 := opnd_ok hs i
      rw [hx] at h1
      rw [hn] at h2
      obtain ⟨h3, h4⟩ := index_str (P := P) (S := S) (c := c) (w := w) (K := Kok b S c) (k := k) (str_under hT c1) c2 hu
      refine goes_value (s := Instr.index t (a.eval x) (a.eval i)) rfl ⟨_, w, ?_, Did.same hi h4⟩
      rw [int_leaf (leaf_sv h2), str_leaf (leaf_sv h1)]; exact h3
    · simp [Tr.ev] at h
  · rename_i x i
    split at h
    · rename_i xs hx
      split at h
      · rename_i y hy
        simp only [Tr.ev, Option.some.injEq] at h
        subst h
        have h1 := opnd_ok hs x
        rw [hx] at h1
        obtain ⟨vs, hv, hall⟩ := h1
        obtain ⟨u, hu, h2⟩ := hall.get hy
        refine goes_value (s := Instr.extract (a.eval x) i) rfl ⟨u, w, ?_, Did.same hi h2⟩
        rw [hv]
        simp [Instr.extract, hu]
      · simp [Tr.ev] at h
    · simp [Tr.ev] at h
  · rename_i as ts
    split at h
    · rename_i x t has hts
      simp only [ev_bind, Option.bind_eq_some_iff, Tr.ev, Option.some.injEq] at h
      obtain ⟨n, hn, h⟩ := h
      subst h
      have hall := args_all hs as.toList
      rw [has] at hall
      generalize hus : as.toList.map a.eval = us at hall
      cases hall with
      | cons h1 h2 =>
        cases h2
        rename_i u
        have ha : as.map a.eval = #[u] := by apply Array.ext'; simp [hus]
        have ht : ts = #[t] := by apply Array.ext'; simp [hts]
        subst ht
        refine builtin_goes hs (s := Builtin.len_ #[t] ty (as.map a.eval)) (fun _ => rfl) ⟨goInt n, w, ?_, Did.same hi (sv_leaf mk_int)⟩
        rw [ha]
        rcases len_ok hi (leaf_sv h1) hn with ⟨s, rfl, hsz, hst⟩ | ⟨hsl, A, cap, rfl⟩
        · rw [run_len_string w t ty s (str_under hT hst), hsz]
        · obtain ⟨e, ie, hu, _⟩ := sl_under' hT hsl
          simp [Builtin.len_, run_underlying hu]
    · simp [Tr.ev] at h
  · rename_i as ts
    split at h
    · rename_i x y t t2 has hts
      have hall := args_all hs as.toList
      rw [has] at hall
      generalize hus : as.toList.map a.eval = us at hall
      cases hall with
      | cons h1 h2 =>
        cases h2 with
        | cons h2 h3 =>
          cases h3
          rename_i u v
          have ha : as.map a.eval = #[u, v] := by apply Array.ext'; simp [hus]
          have ht : ts = #[t, t2] := by apply Array.ext'; simp [hts]
          subst ht
          refine builtin_goes hs (s := Builtin.append_ #[t, t2] ty (as.map a.eval)) (fun _ => rfl) ?_
          rw [ha]
          exact append_ok hT hi (leaf_sv h1) (leaf_sv h2) h
    · simp [Tr.ev] at h
  · rename_i as ts
    split at h
    · rename_i x y t t2 has hts
      have hall := args_all hs as.toList
      rw [has] at hall
      generalize hus : as.toList.map a.eval = us at hall
      cases hall with
      | cons h1 h2 =>
        cases h2 with
        | cons h2 h3 =>
          cases h3
          rename_i u v
          have ha : as.map a.eval = #[u, v] := by apply Array.ext'; simp [hus]
          have ht : ts = #[t, t2] := by apply Array.ext'; simp [hts]
          subst ht
          refine builtin_goes hs (s := Builtin.copy_ #[t, t2] ty (as.map a.eval)) (fun _ => rfl) ?_
          rw [ha]
          exact copy_ok hT hi (leaf_sv h1) (leaf_sv h2) h
    · simp [Tr.ev] at h
  · rename_i as ts
    simp only [ev_bind, Option.bind_eq_some_iff, Tr.ev, Option.some.injEq] at h
    obtain ⟨r, hr, h⟩ := h
    subst h
    have ha : as.map a.eval = (as.toList.map a.eval).toArray := by apply Array.ext'; simp
    rcases minmax_ok (P := P) (w := w) ts ty (args_all hs as.toList) hr with ⟨_, u, h1, h2⟩ | ⟨h0, _⟩
    · refine builtin_goes hs (s := Builtin.min_ ts ty (as.map a.eval)) (fun _ => rfl) ⟨u, w, ?_, Did.same hi h2⟩
      rw [ha]; exact h1
    · cases h0
  · rename_i as ts
    simp only [ev_bind, Option.bind_eq_some_iff, Tr.ev, Option.some.injEq] at h
    obtain ⟨r, hr, h⟩ := h
    subst h
    have ha : as.map a.eval = (as.toList.map a.eval).toArray := by apply Array.ext'; simp
    rcases minmax_ok (P := P) (w := w) ts ty (args_all hs as.toList) hr with ⟨h0, _⟩ | ⟨_, u, h1, h2⟩
    · cases h0
    · refine builtin_goes hs (s := Builtin.max_ ts ty (as.map a.eval)) (fun _ => rfl) ⟨u, w, ?_, Did.same hi h2⟩
      rw [ha]; exact h1
  · rename_i fo as ts
    split at h
    · rename_i f cs hfo
      split at h
      · rename_i hsz
        exact hcall fo f cs as ts out rfl hfo hsz h
      · simp [Tr.ev] at h
    · simp [Tr.ev] at h
  · rename_i f first cs
    split at h
    · rename_i hf
      split at h
      · rename_i l hl
        simp only [Tr.ev, Option.some.injEq] at h
        subst h
        have hfirst : first = #[] := by simpa [Array.isEmpty_iff] using hf
        subst hfirst
        refine goes_value rfl ⟨_, w, rfl, Did.same hi ?_⟩
        refine ⟨cs.toList.map a.eval, by congr 1 <;> (apply Array.ext'; simp), ?_⟩
        have hall := args_all hs cs.toList
        revert hl hall
        generalize cs.toList.map (opnd S) = xs
        generalize cs.toList.map a.eval = vs
        intro hl hall
        exact pls_all hall hl
      · simp [Tr.ev] at h
    · simp [Tr.ev] at h
  · simp [Tr.ev] at h
end
end Go.V

namespace Go.V
open Go.RowKit
structure New where
  o : Own
  h : Value
  F : List Nat
theorem Inv.many {b : Base} {S S' : St} {c : Cc} {w w' : World} (hi : Inv b S w c) (news : Nat → Option New) (gs rws : List Nat) (ks : List Kl)
    (how : ∀ k, S'.ow k = match news k with | some n => some n.o | none => if k ∈ gs then none else S.ow k) (hms : S'.ms = S.ms) (hmc : ∀ k i, k ∉ rws → S'.mc k i = (S.mc k i).kp ks)
    (hgs : ∀ k o, S.ow k = some o → (k ∈ gs ∨ news k ≠ none) → .all k ∈ ks ∨ (.deep k ∈ ks ∧ ∃ n xs', news k = some n ∧ n.h = c.hv k ∧ n.o = ⟨o.e, o.r, xs'⟩ ∧ xs'.length = o.xs.length))
    (hst : Step w w' fun g => (∃ k, k ∈ gs ∧ S.ow k ≠ none ∧ g ∈ c.F k) ∨ ∃ k, k ∈ rws ∧ S.ms k ≠ none ∧ c.mb k = g)
    (hF : ∀ k n, news k = some n → ∀ g, g ∈ n.F → g < w'.heap.size ∧ ((∃ k, k ∈ gs ∧ S.ow k ≠ none ∧ g ∈ c.F k) ∨ w.heap.size ≤ g))
    (hnd : ∀ k n, news k = some n → n.F.Nodup) (hdis : ∀ k n k' n', k ≠ k' → news k = some n → news k' = some n' → ∀ g, g ∈ n.F → g ∉ n'.F)
    (hR : ∀ K', KSame w w' (Kok b S c) K' → (∀ g, (w.heap.size ≤ g ∨ ∃ k, k ∈ gs ∧ S.ow k ≠ none ∧ g ∈ c.F k) → (∀ k n, news k = some n → g ∉ n.F) → K' g) → ∀ k n, news k = some n → Rp w' K' (.sl true n.o.e n.o.r) n.o.xs [n.h] n.F)
    (hrow : ∀ K' c', KSame w w' (Kok b S c) K' → (∀ g, (w.heap.size ≤ g ∨ ∃ k, k ∈ gs ∧ S.ow k ≠ none ∧ g ∈ c.F k) → (∀ k n, news k = some n → g ∉ n.F) → K' g) → (∀ k n, news k = some n → c'.hv k = n.h) → ∀ k n, k ∈ rws → S.ms k = some n →
      ∃ cs e fr, w'.heap[c.mb k]? = some (.cells cs e fr) ∧ cs.size = n ∧ NF fr cs.size ∧ ∀ i v, cs[i]? = some v → LeafOk S' c' w' K' (S'.mc k i) v) :
    ∃ c', c'.mb = c.mb ∧ (∀ k n, news k = some n → c'.hv k = n.h ∧ c'.F k = n.F) ∧ Inv b S' w' c' ∧ Stay S S' c c' w w' (Kok b S c) (Kok b S' c') ks ∧
      ∀ g, (w.heap.size ≤ g ∨ ∃ k, k ∈ gs ∧ S.ow k ≠ none ∧ g ∈ c.F k) → (∀ k n, news k = some n → g ∉ n.F) → Kok b S' c' g := by
  let c' : Cc := ⟨c.mb, fun k => match news k with | some n => n.h | none => c.hv k, fun k => match news k with | some n => n.F | none => c.F k⟩
  have hcF : ∀ k, news k = none → c'.F k = c.F k := fun k hk => by simp [c', hk]
  have hch : ∀ k, news k = none → c'.hv k = c.hv k := fun k hk => by simp [c', hk]
  have hcN : ∀ k n, news k = some n → c'.hv k = n.h ∧ c'.F k = n.F := fun k n hk => by simp [c', hk]
  have hT : ∀ g, ((∃ k, k ∈ gs ∧ S.ow k ≠ none ∧ g ∈ c.F k) ∨ ∃ k, k ∈ rws ∧ S.ms k ≠ none ∧ c.mb k = g) → Owned S c g := by
    rintro g (⟨k, _, h1, h2⟩ | ⟨k, _, h1, h2⟩)
    · exact .inr ⟨k, h1, h2⟩
    · exact .inl ⟨k, h1, h2⟩
  have hkept : ∀ k, news k = none → S'.ow k ≠ none → k ∉ gs ∧ S.ow k ≠ none := by
    intro k hk h
    rw [how, hk] at h
    by_cases hg : k ∈ gs
    · simp [hg] at h
    · exact ⟨hg, by simpa [hg] using h⟩
  have hown : ∀ g, Owned S' c' g → Owned S c g ∨ w.heap.size ≤ g := by
    rintro g (⟨k, hk, rfl⟩ | ⟨k, hk, hg⟩)
    · exact .inl (.inl ⟨k, by rw [hms] at hk; exact hk, rfl⟩)
    · cases hn : news k with
      | some n =>
        rw [(hcN k n hn).2] at hg
        rcases (hF k n hn g hg).2 with ⟨k2, h1, h2, h3⟩ | h
        · exact .inl (.inr ⟨k2, h2, h3⟩)
        · exact .inr h
      | none =>
        rw [hcF k hn] at hg
        exact .inl (.inr ⟨k, (hkept k hn hk).2, hg⟩)
  have kk : KSame w w' (Kok b S c) (Kok b S' c') := ksame hst hT hown
  have hsame : ∀ k, k ∉ gs → S.ow k ≠ none → Same w w' (c.F k) := fun k hg ho g hgF => hst.same g (hi.fr g (.inr ⟨k, ho, hgF⟩)).1 (by
    rintro (⟨k2, h1, h2, h3⟩ | ⟨k2, h1, h2, h3⟩)
    · have hne : k ≠ k2 := by rintro rfl; exact hg h1
      exact hi.oo k k2 hne ho h2 g hgF h3
    · subst h3; exact hi.mo k2 k h2 ho hgF)
  have stay : Stay S S' c c' w w' (Kok b S c) (Kok b S' c') ks := by
    refine Stay.of hi ?_ ?_ kk
    · intro k o ho
      have hcase : (k ∈ gs ∨ news k ≠ none) → _ := hgs k o ho
      cases hn : news k with
      | some n =>
        rcases hcase (.inr (by rw [hn]; simp)) with h | ⟨h1, n', xs', h2, h3, h4, h5⟩
        · exact .inl h
        · refine .inr (.inr ⟨h1, ?_, xs', ?_, h5⟩)
          · rw [(hcN k n' h2).1, h3]
          · rw [how, h2]; simp [h4]
      | none =>
        by_cases hg : k ∈ gs
        · rcases hcase (.inl hg) with h | ⟨_, n', _, h2, _⟩
          · exact .inl h
          · rw [hn] at h2; cases h2
        · exact .inr (.inl ⟨by rw [how, hn]; simp [hg, ho], hch k hn, hsame k hg (by rw [ho]; simp)⟩)
    · intro k n hn
      exact .inr ⟨by rw [hms]; exact hn, rfl⟩
  have hfree : ∀ g, (w.heap.size ≤ g ∨ ∃ k, k ∈ gs ∧ S.ow k ≠ none ∧ g ∈ c.F k) → (∀ k n, news k = some n → g ∉ n.F) → Kok b S' c' g := by
    rintro g (hg | ⟨k, hk, hko, hkg⟩) hgF
    · refine ⟨.inr (.inl (Nat.le_trans hi.size hg)), ?_⟩
      rintro (⟨k2, h1, h9⟩ | ⟨k2, h1, h2⟩)
      · rw [hms] at h1
        have := (hi.fr (c.mb k2) (.inl ⟨k2, h1, rfl⟩)).1
        have h8 : c'.mb k2 = c.mb k2 := rfl
        omega
      · cases hn : news k2 with
        | some n => rw [(hcN k2 n hn).2] at h2; exact hgF k2 n hn h2
        | none =>
          rw [hcF k2 hn] at h2
          have := (hi.fr g (.inr ⟨k2, (hkept k2 hn h1).2, h2⟩)).1
          omega
    · refine ⟨.inr (hi.fr g (.inr ⟨k, hko, hkg⟩)).2, ?_⟩
      rintro (⟨k2, h1, h9⟩ | ⟨k2, h1, h2⟩)
      · rw [hms] at h1
        exact hi.mo k2 k h1 hko (by rw [show c.mb k2 = g from h9]; exact hkg)
      · cases hn : news k2 with
        | some n => rw [(hcN k2 n hn).2] at h2; exact hgF k2 n hn h2
        | none =>
          rw [hcF k2 hn] at h2
          have h5 := hkept k2 hn h1
          exact hi.oo k k2 (by rintro rfl; exact h5.1 hk) hko h5.2 g hkg h2
  refine ⟨c', rfl, hcN, ?_, stay, hfree⟩
  refine ⟨?_, ?_, ?_, ?_, ?_, ?_, ?_, hi.fix' hst hT, hst.os.trans hi.os, hst.tape.trans hi.tape, hst.output.trans hi.output, Nat.le_trans hi.size hst.size, hi.an⟩
  · intro k n hn
    rw [hms] at hn
    by_cases hk : k ∈ rws
    · exact hrow _ c' kk hfree (fun k n h => (hcN k n h).1) k n hk hn
    · obtain ⟨cs, e, fr, h1, h2, h3, h4⟩ := hi.ms k n hn
      refine ⟨cs, e, fr, ?_, h2, h3, fun i u hu => by rw [hmc k i hk]; exact stay.leaf (h4 i u hu)⟩
      show w'.heap[c.mb k]? = _
      rw [hst.same _ (lt_size h1) (by
        rintro (⟨k2, _, h5, h6⟩ | ⟨k2, h4, h5, h6⟩)
        · exact hi.mo k k2 (by rw [hn]; simp) h5 h6
        · have hne : k ≠ k2 := by rintro rfl; exact hk h4
          exact hi.mm k k2 hne (by rw [hn]; simp) h5 h6.symm)]
      exact h1
  · intro k o ho
    cases hn : news k with
    | some n =>
      rw [how, hn] at ho
      injection ho with ho
      subst ho
      rw [(hcN k n hn).1, (hcN k n hn).2]
      exact hR _ kk hfree k n hn
    | none =>
      have h1 := hkept k hn (by rw [ho]; simp)
      rw [how, hn] at ho
      simp only [h1.1, if_false] at ho
      rw [hch k hn, hcF k hn]
      exact Rp.frame kk _ _ (hi.ow k o ho) (hsame k h1.1 h1.2)
  · intro k hk
    cases hn : news k with
    | some n => rw [(hcN k n hn).2]; exact hnd k n hn
    | none => rw [hcF k hn]; exact hi.nd k (hkept k hn hk).2
  · intro k1 k2 hne h1 h2 g hg
    cases hn1 : news k1 with
    | some n1 =>
      rw [(hcN k1 n1 hn1).2] at hg
      cases hn2 : news k2 with
      | some n2 => rw [(hcN k2 n2 hn2).2]; exact hdis k1 n1 k2 n2 hne hn1 hn2 g hg
      | none =>
        have h4 := hkept k2 hn2 h2
        rw [hcF k2 hn2]
        rcases (hF k1 n1 hn1 g hg).2 with ⟨k3, h5, h6, h7⟩ | h5
        · have hne3 : k3 ≠ k2 := by rintro rfl; exact h4.1 h5
          exact hi.oo k3 k2 hne3 h6 h4.2 g h7
        · intro hx
          have := (hi.fr g (.inr ⟨k2, h4.2, hx⟩)).1
          omega
    | none =>
      have h3 := hkept k1 hn1 h1
      rw [hcF k1 hn1] at hg
      cases hn2 : news k2 with
      | some n2 =>
        rw [(hcN k2 n2 hn2).2]
        intro hx
        rcases (hF k2 n2 hn2 g hx).2 with ⟨k3, h5, h6, h7⟩ | h5
        · have hne3 : k1 ≠ k3 := by rintro rfl; exact h3.1 h5
          exact hi.oo k1 k3 hne3 h3.2 h6 g hg h7
        · have := (hi.fr g (.inr ⟨k1, h3.2, hg⟩)).1
          omega
      | none =>
        rw [hcF k2 hn2]
        exact hi.oo k1 k2 hne h3.2 (hkept k2 hn2 h2).2 g hg
  · intro k1 k2 hne h1 h2; rw [hms] at h1 h2; exact hi.mm k1 k2 hne h1 h2
  · intro k1 k2 h1 h2
    rw [hms] at h1
    cases hn2 : news k2 with
    | some n2 =>
      rw [(hcN k2 n2 hn2).2]
      intro hx
      rcases (hF k2 n2 hn2 _ hx).2 with ⟨k3, _, h6, h7⟩ | h5
      · exact hi.mo k1 k3 h1 h6 h7
      · have := (hi.fr (c.mb k1) (.inl ⟨k1, h1, rfl⟩)).1
        have h9 : c'.mb k1 = c.mb k1 := rfl
        omega
    | none => rw [hcF k2 hn2]; exact hi.mo k1 k2 h1 (hkept k2 hn2 h2).2
  · intro g hg
    refine ⟨?_, ?_⟩
    · rcases hg with ⟨k, hk, rfl⟩ | ⟨k, hk, hg⟩
      · rw [hms] at hk
        exact Nat.lt_of_lt_of_le (hi.fr (c.mb k) (.inl ⟨k, hk, rfl⟩)).1 hst.size
      · cases hn : news k with
        | some n => rw [(hcN k n hn).2] at hg; exact (hF k n hn g hg).1
        | none =>
          rw [hcF k hn] at hg
          exact Nat.lt_of_lt_of_le (hi.fr g (.inr ⟨k, (hkept k hn hk).2, hg⟩)).1 hst.size
    · rcases hown g hg with h | h
      · exact (hi.fr g h).2
      · exact .inl (Nat.le_trans hi.size h)
end Go.V
