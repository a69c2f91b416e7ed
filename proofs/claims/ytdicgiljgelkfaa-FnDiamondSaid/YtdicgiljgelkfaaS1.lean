/-
  S1: what it means that values in memory stand for data: 'Rp'; reading and writing one cell of an element.
-/
import Derived.Test.YtdicgiljgelkfaaV3
namespace Go.V

theorem add_blk (g off n : Nat) : (⟨g, off, none⟩ : Addr).add n = ⟨g, off + n, none⟩ := by
  unfold Addr.add; split
  · subst_vars; rfl
  · rfl
theorem add_add (a : Addr) (i j : Nat) : (a.add i).add j = a.add (i + j) := by
  unfold Addr.add
  by_cases hi : i = 0
  · subst hi; simp
  · by_cases hj : j = 0
    · subst hj; simp [hi]
    · have : ¬ (i + j = 0) := by omega
      simp only [hi, hj, this, if_false]
      congr 1; omega
theorem cell_blk {w : World} {g : Nat} {cs : Array Value} {e : TypeId} {fr : Nat × Nat} (h : w.heap[g]? = some (.cells cs e fr)) (i : Nat) : w.cell? ⟨g, i, none⟩ = cs[i]? := by
  unfold World.cell?; rw [h]; rfl
theorem frozen_blk {w : World} {g : Nat} {cs : Array Value} {e : TypeId} {fr : Nat × Nat} (h : w.heap[g]? = some (.cells cs e fr)) (hf : ∀ i, i < cs.size → ¬ (fr.1 ≤ i ∧ i < fr.2)) {i : Nat} (hi : i < cs.size) : w.frozen? ⟨g, i, none⟩ = false := by
  unfold World.frozen?; rw [h]
  have := hf i hi
  simp only [Bool.and_eq_false_iff, decide_eq_false_iff_not]
  omega
theorem setCell_blk {w : World} {g : Nat} {cs : Array Value} {e : TypeId} {fr : Nat × Nat} (h : w.heap[g]? = some (.cells cs e fr)) (i : Nat) (v : Value) :
    (w.setCell ⟨g, i, none⟩ v).heap[g]? = some (.cells (cs.setIfInBounds i v) e fr) := by
  simp only [World.setCell, Array.getElem?_modify, if_true, h, Option.map_some]
  rfl
theorem lt_size {w : World} {g : Nat} {o : Obj} (h : w.heap[g]? = some o) : g < w.heap.size := (Array.getElem?_eq_some_iff.1 h).1

/-! ### rows -/
def RpL {α : Type} (p : α → List Value → List Nat → Prop) : List α → List Value → List Nat → Prop
  | [], vs, F => vs = [] ∧ F = []
  | x :: xs, vs, F => ∃ v1 v2 F1 F2, vs = v1 ++ v2 ∧ F = F1 ++ F2 ∧ p x v1 F1 ∧ RpL p xs v2 F2

/-- nothing of a block may be written by no one: no cell of it is frozen -/
def NF (fr : Nat × Nat) (n : Nat) : Prop := ∀ i, i < n → ¬ (fr.1 ≤ i ∧ i < fr.2)

def Rp (w : World) (K : Nat → Prop) : (t : Ty) → t.D → List Value → List Nat → Prop
  | .int k, n, vs, F => vs = [.int k n] ∧ F = []
  | .bool, b, vs, F => vs = [.bool b] ∧ F = []
  | .str, s, vs, F => vs = [.string ⟨s.toArray⟩] ∧ F = []
  | .unit, _, vs, F => vs = [] ∧ F = []
  | .pair a b, x, vs, F => ∃ v1 v2 F1 F2, vs = v1 ++ v2 ∧ F = F1 ++ F2 ∧ Rp w K a x.1 v1 F1 ∧ Rp w K b x.2 v2 F2
  | .sl true e r, xs, vs, F => (xs = [] ∧ F = [] ∧ vs = [.slice none 0 0]) ∨
      ∃ g off c cs fr F', vs = [.slice (some ⟨g, off, none⟩) (List.length xs) c] ∧ F = g :: F' ∧ w.heap[g]? = some (.cells cs e fr) ∧ NF fr cs.size ∧
        off + c * r.size ≤ cs.size ∧ List.length xs ≤ c ∧ RpL (Rp w K r) xs ((cs.toList.drop off).take (List.length xs * r.size)) F'
  | .sl false _ r, xs, vs, F => F = [] ∧ ∃ A c ws, vs = [.slice A (List.length xs) c] ∧ List.length xs ≤ c ∧ RpL (Rp w K r) xs ws [] ∧
      (xs = [] ∨ ∃ ad, A = some ad ∧ K ad.block ∧ ad.block < w.heap.size ∧ ∀ j, j < ws.length → w.cell? (ad.add j) = ws[j]?)

section
variable {α : Type} {p q : α → List Value → List Nat → Prop}
theorem RpL.mono (h : ∀ x vs F, p x vs F → q x vs F) : ∀ {xs : List α} {vs F}, RpL p xs vs F → RpL q xs vs F
  | [], _, _, hx => hx
  | _ :: _, _, _, ⟨v1, v2, F1, F2, e1, e2, h1, h2⟩ => ⟨v1, v2, F1, F2, e1, e2, h _ _ _ h1, RpL.mono h h2⟩
theorem RpL.len {n : Nat} (h : ∀ x vs F, p x vs F → vs.length = n) : ∀ {xs : List α} {vs F}, RpL p xs vs F → vs.length = xs.length * n
  | [], _, _, ⟨e, _⟩ => by subst e; simp
  | x :: xs, _, _, ⟨v1, v2, F1, F2, e1, _, h1, h2⟩ => by
    have a := h _ _ _ h1; have b := RpL.len h h2
    subst e1
    simp only [List.length_append, List.length_cons, a, b, Nat.succ_mul]; omega
theorem RpL.append : ∀ {xs ys : List α} {vs ws F G}, RpL p xs vs F → RpL p ys ws G → RpL p (xs ++ ys) (vs ++ ws) (F ++ G)
  | [], _, _, _, _, _, ⟨e1, e2⟩, h => by subst e1 e2; exact h
  | _ :: _, _, _, _, _, _, ⟨v1, v2, F1, F2, e1, e2, h1, h2⟩, h => by
    subst e1 e2
    exact ⟨v1, _, F1, _, List.append_assoc .., List.append_assoc .., h1, RpL.append h2 h⟩
theorem RpL.split : ∀ {xs ys : List α} {vs F}, RpL p (xs ++ ys) vs F → ∃ v1 v2 F1 F2, vs = v1 ++ v2 ∧ F = F1 ++ F2 ∧ RpL p xs v1 F1 ∧ RpL p ys v2 F2
  | [], _, vs, F, h => ⟨[], vs, [], F, rfl, rfl, ⟨rfl, rfl⟩, h⟩
  | _ :: _, _, _, _, ⟨v1, v2, F1, F2, e1, e2, h1, h2⟩ => by
    obtain ⟨a, b, c, d, e3, e4, h3, h4⟩ := RpL.split h2
    subst e1 e2 e3 e4
    exact ⟨v1 ++ a, b, F1 ++ c, d, (List.append_assoc ..).symm, (List.append_assoc ..).symm, ⟨v1, a, F1, c, rfl, rfl, h1, h3⟩, h4⟩
theorem RpL.get {n : Nat} (hn : ∀ x vs F, p x vs F → vs.length = n) : ∀ {xs : List α} {vs F} {i : Nat} {x : α}, RpL p xs vs F → xs[i]? = some x →
    ∃ v1 v v2 F1 G F2, vs = v1 ++ (v ++ v2) ∧ v1.length = i * n ∧ F = F1 ++ (G ++ F2) ∧ p x v G ∧
      RpL p (xs.take i) v1 F1 ∧ RpL p (xs.drop (i + 1)) v2 F2
  | [], _, _, i, _, _, hi => by simp at hi
  | y :: ys, _, _, 0, x, ⟨v1, v2, F1, F2, e1, e2, h1, h2⟩, hi => by
    simp only [List.getElem?_cons_zero, Option.some.injEq] at hi
    subst hi e1 e2
    exact ⟨[], v1, v2, [], F1, F2, rfl, by simp, rfl, h1, ⟨rfl, rfl⟩, h2⟩
  | y :: ys, _, _, i + 1, x, ⟨v1, v2, F1, F2, e1, e2, h1, h2⟩, hi => by
    simp only [List.getElem?_cons_succ] at hi
    obtain ⟨a, v, b, G1, G, G2, e3, hl, e4, hp, ht, hd⟩ := RpL.get hn h2 hi
    subst e1 e2 e3 e4
    refine ⟨v1 ++ a, v, b, F1 ++ G1, G, G2, by simp, ?_, by simp, hp, ⟨v1, a, F1, G1, rfl, rfl, h1, ht⟩, by simpa using hd⟩
    rw [List.length_append, hn _ _ _ h1, hl, Nat.succ_mul]; omega
theorem RpL.set {xs : List α} {i : Nat} {x y : α} (hi : xs[i]? = some x) {v1 v2 v F1 F2 G} (ht : RpL p (xs.take i) v1 F1) (hd : RpL p (xs.drop (i + 1)) v2 F2) (hy : p y v G) :
    RpL p (xs.set i y) (v1 ++ (v ++ v2)) (F1 ++ (G ++ F2)) := by
  have hlt : i < xs.length := (List.getElem?_eq_some_iff.1 hi).1
  rw [List.set_eq_take_append_cons_drop, if_pos hlt]
  exact RpL.append ht ⟨v, v2, G, F2, rfl, rfl, hy, hd⟩
end

theorem Rp.len {w : World} {K : Nat → Prop} : ∀ (t : Ty) (x : t.D) {vs F}, Rp w K t x vs F → vs.length = t.size
  | .int _, _, _, _, h => by simp only [Rp] at h; simp [h.1, Ty.size]
  | .bool, _, _, _, h => by simp only [Rp] at h; simp [h.1, Ty.size]
  | .str, _, _, _, h => by simp only [Rp] at h; simp [h.1, Ty.size]
  | .unit, _, _, _, h => by simp only [Rp] at h; simp [h.1, Ty.size]
  | .pair a b, x, _, _, h => by
    simp only [Rp] at h
    obtain ⟨v1, v2, F1, F2, rfl, _, h1, h2⟩ := h
    simp [Ty.size, Rp.len a _ h1, Rp.len b _ h2]
  | .sl true _ r, _, _, _, h => by
    simp only [Rp] at h
    rcases h with ⟨_, _, rfl⟩ | ⟨g, off, c, cs, fr, F', rfl, _⟩ <;> simp [Ty.size]
  | .sl false _ r, _, _, _, h => by
    simp only [Rp] at h
    obtain ⟨_, A, c, ws, rfl, _⟩ := h
    simp [Ty.size]

/-! ### what is left alone stays -/
def Same (w w' : World) (F : List Nat) : Prop := ∀ g ∈ F, w'.heap[g]? = w.heap[g]?
/-- the blocks that may be read by anyone: they are as they were -/
def KSame (w w' : World) (K K' : Nat → Prop) : Prop := w.heap.size ≤ w'.heap.size ∧ ∀ g, K g → g < w.heap.size → w'.heap[g]? = w.heap[g]? ∧ K' g
theorem KSame.refl (w : World) (K : Nat → Prop) : KSame w w K K := ⟨Nat.le_refl _, fun _ h _ => ⟨rfl, h⟩⟩
theorem cell_same {w w' : World} {a : Addr} (h : w'.heap[a.block]? = w.heap[a.block]?) : w'.cell? a = w.cell? a := by
  unfold World.cell?; rw [h]
theorem add_block (a : Addr) (n : Nat) : (a.add n).block = a.block := by unfold Addr.add; split <;> rfl

theorem Rp.frame {w w' : World} {K K' : Nat → Prop} (hK : KSame w w' K K') : ∀ (t : Ty) (x : t.D) {vs F}, Rp w K t x vs F → Same w w' F → Rp w' K' t x vs F
  | .int _, _, _, _, h, _ => by simp only [Rp] at h ⊢; exact h
  | .bool, _, _, _, h, _ => by simp only [Rp] at h ⊢; exact h
  | .str, _, _, _, h, _ => by simp only [Rp] at h ⊢; exact h
  | .unit, _, _, _, h, _ => by simp only [Rp] at h ⊢; exact h
  | .pair a b, x, _, _, h, hF => by
    simp only [Rp] at h ⊢
    obtain ⟨v1, v2, F1, F2, rfl, rfl, h1, h2⟩ := h
    exact ⟨v1, v2, F1, F2, rfl, rfl, Rp.frame hK a _ h1 fun g hg => hF g (by simp [hg]), Rp.frame hK b _ h2 fun g hg => hF g (by simp [hg])⟩
  | .sl true _ r, xs, _, _, h, hF => by
    simp only [Rp] at h ⊢
    rcases h with h | ⟨g, off, c, cs, fr, F', rfl, rfl, hh, hn, hc, hl, hr⟩
    · exact .inl h
    · refine .inr ⟨g, off, c, cs, fr, F', rfl, rfl, by rw [hF g (by simp)]; exact hh, hn, hc, hl, ?_⟩
      have key : ∀ (ys : List r.D) (us : List Value) (G : List Nat), Same w w' G → RpL (Rp w K r) ys us G → RpL (Rp w' K' r) ys us G := by
        intro ys
        induction ys with
        | nil => intro us G _ h; exact h
        | cons y ys ih =>
          rintro us G hG ⟨v1, v2, F1, F2, rfl, rfl, h1, h2⟩
          exact ⟨v1, v2, F1, F2, rfl, rfl, Rp.frame hK r y h1 fun g hg => hG g (by simp [hg]), ih _ _ (fun g hg => hG g (by simp [hg])) h2⟩
      exact key _ _ _ (fun g hg => hF g (by simp [hg])) hr
  | .sl false _ r, xs, _, _, h, _ => by
    simp only [Rp] at h ⊢
    obtain ⟨rfl, A, c, ws, rfl, hle, hr, hx⟩ := h
    refine ⟨rfl, A, c, ws, rfl, hle, ?_, ?_⟩
    · have key : ∀ (ys : List r.D) (us : List Value) (G : List Nat), Same w w' G → RpL (Rp w K r) ys us G → RpL (Rp w' K' r) ys us G := by
        intro ys
        induction ys with
        | nil => intro us G _ h; exact h
        | cons y ys ih =>
          rintro us G hG ⟨v1, v2, F1, F2, rfl, rfl, h1, h2⟩
          exact ⟨v1, v2, F1, F2, rfl, rfl, Rp.frame hK r y h1 fun g hg => hG g (by simp [hg]), ih _ _ (fun g hg => hG g (by simp [hg])) h2⟩
      exact key _ _ _ (fun g hg => by cases hg) hr
    · rcases hx with hx | ⟨ad, e, h1, h2, h3⟩
      · exact .inl hx
      · obtain ⟨h4, h5⟩ := hK.2 _ h1 h2
        exact .inr ⟨ad, e, h5, Nat.lt_of_lt_of_le h2 hK.1, fun j hj => (cell_same (w := w) (w' := w') (a := ad.add j) (by rw [add_block]; exact h4)).trans (h3 j hj)⟩
theorem RpL.frame {w w' : World} {K K' : Nat → Prop} (hK : KSame w w' K K') (r : Ty) : ∀ (ys : List r.D) (us : List Value) (G : List Nat), Same w w' G → RpL (Rp w K r) ys us G → RpL (Rp w' K' r) ys us G := by
  intro ys
  induction ys with
  | nil => intro us G _ h; exact h
  | cons y ys ih =>
    rintro us G hG ⟨v1, v2, F1, F2, rfl, rfl, h1, h2⟩
    exact ⟨v1, v2, F1, F2, rfl, rfl, Rp.frame hK r y h1 fun g hg => hG g (by simp [hg]), ih _ _ (fun g hg => hG g (by simp [hg])) h2⟩

/-! ### one cell of a row -/
theorem cellAt_size : ∀ (t : Ty) (x : t.D) (j : Nat) {c}, cellAt t x j = some c → c.1.size = 1
  | .pair a b, (x, y), j, c, h => by
    simp only [cellAt] at h
    split at h
    · exact cellAt_size a x j h
    · exact cellAt_size b y _ h
  | .unit, _, _, _, h => by simp [cellAt] at h
  | .int _, _, 0, _, h => by simp only [cellAt, Option.some.injEq] at h; subst h; rfl
  | .bool, _, 0, _, h => by simp only [cellAt, Option.some.injEq] at h; subst h; rfl
  | .str, _, 0, _, h => by simp only [cellAt, Option.some.injEq] at h; subst h; rfl
  | .sl _ _ _, _, 0, _, h => by simp only [cellAt, Option.some.injEq] at h; subst h; rfl
  | .int _, _, _ + 1, _, h => by simp [cellAt] at h
  | .bool, _, _ + 1, _, h => by simp [cellAt] at h
  | .str, _, _ + 1, _, h => by simp [cellAt] at h
  | .sl _ _ _, _, _ + 1, _, h => by simp [cellAt] at h

theorem leaf_cell {w : World} {K : Nat → Prop} {t : Ty} {x : t.D} {vs F} (hs : t.size = 1) (h : Rp w K t x vs F) : ∃ v, vs = [v] := by
  have := Rp.len t x h
  rw [hs] at this
  match vs, this with
  | [v], _ => exact ⟨v, rfl⟩

theorem setCell_leaf {t : Ty} {x z : t.D} (hp : ∀ a b, t ≠ .pair a b) (hu : t ≠ .unit) {u : Ty} {zz : u.D} {y : t.D} (h : setCell t x 0 u zz = some y) : ∃ e : u = t, y = e ▸ zz := by
  cases t with
  | pair a b => exact absurd rfl (hp a b)
  | unit => exact absurd rfl hu
  | _ => simp only [setCell] at h; split at h <;> simp_all

theorem Rp.cell {w : World} {K : Nat → Prop} : ∀ (t : Ty) (x : t.D) (j : Nat) {c : (u : Ty) × u.D} {vs F}, Rp w K t x vs F → cellAt t x j = some c →
    ∃ pre v post Fa G Fb, vs = pre ++ ([v] ++ post) ∧ pre.length = j ∧ F = Fa ++ (G ++ Fb) ∧ Rp w K c.1 c.2 [v] G ∧
      ∀ (w' : World) (K' : Nat → Prop) (y : c.1.D) (v' : Value) (G' : List Nat) (x' : t.D), setCell t x j c.1 y = some x' → Rp w' K' c.1 y [v'] G' → KSame w w' K K' →
        Same w w' Fa → Same w w' Fb → Rp w' K' t x' (pre ++ ([v'] ++ post)) (Fa ++ (G' ++ Fb))
  | .pair a b, (x, y), j, c, vs, F, h, hc => by
    simp only [Rp] at h
    obtain ⟨v1, v2, F1, F2, rfl, rfl, h1, h2⟩ := h
    have l1 := Rp.len a _ h1
    simp only [cellAt] at hc
    split at hc
    · rename_i hj
      obtain ⟨pre, v, post, Fa, G, Fb, rfl, hl, rfl, hv, hset⟩ := Rp.cell a x j h1 hc
      refine ⟨pre, v, post ++ v2, Fa, G, Fb ++ F2, by simp, hl, by simp, hv, ?_⟩
      intro w' K' z v' G' x' hs hz hK sa sb
      simp only [setCell, if_pos hj, Option.map_eq_some_iff] at hs
      obtain ⟨xa, hxa, rfl⟩ := hs
      simp only [Rp]
      refine ⟨pre ++ ([v'] ++ post), v2, Fa ++ (G' ++ Fb), F2, by simp, by simp, hset w' K' z v' G' xa hxa hz hK sa (fun g hg => sb g (by simp [hg])), ?_⟩
      exact Rp.frame hK b _ h2 fun g hg => sb g (by simp [hg])
    · rename_i hj
      obtain ⟨pre, v, post, Fa, G, Fb, rfl, hl, rfl, hv, hset⟩ := Rp.cell b y _ h2 hc
      refine ⟨v1 ++ pre, v, post, F1 ++ Fa, G, Fb, by simp, by rw [List.length_append]; omega, by simp, hv, ?_⟩
      intro w' K' z v' G' x' hs hz hK sa sb
      simp only [setCell, if_neg hj, Option.map_eq_some_iff] at hs
      obtain ⟨xb, hxb, rfl⟩ := hs
      simp only [Rp]
      refine ⟨v1, pre ++ ([v'] ++ post), F1, Fa ++ (G' ++ Fb), by simp, by simp, ?_, hset w' K' z v' G' xb hxb hz hK (fun g hg => sa g (by simp [hg])) sb⟩
      exact Rp.frame hK a _ h1 fun g hg => sa g (by simp [hg])
  | .unit, _, _, _, _, _, _, hc => by simp [cellAt] at hc
  | .int k, x, j, c, vs, F, h, hc => leafCase (fun _ _ => by simp) (by simp) rfl h hc (by cases j <;> simp [cellAt] at hc ⊢)
  | .bool, x, j, c, vs, F, h, hc => leafCase (fun _ _ => by simp) (by simp) rfl h hc (by cases j <;> simp [cellAt] at hc ⊢)
  | .str, x, j, c, vs, F, h, hc => leafCase (fun _ _ => by simp) (by simp) rfl h hc (by cases j <;> simp [cellAt] at hc ⊢)
  | .sl o e r, x, j, c, vs, F, h, hc => leafCase (fun _ _ => by simp) (by simp) rfl h hc (by cases j <;> simp [cellAt] at hc ⊢)
where
  leafCase {w : World} {K : Nat → Prop} {t : Ty} {x : t.D} {j : Nat} {c : (u : Ty) × u.D} {vs F} (hp : ∀ a b, t ≠ .pair a b) (hu : t ≠ .unit) (hs : t.size = 1)
      (h : Rp w K t x vs F) (hc : cellAt t x j = some c) (hj : j = 0) :
      ∃ pre v post Fa G Fb, vs = pre ++ ([v] ++ post) ∧ pre.length = j ∧ F = Fa ++ (G ++ Fb) ∧ Rp w K c.1 c.2 [v] G ∧
        ∀ (w' : World) (K' : Nat → Prop) (y : c.1.D) (v' : Value) (G' : List Nat) (x' : t.D), setCell t x j c.1 y = some x' → Rp w' K' c.1 y [v'] G' → KSame w w' K K' →
          Same w w' Fa → Same w w' Fb → Rp w' K' t x' (pre ++ ([v'] ++ post)) (Fa ++ (G' ++ Fb)) := by
    subst hj
    have hct : c = ⟨t, x⟩ := by
      cases t with
      | pair a b => exact absurd rfl (hp a b)
      | unit => exact absurd rfl hu
      | _ => simp only [cellAt, Option.some.injEq] at hc; exact hc.symm
    subst hct
    obtain ⟨v, rfl⟩ := leaf_cell hs h
    refine ⟨[], v, [], [], F, [], by simp, rfl, by simp, h, ?_⟩
    intro w' K' y v' G' x' hset hy _ _ _
    obtain ⟨e, rfl⟩ := setCell_leaf (z := x) hp hu hset
    simpa using hy

/-! ### through elements -/
/-- the address of an element's cell -/
def adr (w : World) (h : Value) : Ty → Steps → Option Addr
  | .sl _ _ r, (i, j) :: ps => match h with
    | .slice (some a) _ _ => match ps with
      | [] => some (a.add (i * r.size + j))
      | p :: ps => match w.cell? (a.add (i * r.size + j)), cty r j with
        | some h', some t' => adr w h' t' (p :: ps)
        | _, _ => none
    | _ => none
  | _, _ => none
where
  /-- the type of a row's cell -/
  cty : Ty → Nat → Option Ty
    | .pair a b, j => if j < a.size then cty a j else cty b (j - a.size)
    | .unit, _ => none
    | t, 0 => some t
    | _, _ + 1 => none
/-- the slice value that a view goes by -/
def hdr (w : World) (h : Value) (t : Ty) : Steps → Option Value
  | [] => some h
  | st => match adr w h t st with
    | some a => w.cell? a
    | none => none

theorem cty_cell : ∀ (t : Ty) (x : t.D) (j : Nat) {c}, cellAt t x j = some c → adr.cty t j = some c.1
  | .pair a b, (x, y), j, c, h => by
    simp only [cellAt] at h; simp only [adr.cty]
    split at h
    · rename_i hj; rw [if_pos hj]; exact cty_cell a x j h
    · rename_i hj; rw [if_neg hj]; exact cty_cell b y _ h
  | .unit, _, _, _, h => by simp [cellAt] at h
  | .int _, _, 0, _, h => by simp only [cellAt, Option.some.injEq] at h; subst h; rfl
  | .bool, _, 0, _, h => by simp only [cellAt, Option.some.injEq] at h; subst h; rfl
  | .str, _, 0, _, h => by simp only [cellAt, Option.some.injEq] at h; subst h; rfl
  | .sl _ _ _, _, 0, _, h => by simp only [cellAt, Option.some.injEq] at h; subst h; rfl
  | .int _, _, _ + 1, _, h => by simp [cellAt] at h
  | .bool, _, _ + 1, _, h => by simp [cellAt] at h
  | .str, _, _ + 1, _, h => by simp [cellAt] at h
  | .sl _ _ _, _, _ + 1, _, h => by simp [cellAt] at h

theorem run_get {α β : Type} (o : Option β) (f : β → Tr α) : (Tr.get β o f).run = o.bind fun b => (f b).run := by cases o <;> rfl
theorem run_alt {α β γ : Type} (s : β ⊕ γ) (f : β → Tr α) (g : γ → Tr α) : (Tr.alt β γ s f g).run = Sum.elim (fun b => (f b).run) (fun b => (g b).run) s := by cases s <;> rfl
theorem run_iff {α : Type} {c : Bool} {t : Tr α} {a : α} (h : (Tr.iff c t).run = some a) : c = true ∧ t.run = some a := by
  simp only [Tr.run] at h
  split at h
  · exact ⟨by assumption, h⟩
  · cases h
theorem run_bind {α β : Type} (t : Tr α) (f : α → Tr β) : (t.bind f).run = t.run.bind fun x => (f x).run := by
  induction t with
  | ret a => rfl
  | fail => rfl
  | br c t e ih1 ih2 => simp only [Tr.bind, Tr.run]; split <;> assumption
  | get γ o g ih => cases o <;> simp [Tr.bind, Tr.run, ih]
  | alt γ δ s g h ih1 ih2 => cases s <;> simp [Tr.bind, Tr.run, ih1, ih2]
  | rdO k g ih => rfl
  | rdC k off g ih => rfl
  | rdM k g ih => rfl

theorem frozen_same {w w' : World} {a : Addr} (h : w'.heap[a.block]? = w.heap[a.block]?) : w'.frozen? a = w.frozen? a := by
  unfold World.frozen?; rw [h]

theorem take_drop_mid {α : Type} (cs : List α) (off n : Nat) (a v b : List α) (h : (cs.drop off).take n = a ++ (v ++ b)) (j : Nat) (hj : j < v.length) : cs[off + a.length + j]? = v[j]? := by
  have h1 : ((cs.drop off).take n)[a.length + j]? = v[j]? := by
    rw [h, List.getElem?_append_right (by omega), List.getElem?_append_left (by omega)]
    congr 1; omega
  rw [← h1, List.getElem?_take, List.getElem?_drop]
  have : a.length + j < n := by
    have := congrArg List.length h
    simp only [List.length_take, List.length_append] at this
    have h3 : (cs.drop off).length = cs.length - off := List.length_drop ..
    rcases Nat.lt_or_ge (a.length + j) n with h4 | h4
    · exact h4
    · omega
  rw [if_pos this]; congr 1; omega

/-- an own slice's element, its cell: where it lies -/
theorem Rp.elem {w : World} {K : Nat → Prop} {e : TypeId} {r : Ty} {xs : List r.D} {h : Value} {F : List Nat} (hp : Rp w K (.sl true e r) xs [h] F) {i j : Nat} {row : r.D} {c : (u : Ty) × u.D}
    (hi : xs[i]? = some row) (hc : cellAt r row j = some c) :
    ∃ (g off cap : Nat) (cs : Array Value) (fr : Nat × Nat) (v : Value) (F1 Fa G Fb F2 : List Nat), h = .slice (some ⟨g, off, none⟩) xs.length cap ∧ F = g :: (F1 ++ ((Fa ++ (G ++ Fb)) ++ F2)) ∧ w.heap[g]? = some (.cells cs e fr) ∧ NF fr cs.size ∧
      off + cap * r.size ≤ cs.size ∧ xs.length ≤ cap ∧
      cs[off + (i * r.size + j)]? = some v ∧ off + (i * r.size + j) < cs.size ∧ Rp w K c.1 c.2 [v] G ∧
      ∀ (w' : World) (K' : Nat → Prop) (y : c.1.D) (v' : Value) (G' : List Nat) (row' : r.D) (cs' : Array Value), setCell r row j c.1 y = some row' → Rp w' K' c.1 y [v'] G' → KSame w w' K K' →
        w'.heap[g]? = some (.cells cs' e fr) → cs' = cs.setIfInBounds (off + (i * r.size + j)) v' → Same w w' F1 → Same w w' Fa → Same w w' Fb → Same w w' F2 →
        Rp w' K' (.sl true e r) (xs.set i row') [h] (g :: (F1 ++ ((Fa ++ (G' ++ Fb)) ++ F2))) := by
  simp only [Rp] at hp
  rcases hp with ⟨rfl, _⟩ | ⟨g, off, cap, cs, fr, F', hh, rfl, hg, hn, hoff, hlen, hr⟩
  · simp at hi
  obtain ⟨v1, v, v2, F1, G0, F2, hw, hl, rfl, hrow, ht, hd⟩ := RpL.get (fun x vs F h => Rp.len r x h) hr hi
  obtain ⟨pre, u, post, Fa, G, Fb, rfl, hpl, rfl, hu, hset⟩ := Rp.cell r row j hrow hc
  have hcell : cs[off + (i * r.size + j)]? = some u := by
    have := take_drop_mid cs.toList off _ v1 (pre ++ ([u] ++ post)) v2 hw pre.length (by simp)
    rw [List.getElem?_append_right (by omega)] at this
    simp only [Nat.sub_self, List.cons_append, List.nil_append, List.getElem?_cons_zero] at this
    rw [hl, hpl] at this
    rw [← Array.getElem?_toList, ← this]; congr 1; omega
  have hlt : off + (i * r.size + j) < cs.size := (Array.getElem?_eq_some_iff.1 hcell).1
  have hil : i < xs.length := (List.getElem?_eq_some_iff.1 hi).1
  injection hh with hh _
  refine ⟨g, off, cap, cs, fr, u, F1, Fa, G, Fb, F2, hh, rfl, hg, hn, hoff, hlen, hcell, hlt, hu, ?_⟩
  intro w' K' y v' G' row' cs' hs hy hK hg' hcs s1 sa sb s2
  subst hcs
  simp only [Rp]
  refine .inr ⟨g, off, cap, _, fr, _, by rw [List.length_set, hh], rfl, hg', by simpa using hn, by simpa using hoff, by simpa using hlen, ?_⟩
  have hnew := RpL.set hi (RpL.frame hK r _ _ _ s1 ht) (RpL.frame hK r _ _ _ s2 hd) (hset w' K' y v' G' row' hs hy hK sa sb)
  rw [List.length_set]
  have : ((cs.setIfInBounds (off + (i * r.size + j)) v').toList.drop off).take (xs.length * r.size) = v1 ++ ((pre ++ ([v'] ++ post)) ++ v2) := by
    rw [Array.toList_setIfInBounds, List.drop_set, if_neg (by omega), List.take_set, hw]
    have h1 : v1 ++ ((pre ++ ([u] ++ post)) ++ v2) = (v1 ++ pre) ++ u :: (post ++ v2) := by simp
    have h2 : v1 ++ ((pre ++ ([v'] ++ post)) ++ v2) = (v1 ++ pre) ++ v' :: (post ++ v2) := by simp
    rw [h1, h2, List.set_append_right _ _ (by rw [List.length_append]; omega)]
    have h3 : off + (i * r.size + j) - off - (v1 ++ pre).length = 0 := by rw [List.length_append]; omega
    rw [h3]; rfl
  rw [this]
  exact hnew

theorem getT_run_cons {e : TypeId} {r : Ty} {xs : List r.D} {i j : Nat} {ps : Steps} {c : (u : Ty) × u.D} (h : (getT (.sl true e r) xs ((i, j) :: ps)).run = some c) :
    ∃ row d, xs[i]? = some row ∧ cellAt r row j = some d ∧ (getT d.1 d.2 ps).run = some c := by
  simp only [getT, run_get, Option.bind_eq_some_iff] at h
  obtain ⟨row, hrow, h⟩ := h
  split at h
  · rename_i d hd; exact ⟨row, d, hrow, hd, h⟩
  · simp [Tr.run] at h

theorem nodup_mid {g : Nat} {F1 Fa G Fb F2 : List Nat} (hnd : (g :: (F1 ++ ((Fa ++ (G ++ Fb)) ++ F2))).Nodup) : G.Nodup := by
  rw [List.nodup_cons] at hnd
  have h1 := hnd.2
  rw [List.nodup_append] at h1
  have h2 := h1.2.1
  rw [List.nodup_append] at h2
  have h3 := h2.1
  rw [List.nodup_append] at h3
  have h4 := h3.2.1
  rw [List.nodup_append] at h4
  exact h4.1
/-- what an own slice's data says of a place, memory says too -/
theorem Rp.reach {w : World} {K : Nat → Prop} : ∀ (st : Steps) (t : Ty) (x : t.D) {h : Value} {F : List Nat} {c : (u : Ty) × u.D}, Rp w K t x [h] F → (getT t x st).run = some c →
    ∃ h' F', hdr w h t st = some h' ∧ Rp w K c.1 c.2 [h'] F' ∧ (∀ g ∈ F', g ∈ F) ∧ (F.Nodup → F'.Nodup) ∧ (st ≠ [] → ∃ a, adr w h t st = some a ∧ w.cell? a = some h' ∧ a.block ∈ F ∧ a.spot = none ∧ w.frozen? a = false)
  | [], t, x, h, F, c, hp, hg => by
    simp only [getT, Tr.run, Option.some.injEq] at hg
    subst hg
    exact ⟨h, F, rfl, hp, fun _ hg => hg, fun h => h, fun hne => absurd rfl hne⟩
  | (i, j) :: ps, t, x, h, F, c, hp, hg => by
    match t, x, hp, hg with
    | .sl true e r, xs, hp, hg =>
      obtain ⟨row, d, hrow, hd, hrest⟩ := getT_run_cons hg
      obtain ⟨g, off, cap, cs, fr, v, F1, Fa, G, Fb, F2, rfl, rfl, hh, hn, _, _, hcell, hlt, hv, _⟩ := Rp.elem hp hrow hd
      have hc? : w.cell? ⟨g, off + (i * r.size + j), none⟩ = some v := by rw [cell_blk hh]; exact hcell
      obtain ⟨h', F', hhd, hp', hsub, hnod, hne⟩ := Rp.reach ps d.1 d.2 hv hrest
      refine ⟨h', F', ?_, hp', ?_, fun hx => hnod (nodup_mid hx), ?_⟩
      · cases ps with
        | nil =>
          simp only [hdr, Option.some.injEq] at hhd
          subst hhd
          simp only [hdr, adr, add_blk]; exact hc?
        | cons p ps =>
          simp only [hdr, adr, add_blk, hc?, cty_cell r row j hd]
          simpa only [hdr] using hhd
      · intro b hb
        have := hsub b hb
        simp [*]
      · intro _
        cases ps with
        | nil =>
          simp only [hdr, Option.some.injEq] at hhd
          subst hhd
          exact ⟨⟨g, off + (i * r.size + j), none⟩, by simp only [adr, add_blk], hc?, by simp, rfl, frozen_blk hh hn hlt⟩
        | cons p ps =>
          obtain ⟨a, ha, h1, h2, h3, h4⟩ := hne (by simp)
          refine ⟨a, by simp only [adr, add_blk, hc?, cty_cell r row j hd]; exact ha, h1, ?_, h3, h4⟩
          simp [*]
    | .sl false _ _, _, _, hg => simp [getT, Tr.run] at hg
    | .int _, _, _, hg => simp [getT, Tr.run] at hg
    | .bool, _, _, hg => simp [getT, Tr.run] at hg
    | .str, _, _, hg => simp [getT, Tr.run] at hg
    | .unit, _, _, hg => simp [getT, Tr.run] at hg
    | .pair _ _, _, _, hg => simp [getT, Tr.run] at hg

/-- an address through one element is known from the head alone -/
theorem adr_one {w w' : World} {h : Value} {t : Ty} {p : Nat × Nat} : adr w' h t [p] = adr w h t [p] := by
  cases t with
  | sl o e r =>
    cases h with
    | slice A _ _ => cases A <;> rfl
    | _ => rfl
  | _ => rfl

/-- a cell of an element gets another value: memory and data alike -/
theorem Rp.put {w : World} {K : Nat → Prop} : ∀ (st : Steps) (t : Ty) (x : t.D) {h : Value} {F : List Nat} {c : (u : Ty) × u.D} {z : c.1.D} {y : t.D}, st ≠ [] → Rp w K t x [h] F → F.Nodup → (getT t x st).run = some c → (setT t x st c.1 z).run = some y →
    ∃ a h' Fa G Fb, adr w h t st = some a ∧ w.cell? a = some h' ∧ a.spot = none ∧ F = Fa ++ (G ++ Fb) ∧ a.block ∈ Fa ∧ Rp w K c.1 c.2 [h'] G ∧ w.frozen? a = false ∧
      ∀ (w' : World) (K' : Nat → Prop) (v' : Value) (G' : List Nat), Rp w' K' c.1 z [v'] G' → KSame w w' K K' → w'.heap[a.block]? = (w.setCell a v').heap[a.block]? →
        (∀ g ∈ Fa ++ Fb, g ≠ a.block → w'.heap[g]? = w.heap[g]?) → Rp w' K' t y [h] (Fa ++ (G' ++ Fb)) ∧ ∀ n, adr w' h t (bump st n) = adr w h t (bump st n)
  | [], _, _, _, _, _, _, _, hne, _, _, _, _ => absurd rfl hne
  | (i, j) :: ps, t, x, h, F, c, z, y, _, hp, hnd, hg, hs => by
    match t, x, y, hp, hg, hs with
    | .sl true e r, xs, y, hp, hg, hs =>
      obtain ⟨row, d, hrow, hd, hrest⟩ := getT_run_cons hg
      have hs' : ∃ yy row', (setT d.1 d.2 ps c.1 z).run = some yy ∧ setCell r row j d.1 yy = some row' ∧ y = (xs : List r.D).set i row' := by
        simp only [setT, run_get, Option.bind_eq_some_iff] at hs
        obtain ⟨row2, hrow2, hs⟩ := hs
        obtain rfl : row = row2 := by rw [hrow] at hrow2; injection hrow2
        rw [hd] at hs
        simp only [run_bind, Option.bind_eq_some_iff] at hs
        obtain ⟨yy, h1, hs⟩ := hs
        split at hs
        · rename_i row' hr; simp only [Tr.run, Option.some.injEq] at hs; exact ⟨yy, row', h1, hr, hs.symm⟩
        · simp [Tr.run] at hs
      obtain ⟨yy, row', hsy, hset, rfl⟩ := hs'
      obtain ⟨g, off, cap, cs, fr, v, F1, Fa, G, Fb, F2, rfl, rfl, hh, hn, hcap, hlen, hcell, hlt, hv, hput⟩ := Rp.elem hp hrow hd
      have hc? : w.cell? ⟨g, off + (i * r.size + j), none⟩ = some v := by rw [cell_blk hh]; exact hcell
      cases ps with
      | nil =>
        simp only [getT, Tr.run, Option.some.injEq] at hrest
        subst hrest
        simp only [setT] at hsy
        split at hsy
        · simp only [Tr.run, Option.some.injEq] at hsy
          subst hsy
          refine ⟨⟨g, off + (i * r.size + j), none⟩, v, g :: (F1 ++ Fa), G, Fb ++ F2, by simp only [adr, add_blk], hc?, rfl, by simp, by simp, hv, frozen_blk hh hn hlt, ?_⟩
          intro w' K' v' G' hz hK hblk hrest
          have hnd' : ∀ b, b ∈ F1 ∨ b ∈ Fa ∨ b ∈ Fb ∨ b ∈ F2 → b ≠ g := by
            rintro b hb rfl
            rw [List.nodup_cons] at hnd
            apply hnd.1
            simp only [List.mem_append]
            rcases hb with hb | hb | hb | hb <;> simp [hb]
          have hnew : w'.heap[g]? = some (.cells (cs.setIfInBounds (off + (i * r.size + j)) v') e fr) := by
            rw [hblk]; exact setCell_blk hh _ _
          have := hput w' K' z v' G' row' _ hset hz hK hnew rfl (fun b hb => hrest b (by simp [hb]) (hnd' b (by simp [hb]))) (fun b hb => hrest b (by simp [hb]) (hnd' b (by simp [hb])))
            (fun b hb => hrest b (by simp [hb]) (hnd' b (by simp [hb]))) (fun b hb => hrest b (by simp [hb]) (hnd' b (by simp [hb])))
          exact ⟨by simpa using this, fun n => adr_one⟩
        · simp [Tr.run] at hsy
      | cons p ps =>
        have hndG : G.Nodup := nodup_mid hnd
        obtain ⟨a, h', Ga, G0, Gb, ha, h1, h2, rfl, hain, hG0, h4, hset2⟩ := Rp.put (p :: ps) d.1 d.2 (by simp) hv hndG hrest hsy
        have hag : a.block ≠ g := by
          rintro rfl
          rw [List.nodup_cons] at hnd
          apply hnd.1
          simp [hain]
        have hout : ∀ b, b ∈ F1 ∨ b ∈ Fa ∨ b ∈ Fb ∨ b ∈ F2 → b ≠ a.block := by
          rintro b hb rfl
          rw [List.nodup_cons] at hnd
          have hn2 := hnd.2
          have hA : ∀ (X Y : List Nat), (X ++ Y).Nodup → ∀ q, q ∈ X → q ∈ Y → False := fun X Y hXY q hX hY => (List.nodup_append.1 hXY).2.2 q hX q hY rfl
          rcases hb with hb | hb | hb | hb
          · exact hA F1 _ hn2 a.block hb (by simp [hain])
          · have h5 := (List.nodup_append.1 hn2).2.1
            have h6 := (List.nodup_append.1 h5).1
            exact hA Fa _ h6 a.block hb (by simp [hain])
          · have h5 := (List.nodup_append.1 hn2).2.1
            have h6 := (List.nodup_append.1 h5).1
            have h7 := (List.nodup_append.1 h6).2.1
            exact hA _ Fb h7 a.block (by simp [hain]) hb
          · have h5 := (List.nodup_append.1 hn2).2.1
            exact hA _ F2 h5 a.block (by simp [hain]) hb
        refine ⟨a, h', g :: (F1 ++ (Fa ++ Ga)), G0, Gb ++ (Fb ++ F2), by simp only [adr, add_blk, hc?, cty_cell r row j hd]; exact ha, h1, h2, by simp, by simp [hain], hG0, h4, ?_⟩
        intro w' K' v' G' hz hK hblk hrest2
        obtain ⟨hinner, hadr⟩ := hset2 w' K' v' G' hz hK hblk (fun b hb hne => hrest2 b (by simp only [List.mem_append, List.mem_cons] at hb ⊢; rcases hb with hb | hb <;> simp [hb]) hne)
        have hgs : w'.heap[g]? = some (.cells cs e fr) := by rw [hrest2 g (by simp) (Ne.symm hag)]; exact hh
        have hsame : cs = cs.setIfInBounds (off + (i * r.size + j)) v := by
          apply Array.ext_getElem?
          intro m
          rw [Array.getElem?_setIfInBounds]
          split
          · subst_vars; first | exact hcell | (rw [if_pos hlt]; exact hcell)
          · rfl
        have := hput w' K' yy v (Ga ++ (G' ++ Gb)) row' cs hset hinner hK hgs hsame (fun b hb => hrest2 b (by simp [hb]) (hout b (by simp [hb]))) (fun b hb => hrest2 b (by simp [hb]) (hout b (by simp [hb])))
            (fun b hb => hrest2 b (by simp [hb]) (hout b (by simp [hb]))) (fun b hb => hrest2 b (by simp [hb]) (hout b (by simp [hb])))
        refine ⟨by simpa using this, fun n => ?_⟩
        have hc2 : w'.cell? ⟨g, off + (i * r.size + j), none⟩ = some v := by rw [cell_blk hgs]; exact hcell
        have hb : bump ((i, j) :: p :: ps) n = (i, j) :: bump (p :: ps) n := rfl
        obtain ⟨q', ps', hq⟩ : ∃ q' ps', bump (p :: ps) n = q' :: ps' := by
          cases ps with
          | nil => obtain ⟨x, y⟩ := p; exact ⟨_, _, rfl⟩
          | cons q2 ps => exact ⟨_, _, rfl⟩
        have := hadr n
        rw [hb]
        rw [hq] at this ⊢
        simp only [adr, add_blk, hc?, hc2, cty_cell r row j hd]
        exact this
    | .sl false _ _, _, _, _, hg, _ => simp [getT, Tr.run] at hg
    | .int _, _, _, _, hg, _ => simp [getT, Tr.run] at hg
    | .bool, _, _, _, hg, _ => simp [getT, Tr.run] at hg
    | .str, _, _, _, hg, _ => simp [getT, Tr.run] at hg
    | .unit, _, _, _, hg, _ => simp [getT, Tr.run] at hg
    | .pair _ _, _, _, _, hg, _ => simp [getT, Tr.run] at hg

#print axioms Rp.reach
#print axioms Rp.put
end Go.V
