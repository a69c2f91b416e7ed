/-
  S15: what it means that a function is known: 'CallSound'; arguments, results as data.
-/
import Derived.Test.YtdicgiljgelkfaaS14
import Derived.Calls
namespace Go.V
open Go.RowKit

/-- side by side, each with its own blocks -/
def FL {α β : Type} (p : α → β → List Nat → Prop) : List α → List β → List Nat → Prop
  | [], vs, F => vs = [] ∧ F = []
  | x :: xs, vs, F => ∃ v vs' F1 F2, vs = v :: vs' ∧ F = F1 ++ F2 ∧ p x v F1 ∧ FL p xs vs' F2
section
variable {α β : Type} {p q : α → β → List Nat → Prop}
theorem FL.mono (h : ∀ x v F, p x v F → q x v F) : ∀ {xs : List α} {vs : List β} {F}, FL p xs vs F → FL q xs vs F
  | [], _, _, hx => hx
  | _ :: _, _, _, ⟨v, vs', F1, F2, e1, e2, h1, h2⟩ => ⟨v, vs', F1, F2, e1, e2, h _ _ _ h1, FL.mono h h2⟩
theorem FL.mono' : ∀ {xs : List α} {vs : List β} {F}, (∀ x ∈ xs, ∀ v F', (∀ g, g ∈ F' → g ∈ F) → p x v F' → q x v F') → FL p xs vs F → FL q xs vs F
  | [], _, _, _, hx => hx
  | _ :: _, _, _, h, ⟨v, vs', F1, F2, e1, e2, h1, h2⟩ => by
    subst e2
    exact ⟨v, vs', F1, F2, e1, rfl, h _ (by simp) _ _ (fun g hg => by simp [hg]) h1, FL.mono' (fun x hx v F hF => h x (by simp [hx]) v F fun g hg => by simp [hF g hg]) h2⟩
theorem FL.len : ∀ {xs : List α} {vs : List β} {F}, FL p xs vs F → vs.length = xs.length
  | [], _, _, ⟨e, _⟩ => by subst e; rfl
  | _ :: _, _, _, ⟨v, vs', F1, F2, e1, _, _, h2⟩ => by subst e1; simp [FL.len h2]
theorem FL.append : ∀ {xs ys : List α} {vs ws : List β} {F G}, FL p xs vs F → FL p ys ws G → FL p (xs ++ ys) (vs ++ ws) (F ++ G)
  | [], _, _, _, _, _, ⟨e1, e2⟩, h => by subst e1 e2; exact h
  | _ :: _, _, _, _, _, _, ⟨v, vs', F1, F2, e1, e2, h1, h2⟩, h => by
    subst e1 e2
    exact ⟨v, _, F1, _, rfl, List.append_assoc .., h1, FL.append h2 h⟩
theorem FL.snoc {xs : List α} {vs : List β} {F G : List Nat} {x : α} {v : β} (h : FL p xs vs F) (hx : p x v G) : FL p (xs ++ [x]) (vs ++ [v]) (F ++ G) :=
  h.append ⟨v, [], G, [], rfl, by simp, hx, rfl, rfl⟩
end

def Ty.own : Ty → Bool
  | .sl true _ _ => true
  | _ => false

/-- a leaf as data -/
def ALOk (w : World) (K : Nat → Prop) (l : ALeaf) (v : Value) (F : List Nat) : Prop := Rp w K l.1 l.2 [v] F ∧ (l.1.own = false → F = [])
def A1Ok (w : World) (K : Nat → Prop) (ms : List Nat) : A1 → Value → List Nat → Prop
  | .one l, v, F => ALOk w K l v F
  | .ag ls, v, F => ∃ vs : List Value, v = .agg vs.toArray ∧ FL (ALOk w K) ls vs F
  | .pl m off, v, F => F = [] ∧ ∃ g, ms[m]? = some g ∧ v = .pointer (some ⟨g, off, none⟩)
  | .rp t x off, v, F => F = [] ∧ ∃ (a : Addr) (vs : List Value), v = .pointer (some (a.add off)) ∧ Rp w K t x vs [] ∧ K a.block ∧ a.block < w.heap.size ∧ ∀ j, j < vs.length → w.cell? (a.add j) = vs[j]?
def RowsOk (w : World) (K : Nat → Prop) : List Nat → List (List ALeaf) → List Nat → Prop
  | [], rs, F => rs = [] ∧ F = []
  | g :: gs, rs, F => ∃ r rs' cs e fr F1 F2, rs = r :: rs' ∧ F = F1 ++ F2 ∧ w.heap[g]? = some (.cells cs e fr) ∧ NF fr cs.size ∧ FL (ALOk w K) r cs.toList F1 ∧ RowsOk w K gs rs' F2

def tupledV : List Value → Value
  | [v] => v
  | vs => .tuple vs.toArray

/-- what is left when it has returned -/
def CallPost (w : World) (Ro : Nat → Prop) (ms F : List Nat) (r : Res) (v : Value) (w' : World) : Prop :=
  ∃ (vs : List Value) (F1 F2 : List Nat), v = tupledV vs ∧ FL (A1Ok w' (fun g => (Ro g ∨ w.heap.size ≤ g) ∧ g ∉ ms ++ (F1 ++ F2)) ms) r.val vs F1 ∧ RowsOk w' (fun g => (Ro g ∨ w.heap.size ≤ g) ∧ g ∉ ms ++ (F1 ++ F2)) ms r.rows F2 ∧
    (ms ++ (F1 ++ F2)).Nodup ∧ (∀ g, g ∈ F1 ++ F2 → g < w'.heap.size ∧ (g ∈ F ∨ w.heap.size ≤ g)) ∧ Step w w' (fun g => g ∈ ms ++ F)

/-- so called, the function answers so -/
def CallSound (P : Program) (f : FuncId) (as : List A1) (rows : List (List ALeaf)) (r : Res) : Prop :=
  (∃ fn, P.funcs[f]? = some fn ∧ (fn.name == "runtime.NumGoroutine") = false ∧ fn.body.isNone = false) ∧
  ∀ (w : World) (vals : List Value) (Ro : Nat → Prop) (ms F1 F2 : List Nat), FL (A1Ok w Ro ms) as vals F1 → RowsOk w Ro ms rows F2 → (ms ++ (F1 ++ F2)).Nodup → (∀ g, g ∈ ms ++ (F1 ++ F2) → g < w.heap.size ∧ ¬ Ro g) →
    Calls P f vals.toArray w fun out w' => ∃ v, out = .returned v ∧ CallPost w Ro ms (F1 ++ F2) r v w'

structure EnvOk (P : Program) (E : Env) : Prop where
  ti : TabOk P E.ti
  mix : P.follows .mixedOrders = true
  ca : ∀ f as rows S r, (E.ca f as rows).ev S = some r → CallSound P f as rows r

/-! ### what is shown -/
theorem cast_pair {A A' B B' : Type} (h1 : A = A') (h2 : B = B') (h : (A × B) = (A' × B')) (x : A × B) : cast h x = (cast h1 x.1, cast h2 x.2) := by subst h1 h2; rfl
theorem cast_list {A A' : Type} (h1 : A = A') (h : List A = List A') (xs : List A) : cast h xs = xs.map (cast h1) := by
  subst h1
  have : (cast rfl : A → A) = id := rfl
  rw [this, List.map_id]; rfl

theorem Rp.frz {w : World} {K K' : Nat → Prop} (hK : ∀ g, g < w.heap.size → K g → K' g) : ∀ (t : Ty) (x : t.D) {vs F}, Rp w K t x vs F → (∀ g, g ∈ F → K' g) → Rp w K' t.frz (toFrz t x) vs []
  | .int _, _, _, _, h, _ => by simp only [Rp] at h; simp only [Ty.frz, Rp]; exact ⟨h.1, trivial⟩
  | .bool, _, _, _, h, _ => by simp only [Rp] at h; simp only [Ty.frz, Rp]; exact ⟨h.1, trivial⟩
  | .str, _, _, _, h, _ => by simp only [Rp] at h; simp only [Ty.frz, Rp]; exact ⟨h.1, trivial⟩
  | .unit, _, _, _, h, _ => by simp only [Rp] at h; simp only [Ty.frz, Rp]; exact ⟨h.1, trivial⟩
  | .pair a b, x, _, _, h, hF => by
    simp only [Rp] at h
    obtain ⟨v1, v2, F1, F2, rfl, rfl, h1, h2⟩ := h
    have e : toFrz (.pair a b) x = (toFrz a x.1, toFrz b x.2) := cast_pair (Ty.frz_D a).symm (Ty.frz_D b).symm _ x
    rw [e]
    simp only [Ty.frz, Rp]
    exact ⟨v1, v2, [], [], rfl, rfl, Rp.frz hK a _ h1 fun g hg => hF g (by simp [hg]), Rp.frz hK b _ h2 fun g hg => hF g (by simp [hg])⟩
  | .sl o e r, xs, _, _, h, hF => by
    have e0 : toFrz (.sl o e r) xs = (List.map (toFrz r) xs : List r.frz.D) := cast_list (Ty.frz_D r).symm _ xs
    have key : ∀ (ys : List r.D) (us : List Value) (G : List Nat), (∀ g, g ∈ G → K' g) → RpL (Rp w K r) ys us G → RpL (Rp w K' r.frz) (ys.map (toFrz r)) us [] := by
      intro ys
      induction ys with
      | nil => intro us G _ h; exact ⟨h.1, rfl⟩
      | cons y ys ih =>
        rintro us G hG ⟨v1, v2, F1, F2, rfl, rfl, h1, h2⟩
        exact ⟨v1, v2, [], [], rfl, rfl, Rp.frz hK r y h1 fun g hg => hG g (by simp [hg]), ih _ _ (fun g hg => hG g (by simp [hg])) h2⟩
    rw [e0]
    cases o with
    | true =>
      simp only [Rp] at h
      show Rp w K' (.sl false e r.frz) _ _ _
      rw [Rp]
      rcases h with ⟨rfl, rfl, rfl⟩ | ⟨g, off, c, cs, fr, F', rfl, rfl, hh, hn, hc, hl, hr⟩
      · exact ⟨rfl, none, 0, [], rfl, Nat.le_refl _, ⟨rfl, rfl⟩, .inl rfl⟩
      · refine ⟨rfl, some ⟨g, off, none⟩, c, _, by rw [List.length_map], by rw [List.length_map]; exact hl, key _ _ _ (fun g hg => hF g (by simp [hg])) hr, .inr ⟨_, rfl, hF g (by simp), lt_size hh, fun j hj => ?_⟩⟩
        rw [List.length_take, List.length_drop, Array.length_toList (xs := cs)] at hj
        rw [add_blk, cell_blk hh, List.getElem?_take_of_lt (by omega), List.getElem?_drop, Array.getElem?_toList]
    | false =>
      simp only [Rp] at h
      show Rp w K' (.sl false e r.frz) _ _ _
      rw [Rp]
      obtain ⟨rfl, A, c, ws, rfl, hle, hr, hx⟩ := h
      refine ⟨rfl, A, c, ws, by rw [List.length_map], by rw [List.length_map]; exact hle, key _ _ _ (fun g hg => (by cases hg)) hr, ?_⟩
      rcases hx with rfl | ⟨ad, e1, h1, h2, h3⟩
      · exact .inl rfl
      · exact .inr ⟨ad, e1, hK _ h2 h1, h2, h3⟩

theorem Rp.mono {w : World} {K K' : Nat → Prop} (hK : ∀ g, g < w.heap.size → K g → K' g) (t : Ty) (x : t.D) {vs F} (h : Rp w K t x vs F) : Rp w K' t x vs F :=
  Rp.frame ⟨Nat.le_refl _, fun g hg hlt => ⟨rfl, hK g hlt hg⟩⟩ t x h fun _ _ => rfl

theorem Rp.noRo {w : World} {K K' : Nat → Prop} : ∀ (t : Ty) (x : t.D) {vs F}, t.hasRo = false → Rp w K t x vs F → Rp w K' t x vs F
  | .int _, _, _, _, _, h => by simp only [Rp] at h ⊢; exact h
  | .bool, _, _, _, _, h => by simp only [Rp] at h ⊢; exact h
  | .str, _, _, _, _, h => by simp only [Rp] at h ⊢; exact h
  | .unit, _, _, _, _, h => by simp only [Rp] at h ⊢; exact h
  | .pair a b, x, _, _, hr, h => by
    simp only [Ty.hasRo, Bool.or_eq_false_iff] at hr
    simp only [Rp] at h ⊢
    obtain ⟨v1, v2, F1, F2, rfl, rfl, h1, h2⟩ := h
    exact ⟨v1, v2, F1, F2, rfl, rfl, Rp.noRo a _ hr.1 h1, Rp.noRo b _ hr.2 h2⟩
  | .sl true _ r, xs, _, _, hr, h => by
    simp only [Ty.hasRo, Bool.not_true, Bool.false_or] at hr
    simp only [Rp] at h ⊢
    rcases h with h | ⟨g, off, c, cs, fr, F', rfl, rfl, hh, hn, hc, hl, hx⟩
    · exact .inl h
    · exact .inr ⟨g, off, c, cs, fr, F', rfl, rfl, hh, hn, hc, hl, RpL.mono (fun x vs F h => Rp.noRo r x hr h) hx⟩
  | .sl false _ _, _, _, _, hr, _ => by simp [Ty.hasRo] at hr

theorem ALOk.mono {w : World} {K K' : Nat → Prop} (hK : ∀ g, g < w.heap.size → K g → K' g) {l : ALeaf} {v F} (h : ALOk w K l v F) : ALOk w K' l v F := ⟨Rp.mono hK _ _ h.1, h.2⟩
theorem A1Ok.mono {w : World} {K K' : Nat → Prop} (hK : ∀ g, g < w.heap.size → K g → K' g) {ms : List Nat} {a : A1} {v F} (h : A1Ok w K ms a v F) : A1Ok w K' ms a v F := by
  cases a with
  | one l => exact ALOk.mono hK h
  | ag ls => obtain ⟨vs, e, h⟩ := h; exact ⟨vs, e, h.mono fun x v F h => ALOk.mono hK h⟩
  | pl m off => exact h
  | rp t x off =>
    obtain ⟨e, a, vs, h1, h2, h3, h4, h5⟩ := h
    exact ⟨e, a, vs, h1, Rp.mono hK _ _ h2, hK _ h4 h3, h4, h5⟩
theorem RowsOk.mono {w : World} {K K' : Nat → Prop} (hK : ∀ g, g < w.heap.size → K g → K' g) : ∀ {ms : List Nat} {rs F}, RowsOk w K ms rs F → RowsOk w K' ms rs F
  | [], _, _, h => h
  | _ :: _, _, _, ⟨r, rs', cs, e, fr, F1, F2, e1, e2, h1, h2, h3, h4⟩ => ⟨r, rs', cs, e, fr, F1, F2, e1, e2, h1, h2, h3.mono fun _ _ _ h => ALOk.mono hK h, RowsOk.mono hK h4⟩
theorem ALOk.noRo {w : World} {K K' : Nat → Prop} {l : ALeaf} {v F} (hr : l.1.hasRo = false) (h : ALOk w K l v F) : ALOk w K' l v F := ⟨Rp.noRo _ _ hr h.1, h.2⟩
theorem ALs.noRo {w : World} {K K' : Nat → Prop} {ls : List ALeaf} {vs F} (hr : (ls.any fun l => l.1.hasRo) = false) (h : FL (ALOk w K) ls vs F) : FL (ALOk w K') ls vs F := by
  rw [List.any_eq_false] at hr
  exact FL.mono' (fun x hx v F _ h => ALOk.noRo (by simpa using hr x hx) h) h
theorem A1Ok.noRo {w : World} {K K' : Nat → Prop} {ms : List Nat} {a : A1} {v F} (hr : a.hasRo = false) (h : A1Ok w K ms a v F) : A1Ok w K' ms a v F := by
  cases a with
  | one l => exact ALOk.noRo hr h
  | ag ls => obtain ⟨vs, e, h⟩ := h; exact ⟨vs, e, ALs.noRo hr h⟩
  | pl m off => exact h
  | rp t x off => cases hr
theorem RowsOk.noRo {w : World} {K K' : Nat → Prop} : ∀ {ms : List Nat} {rs : List (List ALeaf)} {F}, (rs.any fun l => l.any fun x => x.1.hasRo) = false → RowsOk w K ms rs F → RowsOk w K' ms rs F
  | [], _, _, _, h => h
  | _ :: _, _, _, hr, ⟨r, rs', cs, e, fr, F1, F2, e1, e2, h1, h2, h3, h4⟩ => by
    subst e1
    simp only [List.any_cons, Bool.or_eq_false_iff] at hr
    exact ⟨r, rs', cs, e, fr, F1, F2, rfl, e2, h1, h2, ALs.noRo hr.1 h3, RowsOk.noRo hr.2 h4⟩

/-! ### arguments -/
section
variable {b : Base} {S : St} {c : Cc} {w : World}

/-- what a callee may read: what anyone may, and what is shown -/
def KB (b : Base) (S : St) (c : Cc) (B : List Nat) (g : Nat) : Prop := Kok b S c g ∨ ∃ k, k ∈ B ∧ g ∈ c.F k

theorem argLeaf_ok (hi : Inv b S w c) {mv : Bool} {t : Ty} {l : Leaf} {v : Value} {y : ALeaf × List Nat × List Nat} (hl : LeafOk S c w (Kok b S c) l v) (h : (argLeaf mv t l).ev S = some y) :
    Ows S y.2.1 ∧ Ows S y.2.2 ∧ (mv = true → y.2.1 = []) ∧ ∃ G, (∀ B, (∀ k, k ∈ y.2.1 → k ∈ B) → ALOk w (KB b S c B) y.1 v G) ∧ G.Nodup ∧ Held c y.2.2 G := by
  have hn : Ows S [] := fun k hk => (by cases hk)
  have hh : Held c [] [] := fun g hg => (by cases hg)
  unfold argLeaf at h
  split at h
  · simp only [Tr.ev, Option.some.injEq] at h
    subst h
    exact ⟨hn, hn, fun _ => rfl, [], fun B _ => ⟨Rp.mono (fun g _ h => .inl h) _ _ hl, fun _ => rfl⟩, by simp, hh⟩
  · obtain rfl : v = .slice none 0 0 := hl
    split at h
    · split at h
      · simp only [Tr.ev, Option.some.injEq] at h
        subst h
        refine ⟨hn, hn, fun _ => rfl, [], fun B _ => ⟨?_, fun _ => rfl⟩, by simp, hh⟩
        simp only [Rp]; exact .inl ⟨trivial, trivial, trivial⟩
      · simp only [Tr.ev, Option.some.injEq] at h
        subst h
        refine ⟨hn, hn, fun _ => rfl, [], fun B _ => ⟨?_, fun _ => rfl⟩, by simp, hh⟩
        rw [Rp]; exact ⟨rfl, none, 0, [], rfl, Nat.le_refl _, ⟨rfl, rfl⟩, .inl rfl⟩
    · simp [Tr.ev] at h
  · rename_i k st win
    split at h
    · rename_i hmv
      split at h
      · simp only [ev_bind, Option.bind_eq_some_iff, Tr.ev, Option.some.injEq] at h
        obtain ⟨o, ho, h⟩ := h
        subst h
        obtain ⟨h1, F', h2, h3, h4⟩ := view_own hi hl ho
        exact ⟨hn, fun k' hk' => (by simp only [List.mem_singleton] at hk'; subst hk'; exact h1), fun _ => rfl, F', fun B _ => ⟨Rp.mono (fun g _ h => .inl h) _ _ h2, fun h => (by simp [Ty.own] at h)⟩, h4, fun g hg => ⟨k, by simp, h3 g hg⟩⟩
      · simp [Tr.ev] at h
    · rename_i hmv
      simp only [ev_bind, Option.bind_eq_some_iff, Tr.ev, Option.some.injEq] at h
      obtain ⟨o, ho, h⟩ := h
      subst h
      obtain ⟨h1, F', h2, h3, h4⟩ := view_own hi hl ho
      exact ⟨fun k' hk' => (by simp only [List.mem_singleton] at hk'; subst hk'; exact h1), hn, fun h => absurd h hmv, [], fun B hB => ⟨Rp.frz (fun g _ h => .inl h) _ _ h2 fun g hg => .inr ⟨k, hB k (by simp), h3 g hg⟩, fun _ => rfl⟩, by simp, hh⟩
  · simp [Tr.ev] at h

theorem argLeaves_ok (hi : Inv b S w c) {mv : Bool} : ∀ {ls : List Leaf} {ts : List Ty} {vs : List Value} {y : List ALeaf × List Nat × List Nat}, All2 (LeafOk S c w (Kok b S c)) ls vs → (argLeaves mv ts ls).ev S = some y →
    Ows S y.2.1 ∧ Ows S y.2.2 ∧ (mv = true → y.2.1 = []) ∧ ∃ G, (∀ B, (∀ k, k ∈ y.2.1 → k ∈ B) → FL (ALOk w (KB b S c B)) y.1 vs G) ∧ (unlike y.2.2 = true → G.Nodup) ∧ Held c y.2.2 G
  | [], ts, _, y, .nil, h => by
    rw [argLeaves] at h
    simp only [Tr.ev, Option.some.injEq] at h
    subst h
    exact ⟨fun k hk => (by cases hk), fun k hk => (by cases hk), fun _ => rfl, [], fun B _ => ⟨rfl, rfl⟩, fun _ => by simp, fun g hg => (by cases hg)⟩
  | l :: ls, ts, _, y, .cons (b := v) (bs := vs) h1 h2, h => by
    rw [argLeaves] at h
    simp only [ev_bind, Option.bind_eq_some_iff, Tr.ev, Option.some.injEq] at h
    obtain ⟨y1, hy1, y2, hy2, rfl⟩ := h
    obtain ⟨k1, k2, k3, G, k4, k5, k6⟩ := argLeaf_ok hi h1 hy1
    obtain ⟨m1, m2, m3, H, m4, m5, m6⟩ := argLeaves_ok hi h2 hy2
    refine ⟨ows_append k1 m1, ows_append k2 m2, fun h => by rw [k3 h, m3 h]; rfl, G ++ H, fun B hB => ⟨v, vs, G, H, rfl, rfl, k4 B fun k hk => hB k (by simp [hk]), m4 B fun k hk => hB k (by simp [hk])⟩, ?_, ?_⟩
    · intro hu
      obtain ⟨u1, u2, _⟩ := unlike_append hu
      exact (held_append hi k6 m6 k2 m2 hu k5 (m5 u2)).2
    · intro g hg
      rcases List.mem_append.1 hg with hg | hg
      · obtain ⟨k, h, h'⟩ := k6 g hg; exact ⟨k, by simp [h], h'⟩
      · obtain ⟨k, h, h'⟩ := m6 g hg; exact ⟨k, by simp [h], h'⟩

/-- the arguments so far -/
structure AInv (b : Base) (S : St) (c : Cc) (w : World) (C : AC) (vals : List Value) (F : List Nat) : Prop where
  fl : ∀ eb em, FL (A1Ok w (KB b S c (C.bw ++ eb)) ((C.ms ++ em).map fun p => c.mb p.1)) C.as vals F
  held : Held c C.gv F
  gv : Ows S C.gv
  bw : Ows S C.bw
  nd : unlike C.gv = true → F.Nodup
  ms : ∀ p, p ∈ C.ms → S.ms p.1 = some p.2.length
  un : (C.ms.map (·.1)).Nodup

theorem AInv.step (hi : Inv b S w c) {C : AC} {vals : List Value} {F : List Nat} (h : AInv b S c w C vals F) {a : A1} {v : Value} {bw gv : List Nat} {G : List Nat}
    (h1 : Ows S bw) (h2 : Ows S gv) (h3 : ∀ B ms, (∀ k, k ∈ bw → k ∈ B) → A1Ok w (KB b S c B) ms a v G) (h4 : unlike gv = true → G.Nodup) (h5 : Held c gv G) :
    AInv b S c w { C with as := C.as ++ [a], bw := C.bw ++ bw, gv := C.gv ++ gv } (vals ++ [v]) (F ++ G) := by
  refine ⟨?_, ?_, ows_append h.gv h2, ows_append h.bw h1, ?_, h.ms, h.un⟩
  · intro eb em
    have := h.fl (bw ++ eb) em
    rw [← List.append_assoc] at this
    exact this.snoc (h3 _ _ fun k hk => by simp [hk])
  · intro g hg
    rcases List.mem_append.1 hg with hg | hg
    · obtain ⟨k, q, q'⟩ := h.held g hg; exact ⟨k, by simp [q], q'⟩
    · obtain ⟨k, q, q'⟩ := h5 g hg; exact ⟨k, by simp [q], q'⟩
  · intro hu
    obtain ⟨u1, u2, _⟩ := unlike_append hu
    exact (held_append hi h.held h5 h.gv h2 hu (h.nd u1) (h4 u2)).2

theorem findIdx_ok : ∀ (l : List Nat) (k : Nat), l.contains k = true → l[l.findIdx (· == k)]? = some k
  | [], _, h => by simp at h
  | x :: l, k, h => by
    rw [List.findIdx_cons]
    by_cases hx : x = k
    · subst hx; simp
    · have : (x == k) = false := by simp [hx]
      rw [this]
      simp only [cond_false, List.getElem?_cons_succ]
      refine findIdx_ok l k ?_
      simp only [List.contains_cons, Bool.or_eq_true, beq_iff_eq] at h
      exact h.resolve_left fun h => hx h.symm

theorem argsT_ok (hi : Inv b S w c) {E : Env} : ∀ (xs : List (SV × TypeId)) (mvs : List Bool) (us : List Value) (C : AC) (vals : List Value) (F : List Nat) {C' : AC}, All2 (fun x u => SVOk S c w (Kok b S c) x.1 u) xs us → AInv b S c w C vals F →
    (argsT E mvs xs C).ev S = some C' → ∃ F', AInv b S c w C' (vals ++ us) F'
  | [], mvs, _, C, vals, F, C', .nil, hA, h => by
    rw [argsT] at h
    simp only [Tr.ev, Option.some.injEq] at h
    subst h
    exact ⟨F, by rw [List.append_nil]; exact hA⟩
  | (x, t) :: xs, mvs, _, C, vals, F, C', .cons (b := u) (bs := us) h1 h2, hA, h => by
    unfold argsT at h
    rw [show vals ++ u :: us = (vals ++ [u]) ++ us by simp]
    simp only at h h1
    split at h
    · simp only [ev_bind, Option.bind_eq_some_iff] at h
      obtain ⟨y, hy, h⟩ := h
      obtain ⟨k1, k2, _, G, k4, k5, k6⟩ := argLeaf_ok hi (leaf_sv h1) hy
      exact argsT_ok hi xs _ us _ _ _ h2 (hA.step hi (a := .one y.1) k1 k2 (fun B ms hB => k4 B hB) (fun _ => k5) k6) h
    · simp only [ev_bind, Option.bind_eq_some_iff] at h
      obtain ⟨y, hy, h⟩ := h
      obtain ⟨vs, rfl, hall⟩ := h1
      obtain ⟨k1, k2, _, G, k4, k5, k6⟩ := argLeaves_ok hi hall hy
      exact argsT_ok hi xs _ us _ _ _ h2 (hA.step hi (a := .ag y.1) k1 k2 (fun B ms hB => ⟨vs, rfl, k4 B hB⟩) k5 k6) h
    · rename_i u' x' off
      have hx : AInv b S c w { C with as := C.as ++ [A1.rp u' x' off] } (vals ++ [u]) F := by
        refine ⟨fun eb em => ?_, hA.held, hA.gv, hA.bw, hA.nd, hA.ms, hA.un⟩
        obtain ⟨a, vs, e, q1, q2, q3, q4⟩ := h1
        have := (hA.fl eb em).snoc (x := A1.rp u' x' off) (v := u) (G := []) ⟨rfl, a, vs, e, Rp.mono (fun g _ h => .inl h) _ _ q1, .inl q2, q3, q4⟩
        rwa [List.append_nil] at this
      exact argsT_ok hi xs _ us _ _ _ h2 hx h
    · rename_i k off
      obtain ⟨n, hn, hv⟩ := h1
      · split at h
        · rename_i ts hts
          split at h
          · rename_i hc
            have hx : AInv b S c w { C with as := C.as ++ [A1.pl (place (C.ms.map (·.1)) k) off] } (vals ++ [u]) F := by
              refine ⟨fun eb em => ?_, hA.held, hA.gv, hA.bw, hA.nd, hA.ms, hA.un⟩
              have hf := findIdx_ok (C.ms.map (·.1)) k hc
              have hlt : place (C.ms.map (·.1)) k < C.ms.length := by
                have := (List.getElem?_eq_some_iff.1 hf).1
                simpa [place] using this
              have := (hA.fl eb em).snoc (x := A1.pl (place (C.ms.map (·.1)) k) off) (v := u) (G := []) ⟨rfl, c.mb k, by
                rw [List.map_append, List.getElem?_append_left (by simpa using hlt)]
                have h9 : ((C.ms.map (·.1)).map c.mb)[place (C.ms.map (·.1)) k]? = some (c.mb k) := by
                  rw [List.getElem?_map, show (C.ms.map (·.1))[place (C.ms.map (·.1)) k]? = some k from hf]; rfl
                rw [List.map_map] at h9
                exact h9, hv⟩
              rwa [List.append_nil] at this
            exact argsT_ok hi xs _ us _ _ _ h2 hx h
          · rename_i hc
            split at h
            · rename_i hoff
              simp only [Tr.ev, hn] at h
              split at h
              · rename_i hn2
                injection hn2 with hn2
                have hx : AInv b S c w { C with as := C.as ++ [A1.pl C.ms.length off], ms := C.ms ++ [(k, ts)] } (vals ++ [u]) F := by
                  refine ⟨fun eb em => ?_, hA.held, hA.gv, hA.bw, hA.nd, ?_, ?_⟩
                  · have := (hA.fl eb ((k, ts) :: em)).snoc (x := A1.pl C.ms.length off) (v := u) (G := []) ⟨rfl, c.mb k, by
                      rw [List.map_append, List.getElem?_append_right (by simp)]; simp, hv⟩
                    rw [List.append_nil] at this
                    simpa using this
                  · intro p hp
                    rcases List.mem_append.1 hp with hp | hp
                    · exact hA.ms p hp
                    · simp only [List.mem_singleton] at hp
                      subst hp
                      rw [hn, hn2]
                  · rw [List.map_append, List.nodup_append]
                    refine ⟨hA.un, by simp, ?_⟩
                    rintro q hq q' hq' rfl
                    simp only [List.map_cons, List.map_nil, List.mem_singleton] at hq'
                    subst hq'
                    exact hc (by simpa using hq)
                exact argsT_ok hi xs _ us _ _ _ h2 hx h
              · simp [Tr.ev] at h
            · simp [Tr.ev] at h
        · simp [Tr.ev] at h
    · simp [Tr.ev] at h

theorem rowLeaves_ok (hi : Inv b S w c) (k : Nat) : ∀ (ts : List Ty) (i : Nat) (vs : List Value) {y : List ALeaf × List Nat}, vs.length = ts.length → (∀ j v, vs[j]? = some v → LeafOk S c w (Kok b S c) (S.mc k (i + j)) v) → (rowLeaves k ts i).ev S = some y →
    Ows S y.2 ∧ ∃ G, (∀ B, FL (ALOk w (KB b S c B)) y.1 vs G) ∧ (unlike y.2 = true → G.Nodup) ∧ Held c y.2 G
  | [], i, vs, y, hl, _, h => by
    rw [rowLeaves] at h
    simp only [Tr.ev, Option.some.injEq] at h
    subst h
    obtain rfl : vs = [] := List.eq_nil_of_length_eq_zero hl
    exact ⟨fun k hk => (by cases hk), [], fun B => ⟨rfl, rfl⟩, fun _ => by simp, fun g hg => (by cases hg)⟩
  | t :: ts, i, [], y, hl, _, _ => by simp at hl
  | t :: ts, i, v :: vs, y, hl, hc, h => by
    rw [rowLeaves] at h
    simp only [Tr.ev, ev_bind, Option.bind_eq_some_iff, Option.some.injEq] at h
    obtain ⟨y1, hy1, y2, hy2, rfl⟩ := h
    obtain ⟨k1, k2, k3, G, k4, k5, k6⟩ := argLeaf_ok hi (hc 0 v rfl) hy1
    obtain ⟨m2, H, m4, m5, m6⟩ := rowLeaves_ok hi k ts (i + 1) vs (by simpa using hl) (fun j v hv => by
      have := hc (j + 1) v (by simpa using hv)
      rwa [show i + (j + 1) = i + 1 + j by omega] at this) hy2
    refine ⟨ows_append k2 m2, G ++ H, fun B => ⟨v, vs, G, H, rfl, rfl, k4 B fun k hk => (by rw [k3 rfl] at hk; cases hk), m4 B⟩, ?_, ?_⟩
    · intro hu
      obtain ⟨u1, u2, _⟩ := unlike_append hu
      exact (held_append hi k6 m6 k2 m2 hu k5 (m5 u2)).2
    · intro g hg
      rcases List.mem_append.1 hg with hg | hg
      · obtain ⟨k, h, h'⟩ := k6 g hg; exact ⟨k, by simp [h], h'⟩
      · obtain ⟨k, h, h'⟩ := m6 g hg; exact ⟨k, by simp [h], h'⟩

theorem rowsOf_ok (hi : Inv b S w c) : ∀ (ms : List (Nat × List Ty)) {y : List (List ALeaf) × List Nat}, (∀ p, p ∈ ms → S.ms p.1 = some p.2.length) → (rowsOf ms).ev S = some y →
    Ows S y.2 ∧ ∃ G, (∀ B, RowsOk w (KB b S c B) (ms.map fun p => c.mb p.1) y.1 G) ∧ (unlike y.2 = true → G.Nodup) ∧ Held c y.2 G
  | [], y, _, h => by
    rw [rowsOf] at h
    simp only [Tr.ev, Option.some.injEq] at h
    subst h
    exact ⟨fun k hk => (by cases hk), [], fun B => ⟨rfl, rfl⟩, fun _ => by simp, fun g hg => (by cases hg)⟩
  | (k, ts) :: ms, y, hm, h => by
    rw [rowsOf] at h
    simp only [Tr.ev, ev_bind, Option.bind_eq_some_iff, Option.some.injEq] at h
    obtain ⟨y1, hy1, y2, hy2, rfl⟩ := h
    have hk := hm (k, ts) (by simp)
    obtain ⟨cs, e, fr, h1, h2, h3, h4⟩ := hi.ms k _ hk
    obtain ⟨k2, G, k4, k5, k6⟩ := rowLeaves_ok hi k ts 0 cs.toList (by simpa using h2) (fun j v hv => by rw [Nat.zero_add]; exact h4 j v (by simpa using hv)) hy1
    obtain ⟨m2, H, m4, m5, m6⟩ := rowsOf_ok hi ms (fun p hp => hm p (by simp [hp])) hy2
    refine ⟨ows_append k2 m2, G ++ H, fun B => ⟨y1.1, y2.1, cs, e, fr, G, H, rfl, rfl, h1, h3, k4 B, m4 B⟩, ?_, ?_⟩
    · intro hu
      obtain ⟨u1, u2, _⟩ := unlike_append hu
      exact (held_append hi k6 m6 k2 m2 hu (k5 u1) (m5 u2)).2
    · intro g hg
      rcases List.mem_append.1 hg with hg | hg
      · obtain ⟨k, h, h'⟩ := k6 g hg; exact ⟨k, by simp [h], h'⟩
      · obtain ⟨k, h, h'⟩ := m6 g hg; exact ⟨k, by simp [h], h'⟩
end

#print axioms argsT_ok
#print axioms rowsOf_ok
end Go.V
