import Derived.Test.YtijemcbcchnnjaaDoorQTxB
import Derived.Calls
import Derived.Orders
import Derived.Tactics
import Derived.Deep.LoopGhost
import Derived.Below
import Derived.WalkKit
import Derived.ProofKit
import Derived.ChangeOld
import Derived.DataReads
namespace Go.V
open Go.RowKit
def FL {α β : Type} (p : α → β → List Nat → Prop) : List α → List β → List Nat → Prop
  | [], vs, F => vs = [] ∧ F = []
  | x :: xs, vs, F => ∃ v vs' F1 F2, vs = v :: vs' ∧ F = F1 ++ F2 ∧ p x v F1 ∧ FL p xs vs' F2
section
variable {α β : Type} {p q : α → β → List Nat → Prop}
theorem FL.mono (h : ∀ x v F, p x v F → q x v F) : ∀ {xs : List α} {vs : List β} {F}, FL p xs vs F → FL q xs vs F
  | [], _, _, hx => hx
  | _ :: _, _, _, ⟨v, vs', F1, F2, e1, e2, h1, h2⟩ => ⟨v, vs', F1, F2, e1, e2, h _ _ _ h1, FL.mono h h2⟩
theorem FL.mono' : ∀ {xs : List α} {vs : List β} {F}, (∀ x ∈ xs, ∀ v F', (∀ g, g ∈ F' → g ∈ F) → p x v F' → q x v F') → FL p xs vs F → FL q xs vs F
  | [], _, _, _, hx => hx
  | _ :: _, _, _, h, ⟨v, vs', F1, F2, e1, e2, h1, h2⟩ => by
    subst e2
    exact ⟨v, vs', F1, F2, e1, rfl, h _ (by simp) _ _ (fun g hg => by simp [hg]) h1, FL.mono' (fun x hx v F hF => h x (by simp [hx]) v F fun g hg => by simp [hF g hg]) h2⟩
theorem FL.len : ∀ {xs : List α} {vs : List β} {F}, FL p xs vs F → vs.length = xs.length
  | [], _, _, ⟨e, _⟩ => by subst e; rfl
  | _ :: _, _, _, ⟨v, vs', F1, F2, e1, _, _, h2⟩ => by subst e1; simp [FL.len h2]
theorem FL.append : ∀ {xs ys : List α} {vs ws : List β} {F G}, FL p xs vs F → FL p ys ws G → FL p (xs ++ ys) (vs ++ ws) (F ++ G)
  | [], _, _, _, _, _, ⟨e1, e2⟩, h => by subst e1 e2; exact h
  | _ :: _, _, _, _, _, _, ⟨v, vs', F1, F2, e1, e2, h1, h2⟩, h => by
    subst e1 e2
    exact ⟨v, _, F1, _, rfl, List.append_assoc .., h1, FL.append h2 h⟩
theorem FL.snoc {xs : List α} {vs : List β} {F G : List Nat} {x : α} {v : β} (h : FL p xs vs F) (hx : p x v G) : FL p (xs ++ [x]) (vs ++ [v]) (F ++ G) :=
  h.append ⟨v, [], G, [], rfl, by simp, hx, rfl, rfl⟩
end
def Ty.own : Ty → Bool
  | .sl true _ _ => true
  | _ => false
def ALOk (w : World) (K : Nat → Prop) (l : ALeaf) (v : Value) (F : List Nat) : Prop := Rp w K l.1 l.2 [v] F ∧ (l.1.own = false → F = [])
def A1Ok (w : World) (K : Nat → Prop) (ms : List Nat) : A1 → Value → List Nat → Prop
  | .one l, v, F => ALOk w K l v F
  | .ag ls, v, F => ∃ vs : List Value, v = .agg vs.toArray ∧ FL (ALOk w K) ls vs F
  | .pl m off, v, F => F = [] ∧ ∃ g, ms[m]? = some g ∧ v = .pointer (some ⟨g, off, none⟩)
  | .rp t x off, v, F => F = [] ∧ ∃ (a : Addr) (vs : List Value), v = .pointer (some (a.add off)) ∧ Rp w K t x vs [] ∧ K a.block ∧ a.block < w.heap.size ∧ ∀ j, j < vs.length → w.cell? (a.add j) = vs[j]?
  | .fv f cs, v, F => F = [] ∧ ∃ vs : List Value, v = .func (.func f) #[] vs.toArray ∧ All2 (fun p v => ∃ g, ms[p.1]? = some g ∧ v = .pointer (some ⟨g, p.2, none⟩)) cs vs
def RowsOk (w : World) (K : Nat → Prop) : List Nat → List (List ALeaf) → List Nat → Prop
  | [], rs, F => rs = [] ∧ F = []
  | g :: gs, rs, F => ∃ r rs' cs e fr F1 F2, rs = r :: rs' ∧ F = F1 ++ F2 ∧ w.heap[g]? = some (.cells cs e fr) ∧ NF fr cs.size ∧ FL (ALOk w K) r cs.toList F1 ∧ RowsOk w K gs rs' F2
def tupledV : List Value → Value
  | [v] => v
  | vs => .tuple vs.toArray
def valAt (vals : List Value) (p : Nat × Nat) : Option Value := match vals[p.1]? with
  | some (.agg vs) => vs[p.2]?
  | some v => if p.2 = 0 then some v else none
  | none => none
def LentOk (w : World) (K : Nat → Prop) (vals : List Value) : List ((Nat × Nat) × ALeaf) → List Nat → Prop
  | [], F => F = []
  | p :: l, F => ∃ v F1 F2, F = F1 ++ F2 ∧ valAt vals p.1 = some v ∧ ALOk w K p.2 v F1 ∧ LentOk w K vals l F2
def CallPost (w : World) (Ro : Nat → Prop) (ms F : List Nat) (vals : List Value) (r : Res) (v : Value) (w' : World) : Prop :=
  ∃ (vs : List Value) (F1 F2 F3 : List Nat), v = tupledV vs ∧ FL (A1Ok w' (fun g => (Ro g ∨ w.heap.size ≤ g ∨ g ∈ F) ∧ g ∉ ms ++ (F1 ++ (F2 ++ F3))) ms) r.val vs F1 ∧ RowsOk w' (fun g => (Ro g ∨ w.heap.size ≤ g ∨ g ∈ F) ∧ g ∉ ms ++ (F1 ++ (F2 ++ F3))) ms r.rows F2 ∧
    LentOk w' (fun g => (Ro g ∨ w.heap.size ≤ g ∨ g ∈ F) ∧ g ∉ ms ++ (F1 ++ (F2 ++ F3))) vals r.lent F3 ∧
    (ms ++ (F1 ++ (F2 ++ F3))).Nodup ∧ (∀ g, g ∈ F1 ++ (F2 ++ F3) → g < w'.heap.size ∧ (g ∈ F ∨ w.heap.size ≤ g)) ∧ Step w w' (fun g => g ∈ ms ++ F)
def CallSound (P : Program) (f : FuncId) (as : List A1) (rows : List (List ALeaf)) (r : Res) : Prop :=
  (∃ fn, P.funcs[f]? = some fn ∧ (fn.name == "runtime.NumGoroutine") = false ∧ fn.body.isNone = false) ∧
  ∀ (w : World) (vals : List Value) (Ro : Nat → Prop) (ms F1 F2 : List Nat), FL (A1Ok w Ro ms) as vals F1 → RowsOk w Ro ms rows F2 → (ms ++ (F1 ++ F2)).Nodup → (∀ g, g ∈ ms ++ (F1 ++ F2) → g < w.heap.size ∧ ¬ Ro g) → (GlF w ∧ ∀ g, glo g → Ro g) →
    Calls P f vals.toArray w fun out w' => ∃ v, out = .returned v ∧ CallPost w Ro ms (F1 ++ F2) vals r v w'
structure EnvOk (P : Program) (E : Env) : Prop where
  ti : TabOk P E.ti
  mix : P.follows .mixedOrders = true
  ca : ∀ f as rows S r, (E.ca f as rows).ev S = some r → CallSound P f as rows r
theorem cast_pair {A A' B B' : Type} (h1 : A = A') (h2 : B = B') (h : (A × B) = (A' × B')) (x : A × B) : cast h x = (cast h1 x.1, cast h2 x.2) := by subst h1 h2; rfl
theorem cast_list {A A' : Type} (h1 : A = A') (h : List A = List A') (xs : List A) : cast h xs = xs.map (cast h1) := by
  subst h1
  have : (cast rfl : A → A) = id := rfl
  rw [this, List.map_id]; rfl
theorem Rp.frz {w : World} {K K' : Nat → Prop} (hK : ∀ g, g < w.heap.size → K g → K' g) : ∀ (t : Ty) (x : t.D) {vs F}, Rp w K t x vs F → (∀ g, g ∈ F → K' g) → Rp w K' t.frz (toFrz t x) vs []
  | .int _, _, _, _, h, _ => by simp only [Rp] at h; simp only [Ty.frz, Rp]; exact ⟨h.1, trivial⟩
  | .bool, _, _, _, h, _ => by simp only [Rp] at h; simp only [Ty.frz, Rp]; exact ⟨h.1, trivial⟩
  | .er, _, _, _, h, _ => by simp only [Rp] at h; obtain ⟨v, h1, _, h2⟩ := h; simp only [Ty.frz, Rp]; exact ⟨v, h1, trivial, h2⟩
  | .str, _, _, _, h, _ => by simp only [Rp] at h; simp only [Ty.frz, Rp]; exact ⟨h.1, trivial⟩
  | .unit, _, _, _, h, _ => by simp only [Rp] at h; simp only [Ty.frz, Rp]; exact ⟨h.1, trivial⟩
  | .pair a b, x, _, _, h, hF => by
    simp only [Rp] at h
    obtain ⟨v1, v2, F1, F2, rfl, rfl, h1, h2⟩ := h
    have e : toFrz (.pair a b) x = (toFrz a x.1, toFrz b x.2) := cast_pair (Ty.frz_D a).symm (Ty.frz_D b).symm _ x
    rw [e]
    simp only [Ty.frz, Rp]
    exact ⟨v1, v2, [], [], rfl, rfl, Rp.frz hK a _ h1 fun g hg => hF g (by simp [hg]), Rp.frz hK b _ h2 fun g hg => hF g (by simp [hg])⟩
  | .sl o e r, xs, _, _, h, hF => by
    have e0 : toFrz (.sl o e r) xs = (List.map (toFrz r) xs : List r.frz.D) := cast_list (Ty.frz_D r).symm _ xs
    have key : ∀ (ys : List r.D) (us : List Value) (G : List Nat), (∀ g, g ∈ G → K' g) → RpL (Rp w K r) ys us G → RpL (Rp w K' r.frz) (ys.map (toFrz r)) us [] := by
      intro ys
      induction ys with
      | nil => intro us G _ h; exact ⟨h.1, rfl⟩
      | cons y ys ih =>
        rintro us G hG ⟨v1, v2, F1, F2, rfl, rfl, h1, h2⟩
        exact ⟨v1, v2, [], [], rfl, rfl, Rp.frz hK r y h1 fun g hg => hG g (by simp [hg]), ih _ _ (fun g hg => hG g (by simp [hg])) h2⟩
    rw [e0]
    cases o with
    | true =>
      simp only [Rp] at h
      show Rp w K' (.sl false e r.frz) _ _ _
      rw [Rp]
      rcases h with ⟨rfl, rfl, rfl⟩ | ⟨g, off, c, cs, fr, F', rfl, rfl, hh, hn, hc, hl, hr⟩
      · exact ⟨rfl, none, 0, [], rfl, Nat.le_refl _, ⟨rfl, rfl⟩, .inl rfl⟩
      · refine ⟨rfl, some ⟨g, off, none⟩, c, _, by rw [List.length_map], by rw [List.length_map]; exact hl, key _ _ _ (fun g hg => hF g (by simp [hg])) hr, .inr ⟨_, rfl, hF g (by simp), lt_size hh, fun j hj => ?_⟩⟩
        rw [List.length_take, List.length_drop, Array.length_toList (xs := cs)] at hj
        rw [add_blk, cell_blk hh, List.getElem?_take_of_lt (by omega), List.getElem?_drop, Array.getElem?_toList]
    | false =>
      simp only [Rp] at h
      show Rp w K' (.sl false e r.frz) _ _ _
      rw [Rp]
      obtain ⟨rfl, A, c, ws, rfl, hle, hr, hx⟩ := h
      refine ⟨rfl, A, c, ws, by rw [List.length_map], by rw [List.length_map]; exact hle, key _ _ _ (fun g hg => (by cases hg)) hr, ?_⟩
      rcases hx with rfl | ⟨ad, e1, h1, h2, h3⟩
      · exact .inl rfl
      · exact .inr ⟨ad, e1, hK _ h2 h1, h2, h3⟩
  | .pt t, none, _, _, h, _ => by
    simp only [Rp] at h
    show Rp w K' (.pt t) none _ _
    simp only [Rp]
    exact ⟨trivial, h.2⟩
  | .pt t, some x, _, _, h, _ => by
    simp only [Rp] at h
    show Rp w K' (.pt t) (some x) _ _
    simp only [Rp]
    obtain ⟨_, ad, ws, e, h0, h1, h2, h3⟩ := h
    exact ⟨trivial, ad, ws, e, Rp.frame ⟨Nat.le_refl _, fun g hg hlt => ⟨rfl, hK g hlt hg⟩⟩ t x h0 (fun g hg => by cases hg), hK _ h2 h1, h2, h3⟩
theorem Rp.mono {w : World} {K K' : Nat → Prop} (hK : ∀ g, g < w.heap.size → K g → K' g) (t : Ty) (x : t.D) {vs F} (h : Rp w K t x vs F) : Rp w K' t x vs F :=
  Rp.frame ⟨Nat.le_refl _, fun g hg hlt => ⟨rfl, hK g hlt hg⟩⟩ t x h fun _ _ => rfl
theorem Rp.noRo {w : World} {K K' : Nat → Prop} : ∀ (t : Ty) (x : t.D) {vs F}, t.hasRo = false → Rp w K t x vs F → Rp w K' t x vs F
  | .int _, _, _, _, _, h => by simp only [Rp] at h ⊢; exact h
  | .bool, _, _, _, _, h => by simp only [Rp] at h ⊢; exact h
  | .er, _, _, _, _, h => by simp only [Rp] at h ⊢; exact h
  | .str, _, _, _, _, h => by simp only [Rp] at h ⊢; exact h
  | .unit, _, _, _, _, h => by simp only [Rp] at h ⊢; exact h
  | .pair a b, x, _, _, hr, h => by
    simp only [Ty.hasRo, Bool.or_eq_false_iff] at hr
    simp only [Rp] at h ⊢
    obtain ⟨v1, v2, F1, F2, rfl, rfl, h1, h2⟩ := h
    exact ⟨v1, v2, F1, F2, rfl, rfl, Rp.noRo a _ hr.1 h1, Rp.noRo b _ hr.2 h2⟩
  | .sl true _ r, xs, _, _, hr, h => by
    simp only [Ty.hasRo, Bool.not_true, Bool.false_or] at hr
    simp only [Rp] at h ⊢
    rcases h with h | ⟨g, off, c, cs, fr, F', rfl, rfl, hh, hn, hc, hl, hx⟩
    · exact .inl h
    · exact .inr ⟨g, off, c, cs, fr, F', rfl, rfl, hh, hn, hc, hl, RpL.mono (fun x vs F h => Rp.noRo r x hr h) hx⟩
  | .sl false _ _, _, _, _, hr, _ => by simp [Ty.hasRo] at hr
  | .pt _, _, _, _, hr, _ => by simp [Ty.hasRo] at hr
theorem ALOk.mono {w : World} {K K' : Nat → Prop} (hK : ∀ g, g < w.heap.size → K g → K' g) {l : ALeaf} {v F} (h : ALOk w K l v F) : ALOk w K' l v F := ⟨Rp.mono hK _ _ h.1, h.2⟩
theorem A1Ok.mono {w : World} {K K' : Nat → Prop} (hK : ∀ g, g < w.heap.size → K g → K' g) {ms : List Nat} {a : A1} {v F} (h : A1Ok w K ms a v F) : A1Ok w K' ms a v F := by
  cases a with
  | one l => exact ALOk.mono hK h
  | ag ls => obtain ⟨vs, e, h⟩ := h; exact ⟨vs, e, h.mono fun x v F h => ALOk.mono hK h⟩
  | pl m off => exact h
  | rp t x off =>
    obtain ⟨e, a, vs, h1, h2, h3, h4, h5⟩ := h
    exact ⟨e, a, vs, h1, Rp.mono hK _ _ h2, hK _ h4 h3, h4, h5⟩
  | fv f cs => exact h
theorem RowsOk.mono {w : World} {K K' : Nat → Prop} (hK : ∀ g, g < w.heap.size → K g → K' g) : ∀ {ms : List Nat} {rs F}, RowsOk w K ms rs F → RowsOk w K' ms rs F
  | [], _, _, h => h
  | _ :: _, _, _, ⟨r, rs', cs, e, fr, F1, F2, e1, e2, h1, h2, h3, h4⟩ => ⟨r, rs', cs, e, fr, F1, F2, e1, e2, h1, h2, h3.mono fun _ _ _ h => ALOk.mono hK h, RowsOk.mono hK h4⟩
theorem ALOk.noRo {w : World} {K K' : Nat → Prop} {l : ALeaf} {v F} (hr : l.1.hasRo = false) (h : ALOk w K l v F) : ALOk w K' l v F := ⟨Rp.noRo _ _ hr h.1, h.2⟩
theorem ALs.noRo {w : World} {K K' : Nat → Prop} {ls : List ALeaf} {vs F} (hr : (ls.any fun l => l.1.hasRo) = false) (h : FL (ALOk w K) ls vs F) : FL (ALOk w K') ls vs F := by
  rw [List.any_eq_false] at hr
  exact FL.mono' (fun x hx v F _ h => ALOk.noRo (by simpa using hr x hx) h) h
theorem A1Ok.noRo {w : World} {K K' : Nat → Prop} {ms : List Nat} {a : A1} {v F} (hr : a.hasRo = false) (h : A1Ok w K ms a v F) : A1Ok w K' ms a v F := by
  cases a with
  | one l => exact ALOk.noRo hr h
  | ag ls => obtain ⟨vs, e, h⟩ := h; exact ⟨vs, e, ALs.noRo hr h⟩
  | pl m off => exact h
  | rp t x off => cases hr
  | fv f cs => exact h
theorem RowsOk.noRo {w : World} {K K' : Nat → Prop} : ∀ {ms : List Nat} {rs : List (List ALeaf)} {F}, (rs.any fun l => l.any fun x => x.1.hasRo) = false → RowsOk w K ms rs F → RowsOk w K' ms rs F
  | [], _, _, _, h => h
  | _ :: _, _, _, hr, ⟨r, rs', cs, e, fr, F1, F2, e1, e2, h1, h2, h3, h4⟩ => by
    subst e1
    simp only [List.any_cons, Bool.or_eq_false_iff] at hr
    exact ⟨r, rs', cs, e, fr, F1, F2, rfl, e2, h1, h2, ALs.noRo hr.1 h3, RowsOk.noRo hr.2 h4⟩
section
variable {b : Base} {S : St} {c : Cc} {w : World}
def KB (b : Base) (S : St) (c : Cc) (B : List Nat) (g : Nat) : Prop := Kok b S c g ∨ (∃ k, k ∈ B ∧ S.ow k ≠ none ∧ g ∈ c.F k) ∨ ∃ k, k ∈ B ∧ S.ms k ≠ none ∧ g = c.mb k
theorem argLeaf_ok (hi : Inv b S w c) {mv : Bool} {t : Ty} {l : Leaf} {v : Value} {y : ALeaf × List Nat × List Nat} (hl : LeafOk S c w (Kok b S c) l v) (h : (argLeaf mv t l).ev S = some y) :
    Ows S y.2.1 ∧ Ows S y.2.2 ∧ (mv = true → y.2.1 = []) ∧ ∃ G, (∀ B, (∀ k, k ∈ y.2.1 → k ∈ B) → ALOk w (KB b S c B) y.1 v G) ∧ G.Nodup ∧ Held c y.2.2 G := by
  have hn : Ows S [] := fun k hk => (by cases hk)
  have hh : Held c [] [] := fun g hg => (by cases hg)
  unfold argLeaf at h
  split at h
  · simp only [Tr.ev, Option.some.injEq] at h
    subst h
    exact ⟨hn, hn, fun _ => rfl, [], fun B _ => ⟨Rp.mono (fun g _ h => .inl h) _ _ hl, fun _ => rfl⟩, by simp, hh⟩
  · obtain rfl : v = .slice none 0 0 := hl
    split at h
    · split at h
      · simp only [Tr.ev, Option.some.injEq] at h
        subst h
        refine ⟨hn, hn, fun _ => rfl, [], fun B _ => ⟨?_, fun _ => rfl⟩, by simp, hh⟩
        simp only [Rp]; exact .inl ⟨trivial, trivial, trivial⟩
      · simp only [Tr.ev, Option.some.injEq] at h
        subst h
        refine ⟨hn, hn, fun _ => rfl, [], fun B _ => ⟨?_, fun _ => rfl⟩, by simp, hh⟩
        rw [Rp]; exact ⟨rfl, none, 0, [], rfl, Nat.le_refl _, ⟨rfl, rfl⟩, .inl rfl⟩
    · simp [Tr.ev] at h
  · rename_i k st win
    split at h
    · rename_i hmv
      split at h
      · simp only [ev_bind, Option.bind_eq_some_iff, Tr.ev, Option.some.injEq] at h
        obtain ⟨o, ho, h⟩ := h
        subst h
        obtain ⟨h1, F', h2, h3, h4⟩ := view_own hi hl ho
        exact ⟨hn, fun k' hk' => (by simp only [List.mem_singleton] at hk'; subst hk'; exact h1), fun _ => rfl, F', fun B _ => ⟨Rp.mono (fun g _ h => .inl h) _ _ h2, fun h => (by simp [Ty.own] at h)⟩, h4, fun g hg => ⟨k, by simp, h3 g hg⟩⟩
      · simp [Tr.ev] at h
    · rename_i hmv
      simp only [ev_bind, Option.bind_eq_some_iff, Tr.ev, Option.some.injEq] at h
      obtain ⟨o, ho, h⟩ := h
      subst h
      obtain ⟨h1, F', h2, h3, h4⟩ := view_own hi hl ho
      exact ⟨fun k' hk' => (by simp only [List.mem_singleton] at hk'; subst hk'; exact h1), hn, fun h => absurd h hmv, [], fun B hB => ⟨Rp.frz (fun g _ h => .inl h) _ _ h2 fun g hg => .inr (.inl ⟨k, hB k (by simp), h1, h3 g hg⟩), fun _ => rfl⟩, by simp, hh⟩
  · simp [Tr.ev] at h
def Back (S : St) (c : Cc) (w : World) (K : Nat → Prop) (k : Nat) (st : Steps) (v : Value) (Fa Fb : List Nat) : Prop :=
  ∃ o0, S.ow k = some o0 ∧ (∃ G, c.F k = Fa ++ (G ++ Fb)) ∧
    ∀ (d : (u : Ty) × u.D) (z : d.1.D) (zs : (Ty.sl true o0.e o0.r).D), (getT (.sl true o0.e o0.r) o0.xs st).run = some d → (setT (.sl true o0.e o0.r) o0.xs st d.1 z).run = some zs →
      ∀ (w' : World) (K' : Nat → Prop) (G' : List Nat), Rp w' K' d.1 z [v] G' → KSame w w' K K' → Same w w' Fa → Same w w' Fb → Rp w' K' (.sl true o0.e o0.r) zs [c.hv k] (Fa ++ (G' ++ Fb))
def LnOk (S : St) (c : Cc) (w : World) (K : Nat → Prop) (q : Option (Nat × Steps)) (v : Value) (gv G : List Nat) : Prop := match q with
  | none => v = .slice none 0 0
  | some (k, st) => k ∈ gv ∧ ∃ Fa Fb, Back S c w K k st v Fa Fb ∧ ∀ g, g ∈ G → g ∉ Fa ∧ g ∉ Fb
theorem Rp.back {w : World} {K : Nat → Prop} : ∀ (st : Steps) (t : Ty) (x : t.D) {h : Value} {F : List Nat} {c : (u : Ty) × u.D}, Rp w K t x [h] F → (getT t x st).run = some c →
    ∃ h' Fa G Fb, hdr w h t st = some h' ∧ F = Fa ++ (G ++ Fb) ∧ Rp w K c.1 c.2 [h'] G ∧ ∀ (z : c.1.D) (y : t.D), (setT t x st c.1 z).run = some y →
      ∀ (w' : World) (K' : Nat → Prop) (G' : List Nat), Rp w' K' c.1 z [h'] G' → KSame w w' K K' → Same w w' Fa → Same w w' Fb → Rp w' K' t y [h] (Fa ++ (G' ++ Fb))
  | [], t, x, h, F, c, hp, hg => by
    simp only [getT, Tr.run, Option.some.injEq] at hg
    subst hg
    refine ⟨h, [], F, [], rfl, by simp, hp, fun z y hs w' K' G' hz _ _ _ => ?_⟩
    simp only [setT] at hs
    split at hs
    · simp only [Tr.run, Option.some.injEq] at hs
      subst hs
      simpa using hz
    · simp [Tr.run] at hs
  | (i, j) :: ps, t, x, h, F, c, hp, hg => by
    match t, x, hp, hg with
    | .sl true e r, xs, hp, hg =>
      obtain ⟨row, d, hrow, hd, hrest⟩ := getT_run_cons hg
      obtain ⟨g, off, cap, cs, fr, v, F1, Fa0, G0, Fb0, F2, rfl, rfl, hh, hn, _, _, hcell, hlt, hv, hput⟩ := Rp.elem hp hrow hd
      have hc? : w.cell? ⟨g, off + (i * r.size + j), none⟩ = some v := by rw [cell_blk hh]; exact hcell
      obtain ⟨h', Ga, G, Gb, hhd, rfl, hp', hset2⟩ := Rp.back ps d.1 d.2 hv hrest
      refine ⟨h', g :: (F1 ++ (Fa0 ++ Ga)), G, Gb ++ (Fb0 ++ F2), ?_, by simp, hp', ?_⟩
      · cases ps with
        | nil =>
          simp only [hdr, Option.some.injEq] at hhd
          subst hhd
          simp only [hdr, adr, add_blk]; exact hc?
        | cons p ps =>
          simp only [hdr, adr, add_blk, hc?, cty_cell r row j hd]
          simpa only [hdr] using hhd
      · intro z y hs w' K' G' hz hK sa sb
        have hs' : ∃ yy row', (setT d.1 d.2 ps c.1 z).run = some yy ∧ setCell r row j d.1 yy = some row' ∧ y = (xs : List r.D).set i row' := by
          simp only [setT, run_get, Option.bind_eq_some_iff] at hs
          obtain ⟨row2, hrow2, hs⟩ := hs
          obtain rfl : row = row2 := by rw [hrow] at hrow2; injection hrow2
          rw [hd] at hs
          simp only [run_bind, Option.bind_eq_some_iff] at hs
          obtain ⟨yy, h1, hs⟩ := hs
          split at hs
          · rename_i row' hr; simp only [Tr.run, Option.some.injEq] at hs; exact ⟨yy, row', h1, hr, hs.symm⟩
          · simp [Tr.run] at hs
        obtain ⟨yy, row', hsy, hset, rfl⟩ := hs'
        have hinner := hset2 z yy hsy w' K' G' hz hK (fun b hb => sa b (by simp [hb])) (fun b hb => sb b (by simp [hb]))
        have hgs : w'.heap[g]? = some (.cells cs e fr) := by rw [sa g (by simp)]; exact hh
        have hsame : cs = cs.setIfInBounds (off + (i * r.size + j)) v := by
          apply Array.ext_getElem?
          intro m
          rw [Array.getElem?_setIfInBounds]
          split
          · subst_vars; first | exact hcell | (rw [if_pos hlt]; exact hcell)
          · rfl
        have := hput w' K' yy v (Ga ++ (G' ++ Gb)) row' cs hset hinner hK hgs hsame (fun b hb => sa b (by simp [hb])) (fun b hb => sa b (by simp [hb])) (fun b hb => sb b (by simp [hb])) (fun b hb => sb b (by simp [hb]))
        simpa using this
    | .sl false _ _, _, _, hg => simp [getT, Tr.run] at hg
    | .int _, _, _, hg => simp [getT, Tr.run] at hg
    | .bool, _, _, hg => simp [getT, Tr.run] at hg
    | .er, _, _, hg => simp [getT, Tr.run] at hg
    | .str, _, _, hg => simp [getT, Tr.run] at hg
    | .pt _, _, _, hg => simp [getT, Tr.run] at hg
    | .unit, _, _, hg => simp [getT, Tr.run] at hg
    | .pair _ _, _, _, hg => simp [getT, Tr.run] at hg
theorem lentLeaf_ok (hi : Inv b S w c) {t : Ty} {l : Leaf} {v : Value} {y : ALeaf × List Nat × List Nat} (hl : LeafOk S c w (Kok b S c) l v) (h : (lentLeaf t l).ev S = some y) :
    Ows S y.2.1 ∧ Ows S y.2.2 ∧ ∃ G, (∀ B, (∀ k, k ∈ y.2.1 → k ∈ B) → ALOk w (KB b S c B) y.1 v G) ∧ G.Nodup ∧ Held c y.2.2 G ∧ ∀ p e, e ∈ lentOf p l → e.1 = p ∧ LnOk S c w (Kok b S c) e.2 v y.2.2 G := by
  unfold lentLeaf at h
  split at h
  · rename_i k st
    simp only [ev_bind, Option.bind_eq_some_iff, Tr.ev, Option.some.injEq] at h
    obtain ⟨o, ho, h⟩ := h
    subst h
    obtain ⟨o0, e, r, ys, hd, ho0, hg, hh, hw⟩ := hl
    have hw' : v = hd := hw
    subst hw'
    obtain ⟨h', Fa, G, Fb, k1, k2, k3, k4⟩ := Rp.back st _ _ (hi.ow k o0 ho0) hg
    rw [hh] at k1
    injection k1 with k1
    subst k1
    have hnd := hi.nd k (by rw [ho0]; simp)
    rw [k2] at hnd
    obtain ⟨n1, n2, n3⟩ := List.nodup_append.1 hnd
    obtain ⟨m1, m2, m3⟩ := List.nodup_append.1 n2
    have hoo : o = ⟨e, r, ys⟩ := by
      simp only [viewT, Tr.ev, ho0, ev_bind, Option.bind_eq_some_iff] at ho
      obtain ⟨c0, hc0, ho⟩ := ho
      rw [ev_get, hg] at hc0
      injection hc0 with hc0
      subst hc0
      simp only [Tr.ev, Option.some.injEq] at ho
      exact ho.symm
    subst hoo
    refine ⟨fun k hk => (by cases hk), fun k' hk' => (by simp only [List.mem_singleton] at hk'; subst hk'; rw [ho0]; simp), G, fun B _ => ⟨Rp.mono (fun g _ h => .inl h) _ _ k3, fun h => (by simp [Ty.own] at h)⟩, m1, fun g hg => ⟨k, by simp, by rw [k2]; simp [hg]⟩, ?_⟩
    intro p e' he'
    simp only [lentOf, List.mem_singleton] at he'
    subst he'
    refine ⟨rfl, by simp, Fa, Fb, ⟨o0, ho0, ⟨G, k2⟩, ?_⟩, fun g hg => ⟨fun hx => n3 g hx g (by simp [hg]) rfl, fun hx => m3 g hg g hx rfl⟩⟩
    intro d z zs hd' hs'
    rw [hg] at hd'
    injection hd' with hd'
    subst hd'
    exact k4 z zs hs'
  · simp [Tr.ev] at h
  · rename_i hn1 hn2
    obtain ⟨k1, k2, _, G, k4, k5, k6⟩ := argLeaf_ok hi hl h
    refine ⟨k1, k2, G, k4, k5, k6, fun p e he => ?_⟩
    cases l with
    | vw k st win =>
      cases win with
      | none => exact absurd rfl (hn1 k st)
      | some w => exact absurd rfl (hn2 k st w)
    | nil =>
      simp only [lentOf, List.mem_singleton] at he
      subst he
      exact ⟨rfl, hl⟩
    | v t x => cases he
    | qn q => cases he
    | no => cases he
theorem modeLeaf_ok (hi : Inv b S w c) {m : Nat} {t : Ty} {l : Leaf} {v : Value} {y : ALeaf × List Nat × List Nat} (hl : LeafOk S c w (Kok b S c) l v) (h : (modeLeaf m t l).ev S = some y) :
    Ows S y.2.1 ∧ Ows S y.2.2 ∧ ∃ G, (∀ B, (∀ k, k ∈ y.2.1 → k ∈ B) → ALOk w (KB b S c B) y.1 v G) ∧ G.Nodup ∧ Held c y.2.2 G ∧ (m = 2 → ∀ p e, e ∈ lentOf p l → e.1 = p ∧ LnOk S c w (Kok b S c) e.2 v y.2.2 G) := by
  unfold modeLeaf at h
  split at h
  · obtain ⟨k1, k2, G, k3, k4, k5, k6⟩ := lentLeaf_ok hi hl h
    exact ⟨k1, k2, G, k3, k4, k5, fun _ => k6⟩
  · rename_i hm
    obtain ⟨k1, k2, _, G, k4, k5, k6⟩ := argLeaf_ok hi hl h
    exact ⟨k1, k2, G, k4, k5, k6, fun h => absurd h hm⟩
theorem LnOk.left (hi : Inv b S w c) {q : Option (Nat × Steps)} {v : Value} {g1 g2 G1 G2 : List Nat} (h : LnOk S c w (Kok b S c) q v g1 G1) (hh : Held c g2 G2) (ho : Ows S g1) (ho2 : Ows S g2) (hu : unlike (g1 ++ g2) = true) : LnOk S c w (Kok b S c) q v (g1 ++ g2) (G1 ++ G2) := by
  cases q with
  | none => exact h
  | some q =>
    obtain ⟨k, st⟩ := q
    obtain ⟨hk, Fa, Fb, hB, hd⟩ := h
    refine ⟨by simp [hk], Fa, Fb, hB, fun g hg => ?_⟩
    rcases List.mem_append.1 hg with hg | hg
    · exact hd g hg
    · obtain ⟨k2, q1, q2⟩ := hh g hg
      obtain ⟨_, _, u⟩ := unlike_append hu
      have hne : k2 ≠ k := by rintro rfl; exact u k2 hk q1
      have hno := hi.oo k2 k hne (ho2 k2 q1) (ho k hk) g q2
      obtain ⟨_, _, ⟨G0, hF⟩, _⟩ := hB
      rw [hF] at hno
      simp only [List.mem_append, not_or] at hno
      exact ⟨hno.1, hno.2.2⟩
theorem LnOk.right (hi : Inv b S w c) {q : Option (Nat × Steps)} {v : Value} {g1 g2 G1 G2 : List Nat} (h : LnOk S c w (Kok b S c) q v g2 G2) (hh : Held c g1 G1) (ho : Ows S g1) (ho2 : Ows S g2) (hu : unlike (g1 ++ g2) = true) : LnOk S c w (Kok b S c) q v (g1 ++ g2) (G1 ++ G2) := by
  cases q with
  | none => exact h
  | some q =>
    obtain ⟨k, st⟩ := q
    obtain ⟨hk, Fa, Fb, hB, hd⟩ := h
    refine ⟨by simp [hk], Fa, Fb, hB, fun g hg => ?_⟩
    rcases List.mem_append.1 hg with hg | hg
    · obtain ⟨k2, q1, q2⟩ := hh g hg
      obtain ⟨_, _, u⟩ := unlike_append hu
      have hne : k2 ≠ k := by rintro rfl; exact u k2 q1 hk
      have hno := hi.oo k2 k hne (ho k2 q1) (ho2 k hk) g q2
      obtain ⟨_, _, ⟨G0, hF⟩, _⟩ := hB
      rw [hF] at hno
      simp only [List.mem_append, not_or] at hno
      exact ⟨hno.1, hno.2.2⟩
    · exact hd g hg
theorem argLeaves_ok (hi : Inv b S w c) {m : Nat} : ∀ {ls : List Leaf} {ts : List Ty} {vs : List Value} {y : List ALeaf × List Nat × List Nat}, All2 (LeafOk S c w (Kok b S c)) ls vs → (argLeaves m ts ls).ev S = some y →
    Ows S y.2.1 ∧ Ows S y.2.2 ∧ ∃ G, (∀ B, (∀ k, k ∈ y.2.1 → k ∈ B) → FL (ALOk w (KB b S c B)) y.1 vs G) ∧ (unlike y.2.2 = true → G.Nodup) ∧ Held c y.2.2 G ∧
      (m = 2 → unlike y.2.2 = true → ∀ i j e, e ∈ lentsOf i j ls → ∃ n u, e.1 = (i, j + n) ∧ vs[n]? = some u ∧ LnOk S c w (Kok b S c) e.2 u y.2.2 G)
  | [], ts, _, y, .nil, h => by
    rw [argLeaves] at h
    simp only [Tr.ev, Option.some.injEq] at h
    subst h
    exact ⟨fun k hk => (by cases hk), fun k hk => (by cases hk), [], fun B _ => ⟨rfl, rfl⟩, fun _ => by simp, fun g hg => (by cases hg), fun _ _ i j e he => by cases he⟩
  | l :: ls, ts, _, y, .cons (b := v) (bs := vs) h1 h2, h => by
    rw [argLeaves] at h
    simp only [ev_bind, Option.bind_eq_some_iff, Tr.ev, Option.some.injEq] at h
    obtain ⟨y1, hy1, y2, hy2, rfl⟩ := h
    obtain ⟨k1, k2, G, k4, k5, k6, k7⟩ := modeLeaf_ok hi h1 hy1
    obtain ⟨m1, m2, H, m4, m5, m6, m7⟩ := argLeaves_ok hi h2 hy2
    refine ⟨ows_append k1 m1, ows_append k2 m2, G ++ H, fun B hB => ⟨v, vs, G, H, rfl, rfl, k4 B fun k hk => hB k (by simp [hk]), m4 B fun k hk => hB k (by simp [hk])⟩, ?_, ?_, ?_⟩
    rotate_left 2
    · intro hm hu i j e he
      obtain ⟨u1, u2, _⟩ := unlike_append hu
      simp only [lentsOf] at he
      rcases List.mem_append.1 he with he | he
      · obtain ⟨q1, q2⟩ := k7 hm _ e he
        exact ⟨0, v, q1, rfl, q2.left hi m6 k2 m2 hu⟩
      · obtain ⟨n, u, q1, q2, q3⟩ := m7 hm u2 i (j + 1) e he
        exact ⟨n + 1, u, by rw [q1]; congr 1; omega, by simpa using q2, q3.right hi k6 k2 m2 hu⟩
    · intro hu
      obtain ⟨u1, u2, _⟩ := unlike_append hu
      exact (held_append hi k6 m6 k2 m2 hu k5 (m5 u2)).2
    · intro g hg
      rcases List.mem_append.1 hg with hg | hg
      · obtain ⟨k, h, h'⟩ := k6 g hg; exact ⟨k, by simp [h], h'⟩
      · obtain ⟨k, h, h'⟩ := m6 g hg; exact ⟨k, by simp [h], h'⟩
structure AInv (b : Base) (S : St) (c : Cc) (w : World) (C : AC) (vals : List Value) (F : List Nat) : Prop where
  fl : ∀ eb em, FL (A1Ok w (KB b S c (C.bw ++ eb)) ((C.ms ++ em).map fun p => c.mb p.1)) C.as vals F
  held : Held c C.gv F
  gv : Ows S C.gv
  bw : True
  nd : unlike C.gv = true → F.Nodup
  ms : ∀ p, p ∈ C.ms → S.ms p.1 = some p.2.length
  un : (C.ms.map (·.1)).Nodup
  ln : unlike C.gv = true → ∀ e, e ∈ C.ln → ∃ v, valAt vals e.1 = some v ∧ LnOk S c w (Kok b S c) e.2 v C.gv F
theorem valAt_more {vals more : List Value} {p : Nat × Nat} {v : Value} (h : valAt vals p = some v) : valAt (vals ++ more) p = some v := by
  unfold valAt at h ⊢
  cases hv : vals[p.1]? with
  | none => rw [hv] at h; cases h
  | some u =>
    have : (vals ++ more)[p.1]? = some u := by rw [List.getElem?_append_left (List.getElem?_eq_some_iff.1 hv).1]; exact hv
    rw [this]
    rw [hv] at h
    exact h
theorem valAt_one {vals : List Value} {v : Value} (hv : ∀ vs, v ≠ .agg vs) : valAt (vals ++ [v]) (vals.length, 0) = some v := by
  unfold valAt
  rw [List.getElem?_append_right (Nat.le_refl _), Nat.sub_self]
  cases v <;> first | rfl | (exact absurd rfl (hv _))
theorem valAt_ag {vals : List Value} {vs : List Value} {n : Nat} {u : Value} (hu : vs[n]? = some u) : valAt (vals ++ [.agg vs.toArray]) (vals.length, n) = some u := by
  unfold valAt
  rw [List.getElem?_append_right (Nat.le_refl _), Nat.sub_self]
  simpa using hu
theorem AInv.step (hi : Inv b S w c) {C : AC} {vals : List Value} {F : List Nat} (h : AInv b S c w C vals F) {a : A1} {v : Value} {bw gv : List Nat} {G : List Nat}
    (_h1 : Ows S bw) (h2 : Ows S gv) (h3 : ∀ B ms, (∀ k, k ∈ bw → k ∈ B) → A1Ok w (KB b S c B) ms a v G) (h4 : unlike gv = true → G.Nodup) (h5 : Held c gv G)
    {L : List ((Nat × Nat) × Option (Nat × Steps))} (h6 : unlike gv = true → ∀ e, e ∈ L → ∃ u, valAt (vals ++ [v]) e.1 = some u ∧ LnOk S c w (Kok b S c) e.2 u gv G) :
    AInv b S c w { C with as := C.as ++ [a], bw := C.bw ++ bw, gv := C.gv ++ gv, ln := C.ln ++ L } (vals ++ [v]) (F ++ G) := by
  refine ⟨?_, ?_, ows_append h.gv h2, trivial, ?_, h.ms, h.un, ?_⟩
  rotate_left 3
  · intro hu e he
    obtain ⟨u1, u2, _⟩ := unlike_append hu
    rcases List.mem_append.1 he with he | he
    · obtain ⟨u, q1, q2⟩ := h.ln u1 e he
      exact ⟨u, valAt_more q1, q2.left hi h5 h.gv h2 hu⟩
    · obtain ⟨u, q1, q2⟩ := h6 u2 e he
      exact ⟨u, q1, q2.right hi h.held h.gv h2 hu⟩
  · intro eb em
    have := h.fl (bw ++ eb) em
    rw [← List.append_assoc] at this
    exact this.snoc (h3 _ _ fun k hk => by simp [hk])
  · intro g hg
    rcases List.mem_append.1 hg with hg | hg
    · obtain ⟨k, q, q'⟩ := h.held g hg; exact ⟨k, by simp [q], q'⟩
    · obtain ⟨k, q, q'⟩ := h5 g hg; exact ⟨k, by simp [q], q'⟩
  · intro hu
    obtain ⟨u1, u2, _⟩ := unlike_append hu
    exact (held_append hi h.held h5 h.gv h2 hu (h.nd u1) (h4 u2)).2
theorem findIdx_ok : ∀ (l : List Nat) (k : Nat), l.contains k = true → l[l.findIdx (· == k)]? = some k
  | [], _, h => by simp at h
  | x :: l, k, h => by
    rw [List.findIdx_cons]
    by_cases hx : x = k
    · subst hx; simp
    · have : (x == k) = false := by simp [hx]
      rw [this]
      simp only [cond_false, List.getElem?_cons_succ]
      refine findIdx_ok l k ?_
      simp only [List.contains_cons, Bool.or_eq_true, beq_iff_eq] at h
      exact h.resolve_left fun h => hx h.symm
theorem placeT_ok {C : AC} {vals : List Value} {F : List Nat} (hA : AInv b S c w C vals F) {k off n : Nat} {ts : Option (List Ty)} {y : (Nat × Nat) × AC} (hn : S.ms k = some n) (h : (placeT k off ts C).ev S = some y) :
    AInv b S c w y.2 vals F ∧ (∃ more, y.2.ms = C.ms ++ more) ∧ (y.2.as = C.as ∧ y.2.bw = C.bw ∧ y.2.gv = C.gv) ∧ y.1.2 = off ∧ ∀ em, ((y.2.ms ++ em).map fun p => c.mb p.1)[y.1.1]? = some (c.mb k) := by
  unfold placeT at h
  split at h
  · rename_i ts
    split at h
    · rename_i hc
      simp only [Tr.ev, Option.some.injEq] at h
      subst h
      refine ⟨hA, ⟨[], by simp⟩, ⟨rfl, rfl, rfl⟩, rfl, fun em => ?_⟩
      have hf := findIdx_ok (C.ms.map (·.1)) k hc
      have hlt : place (C.ms.map (·.1)) k < C.ms.length := by
        have := (List.getElem?_eq_some_iff.1 hf).1
        simpa [place] using this
      rw [List.map_append, List.getElem?_append_left (by simpa using hlt)]
      have h9 : ((C.ms.map (·.1)).map c.mb)[place (C.ms.map (·.1)) k]? = some (c.mb k) := by
        rw [List.getElem?_map, show (C.ms.map (·.1))[place (C.ms.map (·.1)) k]? = some k from hf]; rfl
      rw [List.map_map] at h9
      exact h9
    · rename_i hc
      split at h
      · rename_i hoff
        simp only [Tr.ev, hn] at h
        split at h
        · rename_i hn2
          injection hn2 with hn2
          simp only [Tr.ev, Option.some.injEq] at h
          subst h
          refine ⟨⟨fun eb em => ?_, hA.held, hA.gv, hA.bw, hA.nd, ?_, ?_, hA.ln⟩, ⟨_, rfl⟩, ⟨rfl, rfl, rfl⟩, rfl, fun em => ?_⟩
          · have := hA.fl eb ((k, ts) :: em)
            simpa using this
          · intro p hp
            rcases List.mem_append.1 hp with hp | hp
            · exact hA.ms p hp
            · simp only [List.mem_singleton] at hp
              subst hp
              rw [hn, hn2]
          · rw [List.map_append, List.nodup_append]
            refine ⟨hA.un, by simp, ?_⟩
            rintro q hq q' hq' rfl
            simp only [List.map_cons, List.map_nil, List.mem_singleton] at hq'
            subst hq'
            exact hc (by simpa using hq)
          · rw [List.append_assoc, List.map_append, List.getElem?_append_right (by simp)]; simp
        · simp [Tr.ev] at h
      · simp [Tr.ev] at h
  · simp [Tr.ev] at h
def PlAt (c : Cc) (C : AC) (p : Nat × Nat) (v : Value) : Prop := ∀ em, ∃ g, ((C.ms ++ em).map fun p => c.mb p.1)[p.1]? = some g ∧ v = .pointer (some ⟨g, p.2, none⟩)
theorem capsT_ok : ∀ (cs : List (Nat × Nat)) (tss : List (List Ty)) {vs : List Value} {C : AC} {vals : List Value} {F : List Nat} {y : List (Nat × Nat) × AC}, All2 (PlOk S c) cs vs → AInv b S c w C vals F → (capsT cs tss C).ev S = some y →
    AInv b S c w y.2 vals F ∧ ((∃ more, y.2.ms = C.ms ++ more) ∧ y.2.as = C.as ∧ y.2.bw = C.bw ∧ y.2.gv = C.gv) ∧ All2 (PlAt c y.2) y.1 vs
  | [], tss, _, C, vals, F, y, .nil, hA, h => by
    rw [capsT] at h
    simp only [Tr.ev, Option.some.injEq] at h
    subst h
    exact ⟨hA, ⟨⟨[], by simp⟩, rfl, rfl, rfl⟩, .nil⟩
  | p :: cs, tss, _, C, vals, F, y, .cons (b := v) (bs := vs) h1 h2, hA, h => by
    rw [capsT] at h
    simp only [ev_bind, Option.bind_eq_some_iff, Tr.ev, Option.some.injEq] at h
    obtain ⟨y1, hy1, y2, hy2, rfl⟩ := h
    obtain ⟨n, hn, rfl⟩ := h1
    obtain ⟨q1, ⟨m1, e1⟩, ⟨a1, a2, a3⟩, q3, q4⟩ := placeT_ok hA hn hy1
    obtain ⟨r1, ⟨⟨m2, e2⟩, b1, b2, b3⟩, r3⟩ := capsT_ok cs _ h2 q1 hy2
    refine ⟨r1, ⟨⟨m1 ++ m2, by rw [e2, e1, List.append_assoc]⟩, b1.trans a1, b2.trans a2, b3.trans a3⟩, .cons (fun em => ⟨c.mb p.1, ?_, by rw [q3]⟩) r3⟩
    rw [e2, List.append_assoc]
    exact q4 _
theorem lent_noagg (hi : Inv b S w c) {l : Leaf} {v : Value} (hl : LeafOk S c w (Kok b S c) l v) {p : Nat × Nat} {e : (Nat × Nat) × Option (Nat × Steps)} (he : e ∈ lentOf p l) : ∀ vs, v ≠ .agg vs := by
  intro vs
  cases l with
  | vw k st win => obtain ⟨A, n, cap, rfl⟩ := vw_slice hi hl; simp
  | nil => rw [show v = .slice none 0 0 from hl]; simp
  | v t x => cases he
  | qn q => cases he
  | no => cases he
theorem argLeaf_gv {t : Ty} {l : Leaf} {y : ALeaf × List Nat × List Nat} (h : (argLeaf false t l).ev S = some y) : y.2.2 = [] := by
  unfold argLeaf at h
  split at h
  · simp only [Tr.ev, Option.some.injEq] at h
    subst h; rfl
  · split at h
    · simp only [Bool.false_eq_true, if_false, Tr.ev, Option.some.injEq] at h
      subst h; rfl
    · simp [Tr.ev] at h
  · simp only [Bool.false_eq_true, if_false, ev_bind, Option.bind_eq_some_iff, Tr.ev, Option.some.injEq] at h
    obtain ⟨o, _, h⟩ := h
    subst h; rfl
  · simp [Tr.ev] at h
theorem shownRow_ok (hi : Inv b S w c) (k : Nat) : ∀ (ts : List Ty) (i : Nat) (vs : List Value) {y : List ALeaf × List Nat}, vs.length = ts.length → (∀ j v, vs[j]? = some v → LeafOk S c w (Kok b S c) (S.mc k (i + j)) v) → (shownRow k ts i).ev S = some y →
    ∀ B, (∀ k', k' ∈ y.2 → k' ∈ B) → FL (ALOk w (KB b S c B)) y.1 vs []
  | [], i, vs, y, hl, _, h => by
    rw [shownRow] at h
    simp only [Tr.ev, Option.some.injEq] at h
    subst h
    obtain rfl : vs = [] := List.eq_nil_of_length_eq_zero hl
    exact fun B _ => ⟨rfl, rfl⟩
  | t :: ts, i, [], y, hl, _, _ => by simp at hl
  | t :: ts, i, v :: vs, y, hl, hc, h => by
    rw [shownRow] at h
    simp only [Tr.ev, ev_bind, Option.bind_eq_some_iff, Option.some.injEq] at h
    obtain ⟨y1, hy1, y2, hy2, rfl⟩ := h
    obtain ⟨k1, k2, k3, G, k4, k5, k6⟩ := argLeaf_ok hi (hc 0 v rfl) hy1
    have hG : G = [] := by
      rw [argLeaf_gv hy1] at k6
      cases G with
      | nil => rfl
      | cons g G => obtain ⟨k, hk, _⟩ := k6 g (by simp); cases hk
    subst hG
    have m := shownRow_ok hi k ts (i + 1) vs (by simpa using hl) (fun j v hv => by
      have := hc (j + 1) v (by simpa using hv)
      rwa [show i + (j + 1) = i + 1 + j by omega] at this) hy2
    exact fun B hB => ⟨v, vs, [], [], rfl, rfl, k4 B fun k hk => hB k (by simp [hk]), m B fun k hk => hB k (by simp [hk])⟩
theorem packed_ok {K : Nat → Prop} : ∀ (ls : List ALeaf) {vs : List Value}, FL (ALOk w K) ls vs [] → Rp w K (packed ls).1 (packed ls).2 vs []
  | [], vs, h => by
    obtain ⟨rfl, _⟩ := h
    rw [packed, Rp]; exact ⟨rfl, rfl⟩
  | [l], vs, h => by
    obtain ⟨v, vs', F1, F2, rfl, hF, h1, rfl, rfl⟩ := h
    obtain ⟨rfl, _⟩ := List.append_eq_nil_iff.1 hF.symm
    exact h1.1
  | l :: m :: ls, vs, h => by
    obtain ⟨v, vs', F1, F2, rfl, hF, h1, h2⟩ := h
    obtain ⟨rfl, rfl⟩ := List.append_eq_nil_iff.1 hF.symm
    have := packed_ok (m :: ls) h2
    rw [packed, Rp]
    exact ⟨[v], vs', [], [], rfl, rfl, h1.1, this⟩
theorem argsT_ok (hi : Inv b S w c) {E : Env} : ∀ (xs : List (SV × TypeId)) (mvs : List Nat) (us : List Value) (C : AC) (vals : List Value) (F : List Nat) {C' : AC}, All2 (fun x u => SVOk S c w (Kok b S c) x.1 u) xs us → AInv b S c w C vals F →
    (argsT E mvs xs C).ev S = some C' → ∃ F', AInv b S c w C' (vals ++ us) F'
  | [], mvs, _, C, vals, F, C', .nil, hA, h => by
    rw [argsT] at h
    simp only [Tr.ev, Option.some.injEq] at h
    subst h
    exact ⟨F, by rw [List.append_nil]; exact hA⟩
  | (x, t) :: xs, mvs, _, C, vals, F, C', .cons (b := u) (bs := us) h1 h2, hA, h => by
    unfold argsT at h
    rw [show vals ++ u :: us = (vals ++ [u]) ++ us by simp]
    simp only at h h1
    split at h
    · simp only [ev_bind, Option.bind_eq_some_iff] at h
      obtain ⟨y, hy, h⟩ := h
      rename_i l
      obtain ⟨k1, k2, G, k4, k5, k6, k7⟩ := modeLeaf_ok hi (leaf_sv h1) hy
      refine argsT_ok hi xs _ us _ _ _ h2 (hA.step hi (a := .one y.1) k1 k2 (fun B ms hB => k4 B hB) (fun _ => k5) k6 ?_) h
      intro _ e he
      split at he
      · rename_i hm
        obtain ⟨q1, q2⟩ := k7 hm _ e he
        have hlen : C.as.length = vals.length := (hA.fl [] []).len.symm
        refine ⟨u, ?_, q2⟩
        rw [q1, hlen]
        exact valAt_one (lent_noagg hi (leaf_sv h1) he)
      · cases he
    · simp only [ev_bind, Option.bind_eq_some_iff] at h
      obtain ⟨y, hy, h⟩ := h
      obtain ⟨vs, rfl, hall⟩ := h1
      obtain ⟨k1, k2, G, k4, k5, k6, k7⟩ := argLeaves_ok hi hall hy
      refine argsT_ok hi xs _ us _ _ _ h2 (hA.step hi (a := .ag y.1) k1 k2 (fun B ms hB => ⟨vs, rfl, k4 B hB⟩) k5 k6 ?_) h
      intro hu e he
      split at he
      · rename_i hm
        obtain ⟨n, u, q1, q2, q3⟩ := k7 hm hu _ _ e he
        have hlen : C.as.length = vals.length := (hA.fl [] []).len.symm
        refine ⟨u, ?_, q3⟩
        rw [q1, hlen, Nat.zero_add]
        exact valAt_ag q2
      · cases he
    · rename_i u' x' off
      have hx : AInv b S c w { C with as := C.as ++ [A1.rp u' x' off] } (vals ++ [u]) F := by
        refine ⟨fun eb em => ?_, hA.held, hA.gv, hA.bw, hA.nd, hA.ms, hA.un, fun hu e he => (hA.ln hu e he).imp fun _ h => ⟨valAt_more h.1, h.2⟩⟩
        obtain ⟨a, vs, e, q1, q2, q3, q4⟩ := h1
        have := (hA.fl eb em).snoc (x := A1.rp u' x' off) (v := u) (G := []) ⟨rfl, a, vs, e, Rp.mono (fun g _ h => .inl h) _ _ q1, .inl q2, q3, q4⟩
        rwa [List.append_nil] at this
      exact argsT_ok hi xs _ us _ _ _ h2 hx h
    · rename_i k off
      split at h
      · split at h
        · rename_i ts _
          simp only [Tr.ev] at h
          split at h
          · rename_i hn
            simp only [ev_bind, Option.bind_eq_some_iff] at h
            obtain ⟨y, hy, h⟩ := h
            obtain ⟨n, _, rfl⟩ := h1
            obtain ⟨cs, e, fr, g1, g2, g3, g4⟩ := hi.ms k _ hn
            have hfl := shownRow_ok hi k ts 0 cs.toList (by simpa using g2) (fun j v hv => by rw [Nat.zero_add]; exact g4 j v (by simpa using hv)) hy
            have hlt : c.mb k < w.heap.size := (hi.fr _ (.inl ⟨k, by rw [hn]; simp, rfl⟩)).1
            have hx : AInv b S c w { C with as := C.as ++ [A1.rp (packed y.1).1 (packed y.1).2 off], bw := C.bw ++ k :: y.2 } (vals ++ [.pointer (some ⟨c.mb k, off, none⟩)]) F := by
              refine ⟨fun eb em => ?_, hA.held, hA.gv, trivial, hA.nd, hA.ms, hA.un, fun hu e he => (hA.ln hu e he).imp fun _ h => ⟨valAt_more h.1, h.2⟩⟩
              have h0 := hA.fl ((k :: y.2) ++ eb) em
              rw [← List.append_assoc] at h0
              have := h0.snoc (x := A1.rp (packed y.1).1 (packed y.1).2 off) (v := .pointer (some ⟨c.mb k, off, none⟩)) (G := []) ⟨rfl, ⟨c.mb k, 0, none⟩, cs.toList, by simp [Addr.add], packed_ok _ (hfl _ fun k' hk' => by simp [hk']),
                .inr (.inr ⟨k, by simp, by rw [hn]; simp, rfl⟩), hlt, fun j hj => by
                  have e0 : (⟨c.mb k, 0, none⟩ : Addr).add j = ⟨c.mb k, j, none⟩ := by simp [Addr.add]; omega
                  rw [e0, cell_blk g1]; simp⟩
              rwa [List.append_nil] at this
            exact argsT_ok hi xs _ us _ _ _ h2 hx h
          · simp [Tr.ev] at h
        · simp [Tr.ev] at h
      simp only [ev_bind, Option.bind_eq_some_iff] at h
      obtain ⟨y, hy, h⟩ := h
      obtain ⟨n, hn, rfl⟩ := h1
      obtain ⟨q1, q2, _, q3, q4⟩ := placeT_ok hA hn hy
      have hx : AInv b S c w { y.2 with as := y.2.as ++ [A1.pl y.1.1 y.1.2] } (vals ++ [.pointer (some ⟨c.mb k, off, none⟩)]) F := by
        refine ⟨fun eb em => ?_, q1.held, q1.gv, q1.bw, q1.nd, q1.ms, q1.un, fun hu e he => (q1.ln hu e he).imp fun _ h => ⟨valAt_more h.1, h.2⟩⟩
        have := (q1.fl eb em).snoc (x := A1.pl y.1.1 y.1.2) (v := .pointer (some ⟨c.mb k, off, none⟩)) (G := []) ⟨rfl, c.mb k, q4 em, by rw [q3]⟩
        rwa [List.append_nil] at this
      exact argsT_ok hi xs _ us _ _ _ h2 hx h
    · rename_i f cs
      simp only [ev_bind, Option.bind_eq_some_iff] at h
      obtain ⟨y, hy, h⟩ := h
      obtain ⟨vs, rfl, hvs⟩ := h1
      obtain ⟨q1, _, q2⟩ := capsT_ok cs _ hvs hA hy
      have hx : AInv b S c w { y.2 with as := y.2.as ++ [A1.fv f y.1] } (vals ++ [.func (.func f) #[] vs.toArray]) F := by
        refine ⟨fun eb em => ?_, q1.held, q1.gv, q1.bw, q1.nd, q1.ms, q1.un, fun hu e he => (q1.ln hu e he).imp fun _ h => ⟨valAt_more h.1, h.2⟩⟩
        have := (q1.fl eb em).snoc (x := A1.fv f y.1) (v := .func (.func f) #[] vs.toArray) (G := []) ⟨rfl, vs, rfl, q2.mono fun p v h => ⟨_, (h em).choose_spec⟩⟩
        rwa [List.append_nil] at this
      exact argsT_ok hi xs _ us _ _ _ h2 hx h
    · simp [Tr.ev] at h
theorem rowLeaves_ok (hi : Inv b S w c) (k : Nat) : ∀ (ts : List Ty) (i : Nat) (vs : List Value) {y : List ALeaf × List Nat}, vs.length = ts.length → (∀ j v, vs[j]? = some v → LeafOk S c w (Kok b S c) (S.mc k (i + j)) v) → (rowLeaves k ts i).ev S = some y →
    Ows S y.2 ∧ ∃ G, (∀ B, FL (ALOk w (KB b S c B)) y.1 vs G) ∧ (unlike y.2 = true → G.Nodup) ∧ Held c y.2 G
  | [], i, vs, y, hl, _, h => by
    rw [rowLeaves] at h
    simp only [Tr.ev, Option.some.injEq] at h
    subst h
    obtain rfl : vs = [] := List.eq_nil_of_length_eq_zero hl
    exact ⟨fun k hk => (by cases hk), [], fun B => ⟨rfl, rfl⟩, fun _ => by simp, fun g hg => (by cases hg)⟩
  | t :: ts, i, [], y, hl, _, _ => by simp at hl
  | t :: ts, i, v :: vs, y, hl, hc, h => by
    rw [rowLeaves] at h
    simp only [Tr.ev, ev_bind, Option.bind_eq_some_iff, Option.some.injEq] at h
    obtain ⟨y1, hy1, y2, hy2, rfl⟩ := h
    obtain ⟨k1, k2, k3, G, k4, k5, k6⟩ := argLeaf_ok hi (hc 0 v rfl) hy1
    obtain ⟨m2, H, m4, m5, m6⟩ := rowLeaves_ok hi k ts (i + 1) vs (by simpa using hl) (fun j v hv => by
      have := hc (j + 1) v (by simpa using hv)
      rwa [show i + (j + 1) = i + 1 + j by omega] at this) hy2
    refine ⟨ows_append k2 m2, G ++ H, fun B => ⟨v, vs, G, H, rfl, rfl, k4 B fun k hk => (by rw [k3 rfl] at hk; cases hk), m4 B⟩, ?_, ?_⟩
    · intro hu
      obtain ⟨u1, u2, _⟩ := unlike_append hu
      exact (held_append hi k6 m6 k2 m2 hu k5 (m5 u2)).2
    · intro g hg
      rcases List.mem_append.1 hg with hg | hg
      · obtain ⟨k, h, h'⟩ := k6 g hg; exact ⟨k, by simp [h], h'⟩
      · obtain ⟨k, h, h'⟩ := m6 g hg; exact ⟨k, by simp [h], h'⟩
theorem rowsOf_ok (hi : Inv b S w c) : ∀ (ms : List (Nat × List Ty)) {y : List (List ALeaf) × List Nat}, (∀ p, p ∈ ms → S.ms p.1 = some p.2.length) → (rowsOf ms).ev S = some y →
    Ows S y.2 ∧ ∃ G, (∀ B, RowsOk w (KB b S c B) (ms.map fun p => c.mb p.1) y.1 G) ∧ (unlike y.2 = true → G.Nodup) ∧ Held c y.2 G
  | [], y, _, h => by
    rw [rowsOf] at h
    simp only [Tr.ev, Option.some.injEq] at h
    subst h
    exact ⟨fun k hk => (by cases hk), [], fun B => ⟨rfl, rfl⟩, fun _ => by simp, fun g hg => (by cases hg)⟩
  | (k, ts) :: ms, y, hm, h => by
    rw [rowsOf] at h
    simp only [Tr.ev, ev_bind, Option.bind_eq_some_iff, Option.some.injEq] at h
    obtain ⟨y1, hy1, y2, hy2, rfl⟩ := h
    have hk := hm (k, ts) (by simp)
    obtain ⟨cs, e, fr, h1, h2, h3, h4⟩ := hi.ms k _ hk
    obtain ⟨k2, G, k4, k5, k6⟩ := rowLeaves_ok hi k ts 0 cs.toList (by simpa using h2) (fun j v hv => by rw [Nat.zero_add]; exact h4 j v (by simpa using hv)) hy1
    obtain ⟨m2, H, m4, m5, m6⟩ := rowsOf_ok hi ms (fun p hp => hm p (by simp [hp])) hy2
    refine ⟨ows_append k2 m2, G ++ H, fun B => ⟨y1.1, y2.1, cs, e, fr, G, H, rfl, rfl, h1, h3, k4 B, m4 B⟩, ?_, ?_⟩
    · intro hu
      obtain ⟨u1, u2, _⟩ := unlike_append hu
      exact (held_append hi k6 m6 k2 m2 hu (k5 u1) (m5 u2)).2
    · intro g hg
      rcases List.mem_append.1 hg with hg | hg
      · obtain ⟨k, h, h'⟩ := k6 g hg; exact ⟨k, by simp [h], h'⟩
      · obtain ⟨k, h, h'⟩ := m6 g hg; exact ⟨k, by simp [h], h'⟩
end
end Go.V

namespace Go.V
open Go.RowKit
theorem find_some_mem {β : Type} : ∀ {l : List (Nat × β)} {k : Nat} {x : β}, find l k = some x → (k, x) ∈ l
  | [], _, _, h => by simp [find] at h
  | (i, y) :: l, k, x, h => by
    simp only [find] at h
    split at h
    · rename_i hk; subst hk; injection h with h; subst h; simp
    · exact List.mem_cons_of_mem _ (find_some_mem h)
theorem find_mem {β : Type} : ∀ {l : List (Nat × β)} {k : Nat} {x : β}, (l.map (·.1)).Nodup → (k, x) ∈ l → find l k = some x
  | [], _, _, _, h => by cases h
  | (i, y) :: l, k, x, hn, h => by
    rw [List.map_cons, List.nodup_cons] at hn
    simp only [find]
    rcases List.mem_cons.1 h with h' | h'
    · injection h' with h1 h2; subst h1 h2; simp
    · have hne : ¬ k = i := by
        rintro rfl
        exact hn.1 (List.mem_map.2 ⟨(k, x), h', rfl⟩)
      rw [if_neg hne]; exact find_mem hn.2 h'
theorem find_none {β : Type} : ∀ {l : List (Nat × β)} {k : Nat}, k ∉ l.map (·.1) → find l k = none
  | [], _, _ => rfl
  | (i, y) :: l, k, h => by
    simp only [List.map_cons, List.mem_cons, not_or] at h
    simp only [find, if_neg h.1]; exact find_none h.2
theorem unlike_nodup : ∀ {l : List Nat}, unlike l = true → l.Nodup
  | [], _ => by simp
  | k :: l, h => by
    obtain ⟨h1, h2⟩ := unlike_cons h
    exact List.nodup_cons.2 ⟨h1, unlike_nodup h2⟩
theorem ownsU_at : ∀ (l : List (Nat × Own)) (S : St), (l.map (·.1)).Nodup → (S.ups (ownsU l)).ms = S.ms ∧ (S.ups (ownsU l)).mc = S.mc ∧ (S.ups (ownsU l)).sl = S.sl ∧ ∀ k, (S.ups (ownsU l)).ow k = match find l k with | some o => some o | none => S.ow k
  | [], S, _ => ⟨rfl, rfl, rfl, fun _ => rfl⟩
  | p :: l, S, h => by
    rw [List.map_cons, List.nodup_cons] at h
    obtain ⟨h1, h2, h3, h4⟩ := ownsU_at l (S.up (.ow p.1 (some p.2))) h.2
    refine ⟨h1, h2, h3, fun k => ?_⟩
    show ((S.up (.ow p.1 (some p.2))).ups (ownsU l)).ow k = _
    rw [h4]
    obtain ⟨i, o⟩ := p
    simp only [find]
    by_cases hk : k = i
    · subst hk
      rw [find_none h.1]; simp [St.up]
    · simp only [if_neg hk]
      have : (S.up (.ow i (some o))).ow k = S.ow k := by show (if k = i then some o else S.ow k) = _; rw [if_neg hk]
      rw [this]
theorem stPls_at (k : Nat) : ∀ (ls : List Leaf) (off : Nat) (S : St), (S.ups (stPls k ls off)).ms = S.ms ∧ (S.ups (stPls k ls off)).ow = S.ow ∧ (S.ups (stPls k ls off)).sl = S.sl ∧
    ∀ k' i, (S.ups (stPls k ls off)).mc k' i = if k' = k ∧ off ≤ i ∧ i < off + ls.length then ls.getD (i - off) .no else S.mc k' i
  | [], off, S => ⟨rfl, rfl, rfl, fun k' i => by rw [if_neg (by simp only [List.length_nil]; omega)]; rfl⟩
  | l :: ls, off, S => by
    obtain ⟨h1, h2, h3, h4⟩ := stPls_at k ls (off + 1) (S.up (.mc k off l))
    refine ⟨h1, h2, h3, fun k' i => ?_⟩
    show ((S.up (.mc k off l)).ups (stPls k ls (off + 1))).mc k' i = _
    rw [h4]
    by_cases hk : k' = k
    · subst hk
      by_cases h5 : off + 1 ≤ i ∧ i < off + 1 + ls.length
      · rw [if_pos ⟨rfl, h5⟩, if_pos ⟨rfl, by simp only [List.length_cons]; omega⟩, show i - off = (i - (off + 1)) + 1 by omega, List.getD_cons_succ]
      · rw [if_neg (by rintro ⟨_, h⟩; exact h5 h)]
        show (if k' = k' then (if i = off then l else S.mc k' i) else S.mc k' i) = _
        rw [if_pos rfl]
        by_cases hio : i = off
        · subst hio
          rw [if_pos rfl, if_pos ⟨rfl, by simp only [List.length_cons]; omega⟩, Nat.sub_self]; rfl
        · rw [if_neg hio, if_neg (by simp only [List.length_cons]; omega)]
    · rw [if_neg (by rintro ⟨h, _⟩; exact hk h), if_neg (by rintro ⟨h, _⟩; exact hk h)]
      show (if k' = k then _ else S.mc k' i) = _
      rw [if_neg hk]
theorem rowsU_at : ∀ (l : List (Nat × List Leaf)) (S : St), (l.map (·.1)).Nodup → (S.ups (rowsU l)).ms = S.ms ∧ (S.ups (rowsU l)).ow = S.ow ∧ (S.ups (rowsU l)).sl = S.sl ∧
    (∀ k i, k ∉ l.map (·.1) → (S.ups (rowsU l)).mc k i = S.mc k i) ∧ ∀ p, p ∈ l → ∀ i, i < p.2.length → (S.ups (rowsU l)).mc p.1 i = p.2.getD i .no
  | [], S, _ => ⟨rfl, rfl, rfl, fun _ _ _ => rfl, fun _ h => by cases h⟩
  | p :: l, S, h => by
    rw [List.map_cons, List.nodup_cons] at h
    obtain ⟨a1, a2, a3, a4⟩ := stPls_at p.1 p.2 0 S
    obtain ⟨h1, h2, h3, h4, h5⟩ := rowsU_at l (S.ups (stPls p.1 p.2 0)) h.2
    have e : S.ups (rowsU (p :: l)) = (S.ups (stPls p.1 p.2 0)).ups (rowsU l) := ups_append _ _ _
    rw [e]
    refine ⟨h1.trans a1, h2.trans a2, h3.trans a3, fun k i hk => ?_, fun q hq i hi => ?_⟩
    · simp only [List.map_cons, List.mem_cons, not_or] at hk
      rw [h4 k i hk.2, a4, if_neg (by rintro ⟨h, _⟩; exact hk.1 h)]
    · rcases List.mem_cons.1 hq with rfl | hq
      · rw [h4 _ i h.1, a4, if_pos ⟨rfl, by omega⟩, Nat.sub_zero]
      · exact h5 q hq i hi
def NwOk (w : World) (K : Nat → Prop) (p : Nat × Own) (n : New) (F : List Nat) : Prop := n.o = p.2 ∧ F = n.F ∧ Rp w K (.sl true n.o.e n.o.r) n.o.xs [n.h] n.F
def Hv (S : St) (c : Cc) (l : List (Nat × Own)) (ns : List New) : Prop := ∀ k n, (k, n) ∈ (l.map (·.1)).zip ns → S.ow k = some n.o ∧ c.hv k = n.h
section
variable {w : World} {K : Nat → Prop}
theorem Hv.left {S : St} {c : Cc} {l l' : List (Nat × Own)} {ns ns' : List New} (hl : ns.length = l.length) (h : Hv S c (l ++ l') (ns ++ ns')) : Hv S c l ns := fun k n hk => h k n (by
  rw [List.map_append, List.zip_append (by simp [hl])]; exact List.mem_append.2 (.inl hk))
theorem Hv.right {S : St} {c : Cc} {l l' : List (Nat × Own)} {ns ns' : List New} (hl : ns.length = l.length) (h : Hv S c (l ++ l') (ns ++ ns')) : Hv S c l' ns' := fun k n hk => h k n (by
  rw [List.map_append, List.zip_append (by simp [hl])]; exact List.mem_append.2 (.inr hk))
theorem backLeaf_ok (key : Nat) {l : ALeaf} {v : Value} {F : List Nat} (h : ALOk w K l v F) : ∃ ns, FL (NwOk w K) (backLeaf key l).2 ns F ∧ ∀ S c, Hv S c (backLeaf key l).2 ns → LeafOk S c w K (backLeaf key l).1 v := by
  obtain ⟨t, x⟩ := l
  have other : backLeaf key ⟨t, x⟩ = (.v t x, []) → t.own = false → ∃ ns, FL (NwOk w K) (backLeaf key ⟨t, x⟩).2 ns F ∧ ∀ S c, Hv S c (backLeaf key ⟨t, x⟩).2 ns → LeafOk S c w K (backLeaf key ⟨t, x⟩).1 v := by
    intro e ho
    have hF := h.2 ho
    subst hF
    rw [e]
    exact ⟨[], ⟨rfl, rfl⟩, fun _ _ _ => h.1⟩
  cases t with
  | sl o e r =>
    cases o with
    | true =>
      refine ⟨[⟨⟨e, r, x⟩, v, F⟩], ⟨_, [], F, [], rfl, by simp, ⟨rfl, rfl, h.1⟩, rfl, rfl⟩, fun S c hv => ?_⟩
      obtain ⟨h1, h2⟩ := hv key ⟨⟨e, r, x⟩, v, F⟩ (by simp [backLeaf])
      exact ⟨_, e, r, x, v, h1, rfl, by rw [h2]; rfl, rfl⟩
    | false => exact other rfl rfl
  | _ => exact other rfl rfl
theorem backLeaves_ok : ∀ (ls : List ALeaf) (key : Nat) {vs : List Value} {F : List Nat}, FL (ALOk w K) ls vs F →
    ∃ ns, FL (NwOk w K) (backLeaves key ls).2 ns F ∧ ∀ S c, Hv S c (backLeaves key ls).2 ns → All2 (LeafOk S c w K) (backLeaves key ls).1 vs
  | [], key, _, _, h => by
    obtain ⟨rfl, rfl⟩ := h
    exact ⟨[], ⟨rfl, rfl⟩, fun _ _ _ => .nil⟩
  | l :: ls, key, _, _, h => by
    obtain ⟨v, vs, F1, F2, rfl, rfl, h1, h2⟩ := h
    obtain ⟨n1, k1, k2⟩ := backLeaf_ok key h1
    obtain ⟨n2, k3, k4⟩ := backLeaves_ok ls (key + 1) h2
    exact ⟨n1 ++ n2, k1.append k3, fun S c hv => .cons (k2 S c (Hv.left k1.len hv)) (k4 S c (Hv.right k1.len hv))⟩
theorem back1_ok (msK : List Nat) (mb : Nat → Nat) (key : Nat) {a : A1} {v : Value} {F : List Nat} {x : S1 × List (Nat × Own)} (h : A1Ok w K (msK.map mb) a v F) (hb : back1 msK key a = some x) :
    ∃ ns, FL (NwOk w K) x.2 ns F ∧ ∀ S c, Hv S c x.2 ns → (∀ k, k ∈ msK → S.ms k ≠ none) → (∀ k, k ∈ msK → c.mb k = mb k) → S1Ok S c w K x.1 v := by
  cases a with
  | one l =>
    simp only [back1, Option.some.injEq] at hb
    subst hb
    obtain ⟨ns, h1, h2⟩ := backLeaf_ok key h
    exact ⟨ns, h1, fun S c hv _ _ => h2 S c hv⟩
  | ag ls =>
    simp only [back1, Option.some.injEq] at hb
    subst hb
    obtain ⟨vs, rfl, h⟩ := h
    obtain ⟨ns, h1, h2⟩ := backLeaves_ok ls key h
    exact ⟨ns, h1, fun S c hv _ _ => ⟨vs, rfl, h2 S c hv⟩⟩
  | pl m off =>
    simp only [back1] at hb
    split at hb
    · rename_i k hk
      simp only [Option.some.injEq] at hb
      subst hb
      obtain ⟨rfl, g, hg, rfl⟩ := h
      rw [List.getElem?_map, hk] at hg
      simp only [Option.map_some, Option.some.injEq] at hg
      subst hg
      refine ⟨[], ⟨rfl, rfl⟩, fun S c _ h1 h2 => ?_⟩
      have hm := List.mem_of_getElem? hk
      obtain ⟨n, hn⟩ := Option.ne_none_iff_exists'.1 (h1 k hm)
      exact ⟨n, hn, by rw [h2 k hm]⟩
    · cases hb
  | rp t y off =>
    simp only [back1, Option.some.injEq] at hb
    subst hb
    obtain ⟨rfl, h⟩ := h
    exact ⟨[], ⟨rfl, rfl⟩, fun S c _ _ _ => h⟩
  | fv f cs =>
    simp only [back1] at hb
    split at hb
    · rename_i l hl
      simp only [Option.some.injEq] at hb
      subst hb
      obtain ⟨rfl, vs, rfl, h⟩ := h
      refine ⟨[], ⟨rfl, rfl⟩, fun S c _ h1 h2 => ⟨vs, rfl, ?_⟩⟩
      have key : ∀ (cs l : List (Nat × Nat)) (vs : List Value), All2 (fun p v => ∃ g, (msK.map mb)[p.1]? = some g ∧ v = .pointer (some ⟨g, p.2, none⟩)) cs vs → backPls msK cs = some l → All2 (PlOk S c) l vs := by
        intro cs l vs h
        induction h generalizing l with
        | nil => intro hl; simp only [backPls, Option.some.injEq] at hl; subst hl; exact .nil
        | @cons p v cs vs q1 _ ih =>
          intro hl
          simp only [backPls] at hl
          split at hl
          · rename_i k l' e1 e2
            simp only [Option.some.injEq] at hl
            subst hl
            obtain ⟨g, hg, rfl⟩ := q1
            rw [List.getElem?_map, e1] at hg
            simp only [Option.map_some, Option.some.injEq] at hg
            subst hg
            have hm := List.mem_of_getElem? e1
            obtain ⟨n, hn⟩ := Option.ne_none_iff_exists'.1 (h1 k hm)
            exact .cons ⟨n, hn, by rw [h2 k hm]⟩ (ih l' e2)
          · cases hl
      exact key cs l vs h hl
    · cases hb
theorem backVals_ok (msK : List Nat) (mb : Nat → Nat) : ∀ (as : List A1) (key : Nat) {vs : List Value} {F : List Nat} {x : List S1 × List (Nat × Own)}, FL (A1Ok w K (msK.map mb)) as vs F → backVals msK key as = some x →
    ∃ ns, FL (NwOk w K) x.2 ns F ∧ ∀ S c, Hv S c x.2 ns → (∀ k, k ∈ msK → S.ms k ≠ none) → (∀ k, k ∈ msK → c.mb k = mb k) → All2 (S1Ok S c w K) x.1 vs
  | [], key, _, _, x, h, hb => by
    obtain ⟨rfl, rfl⟩ := h
    simp only [backVals, Option.some.injEq] at hb
    subst hb
    exact ⟨[], ⟨rfl, rfl⟩, fun _ _ _ _ _ => .nil⟩
  | a :: as, key, _, _, x, h, hb => by
    obtain ⟨v, vs, F1, F2, rfl, rfl, h1, h2⟩ := h
    simp only [backVals] at hb
    split at hb
    · rename_i x1 x2 e1 e2
      simp only [Option.some.injEq] at hb
      subst hb
      obtain ⟨n1, k1, k2⟩ := back1_ok msK mb key h1 e1
      obtain ⟨n2, k3, k4⟩ := backVals_ok msK mb as (key + 64) h2 e2
      exact ⟨n1 ++ n2, k1.append k3, fun S c hv g1 g2 => .cons (k2 S c (Hv.left k1.len hv) g1 g2) (k4 S c (Hv.right k1.len hv) g1 g2)⟩
    · cases hb
theorem backLeaves_len : ∀ (ls : List ALeaf) (key : Nat), (backLeaves key ls).1.length = ls.length
  | [], _ => rfl
  | l :: ls, key => by simp [backLeaves, backLeaves_len ls (key + 1)]
theorem backRows_ok (mb : Nat → Nat) : ∀ (msK : List Nat) (rs : List (List ALeaf)) (key : Nat) {F : List Nat} {x : List (Nat × List Leaf) × List (Nat × Own)}, RowsOk w K (msK.map mb) rs F → backRows key msK rs = some x →
    x.1.map (·.1) = msK ∧ x.1.map (·.2.length) = rs.map List.length ∧
    ∃ ns, FL (NwOk w K) x.2 ns F ∧ ∀ S c, Hv S c x.2 ns → ∀ p, p ∈ x.1 → ∃ cs e fr, w.heap[mb p.1]? = some (.cells cs e fr) ∧ NF fr cs.size ∧ All2 (LeafOk S c w K) p.2 cs.toList
  | [], [], key, F, x, h, hb => by
    simp only [backRows, Option.some.injEq] at hb
    subst hb
    exact ⟨rfl, rfl, [], ⟨rfl, h.2⟩, fun _ _ _ p hp => by cases hp⟩
  | k :: ms, r :: rs, key, F, x, h, hb => by
    obtain ⟨r', rs', cs, e, fr, F1, F2, e1, rfl, h1, h2, h3, h4⟩ := h
    injection e1 with e1 e2
    subst e1 e2
    simp only [backRows] at hb
    split at hb
    · rename_i y hy
      simp only [Option.some.injEq] at hb
      subst hb
      obtain ⟨n1, k1, k2⟩ := backLeaves_ok r key h3
      obtain ⟨g1, g2, n2, k3, k4⟩ := backRows_ok mb ms rs (key + 64) h4 hy
      refine ⟨by simp [g1], by simp [g2, backLeaves_len], n1 ++ n2, k1.append k3, fun S c hv p hp => ?_⟩
      rcases List.mem_cons.1 hp with rfl | hp
      · exact ⟨cs, e, fr, h1, h2, k2 S c (Hv.left k1.len hv)⟩
      · exact k4 S c (Hv.right k1.len hv) p hp
    · cases hb
  | [], r :: rs, key, F, x, h, hb => by simp [backRows] at hb
  | k :: ms, [], key, F, x, h, hb => by simp [backRows] at hb
theorem tupled_ok {S : St} {c : Cc} : ∀ {xs : List S1} {vs : List Value}, All2 (S1Ok S c w K) xs vs → SVOk S c w K (tupled xs) (tupledV vs)
  | [], _, .nil => ⟨[], rfl, .nil⟩
  | [_], _, .cons h .nil => h
  | _ :: _ :: _, _, .cons (b := v) h (.cons (b := u) (bs := vs) h1 h2) => ⟨v :: u :: vs, rfl, .cons h (.cons h1 h2)⟩
theorem news_find : ∀ {l : List (Nat × Own)} {ns : List New} {F : List Nat}, FL (NwOk w K) l ns F → ∀ k, (match find ((l.map (·.1)).zip ns) k with | some n => some n.o | none => none) = find l k
  | [], _, _, h, k => by rw [h.1]; rfl
  | (i, o) :: l, _, _, ⟨n, ns, F1, F2, e1, _, h1, h2⟩, k => by
    subst e1
    simp only [List.map_cons, List.zip_cons_cons, find]
    by_cases hk : k = i
    · rw [if_pos hk, if_pos hk]; simp [h1.1]
    · rw [if_neg hk, if_neg hk]; exact news_find h2 k
theorem news_in : ∀ {l : List (Nat × Own)} {ns : List New} {F : List Nat}, FL (NwOk w K) l ns F → ∀ k n, find ((l.map (·.1)).zip ns) k = some n → k ∈ l.map (·.1) ∧ (∀ g, g ∈ n.F → g ∈ F) ∧ (F.Nodup → n.F.Nodup) ∧ Rp w K (.sl true n.o.e n.o.r) n.o.xs [n.h] n.F
  | [], _, _, h, k, n, hf => by simp [find] at hf
  | (i, o) :: l, _, _, ⟨n', ns, F1, F2, e1, e2, ⟨h1, h1', h1''⟩, h2⟩, k, n, hf => by
    subst e1 e2
    simp only [List.map_cons, List.zip_cons_cons, find] at hf
    split at hf
    · rename_i hk
      injection hf with hf
      subst hf h1'
      exact ⟨by simp [hk], fun g hg => by simp [hg], fun hn => (List.nodup_append.1 hn).1, h1''⟩
    · obtain ⟨a1, a2, a3, a4⟩ := news_in h2 k n hf
      exact ⟨List.mem_cons_of_mem _ a1, fun g hg => by simp [a2 g hg], fun hn => a3 (List.nodup_append.1 hn).2.1, a4⟩
theorem news_dis : ∀ {l : List (Nat × Own)} {ns : List New} {F : List Nat}, FL (NwOk w K) l ns F → F.Nodup → ∀ k n k' n', k ≠ k' → find ((l.map (·.1)).zip ns) k = some n → find ((l.map (·.1)).zip ns) k' = some n' → ∀ g, g ∈ n.F → g ∉ n'.F
  | [], _, _, h, _, k, n, _, _, _, hf, _ => by simp [find] at hf
  | (i, o) :: l, _, _, ⟨m, ns, F1, F2, e1, e2, ⟨h1, h1', h1''⟩, h2⟩, hn, k, n, k', n', hne, hf, hf' => by
    subst e1 e2
    obtain ⟨d1, d2, d3⟩ := List.nodup_append.1 hn
    simp only [List.map_cons, List.zip_cons_cons, find] at hf hf'
    intro g hg hg'
    split at hf
    · rename_i hk
      injection hf with hf
      subst hf h1'
      rw [if_neg (fun h => hne (hk.trans h.symm))] at hf'
      exact d3 g hg g ((news_in h2 k' n' hf').2.1 g hg') rfl
    · split at hf'
      · injection hf' with hf'
        subst hf' h1'
        exact d3 g hg' g ((news_in h2 k n hf).2.1 g hg) rfl
      · exact news_dis h2 d2 k n k' n' hne hf hf' g hg hg'
end
theorem LeafOk.mono {S : St} {c : Cc} {w : World} {K K' : Nat → Prop} (hK : ∀ g, g < w.heap.size → K g → K' g) {l : Leaf} {v : Value} (h : LeafOk S c w K l v) : LeafOk S c w K' l v := by
  cases l with
  | v t x => exact Rp.mono hK _ _ h
  | _ => exact h
theorem S1Ok.mono {S : St} {c : Cc} {w : World} {K K' : Nat → Prop} (hK : ∀ g, g < w.heap.size → K g → K' g) {x : S1} {v : Value} (h : S1Ok S c w K x v) : S1Ok S c w K' x v := by
  cases x with
  | one l => exact LeafOk.mono hK h
  | ag ls => obtain ⟨vs, e, h⟩ := h; exact ⟨vs, e, h.mono fun _ _ h => LeafOk.mono hK h⟩
  | rp t x off => obtain ⟨a, vs, h1, h2, h3, h4, h5⟩ := h; exact ⟨a, vs, h1, Rp.mono hK _ _ h2, hK _ h4 h3, h4, h5⟩
  | _ => exact h
section
variable {P : Program} {E : Env} {b : Base} {S : St} {c : Cc} {w : World}
theorem kp_sl_ms (S : St) (ks : List Kl) : (S.kp ks).ms = S.ms ∧ (S.kp ks).ow = S.ow ∧ ∀ k i, (S.kp ks).mc k i = (S.mc k i).kp ks :=
  ⟨kp_ms S ks, kp_ow S ks, fun k i => kp_mc S ks k i⟩
theorem LentOk.mono {w : World} {K K' : Nat → Prop} {vals : List Value} (hK : ∀ g, g < w.heap.size → K g → K' g) : ∀ {l : List ((Nat × Nat) × ALeaf)} {F}, LentOk w K vals l F → LentOk w K' vals l F
  | [], _, h => h
  | _ :: _, _, ⟨v, F1, F2, e, h1, h2, h3⟩ => ⟨v, F1, F2, e, h1, ALOk.mono hK h2, LentOk.mono hK h3⟩
theorem LentOk.noRo {w : World} {K K' : Nat → Prop} {vals : List Value} : ∀ {l : List ((Nat × Nat) × ALeaf)} {F}, (l.any fun x => x.2.1.hasRo) = false → LentOk w K vals l F → LentOk w K' vals l F
  | [], _, _, h => h
  | _ :: _, _, hr, ⟨v, F1, F2, e, h1, h2, h3⟩ => by
    simp only [List.any_cons, Bool.or_eq_false_iff] at hr
    exact ⟨v, F1, F2, e, h1, ALOk.noRo hr.1 h2, LentOk.noRo hr.2 h3⟩
theorem putBack_ok (hi : Inv b S w c) {w' : World} {K2 : Nat → Prop} {vals : List Value} {gv F : List Nat} (hgv : Ows S gv) (hKS : KSame w w' (Kok b S c) K2) (hsame : ∀ k, S.ow k ≠ none → ∀ g, g ∈ c.F k → g ∉ F → w'.heap[g]? = w.heap[g]?) :
    ∀ (L : List ((Nat × Nat) × Option (Nat × Steps))) (rl : List ((Nat × Nat) × ALeaf)) {lts : List (Nat × Own)} {F3 : List Nat}, (∀ e, e ∈ L → ∃ v, valAt vals e.1 = some v ∧ LnOk S c w (Kok b S c) e.2 v gv F) → (putBack L rl).ev S = some lts →
      LentOk w' K2 vals rl F3 → F3.Nodup → (∀ g, g ∈ F3 → g ∈ F ∨ w.heap.size ≤ g) → (lts.map (·.1)).Nodup →
      lts.map (·.1) = lkeys L ∧ (∀ k, k ∈ lkeys L → k ∈ gv) ∧ ∃ ns FL3, FL (NwOk w' K2) lts ns FL3 ∧ FL3.Nodup ∧ (∀ g, g ∈ FL3 → g ∈ F3 ∨ ∃ k, k ∈ lkeys L ∧ g ∈ c.F k ∧ g ∉ F) ∧
        ∀ k n, (k, n) ∈ (lts.map (·.1)).zip ns → n.h = c.hv k ∧ ∃ o xs', S.ow k = some o ∧ n.o = ⟨o.e, o.r, xs'⟩ ∧ xs'.length = o.xs.length
  | [], [], lts, F3, _, h, hl, _, _, _ => by
    simp only [putBack, Tr.ev, Option.some.injEq] at h
    subst h
    exact ⟨rfl, fun k hk => (by cases hk), [], [], ⟨rfl, rfl⟩, by simp, fun g hg => (by cases hg), fun k n hk => (by cases hk)⟩
  | [], _ :: _, _, _, _, h, _, _, _, _ => by simp [putBack, Tr.ev] at h
  | (p, none) :: L, [], _, _, _, h, _, _, _, _ => by simp [putBack, Tr.ev] at h
  | (p, some (k, st)) :: L, [], _, _, _, h, _, _, _, _ => by simp [putBack, Tr.ev] at h
  | (p, none) :: L, (p', a) :: rl, lts, F3, hL, h, hl, hnd, hF3, hk => by
    simp only [putBack] at h
    split at h
    · rename_i hp
      subst hp
      obtain ⟨v, F1, F2, rfl, h1, h2, h3⟩ := hl
      obtain ⟨n1, n2, n3⟩ := List.nodup_append.1 hnd
      obtain ⟨q1, q2, ns, FL3, q3, q4, q5, q6⟩ := putBack_ok hi hgv hKS hsame L rl (fun e he => hL e (by simp [he])) h h3 n2 (fun g hg => hF3 g (by simp [hg])) hk
      exact ⟨q1, q2, ns, FL3, q3, q4, fun g hg => (q5 g hg).imp (fun h => by simp [h]) id, q6⟩
    · simp [Tr.ev] at h
  | (p, some (k, st)) :: L, (p', ⟨at', ax⟩) :: rl, lts, F3, hL, h, hl, hnd, hF3, hk => by
    simp only [putBack] at h
    split at h
    · rename_i hp
      subst hp
      obtain ⟨v, F1, F2, rfl, h1, h2, h3⟩ := hl
      obtain ⟨v', hv', hkg, Fa, Fb, ⟨o0, ho0, ⟨G0, hF0⟩, hback⟩, hdis⟩ := hL (p, some (k, st)) (by simp)
      obtain rfl : v = v' := by rw [h1] at hv'; injection hv'
      simp only [Tr.ev, ho0, ev_bind, Option.bind_eq_some_iff] at h
      obtain ⟨⟨dt, dx⟩, hd, h⟩ := h
      split at h
      · rename_i hty
        simp only at hty
        subst hty
        simp only [ev_bind, Option.bind_eq_some_iff, Tr.ev, Option.some.injEq] at h
        obtain ⟨zs, hzs, y, hy, rfl⟩ := h
        rw [ev_get] at hd
        rw [ev_set] at hzs
        obtain ⟨n1, n2, n3⟩ := List.nodup_append.1 hnd
        simp only [List.map_cons, List.nodup_cons] at hk
        obtain ⟨q1, q2, ns, FL3, q3, q4, q5, q6⟩ := putBack_ok hi hgv hKS hsame L rl (fun e he => hL e (by simp [he])) hy h3 n2 (fun g hg => hF3 g (by simp [hg])) hk.2
        have hko : S.ow k ≠ none := by rw [ho0]; simp
        have hnk := hi.nd k hko
        have hlt : ∀ g, g ∈ c.F k → g < w.heap.size := fun g hg => (hi.fr g (.inr ⟨k, hko, hg⟩)).1
        have hin : ∀ g, g ∈ Fa ∨ g ∈ Fb → g ∈ c.F k := fun g hg => by rw [hF0]; rcases hg with hg | hg <;> simp [hg]
        have hnF : ∀ g, g ∈ Fa ∨ g ∈ Fb → g ∉ F := fun g hg hx => hg.elim (hdis g hx).1 (hdis g hx).2
        have hFF : ∀ g, g ∈ F1 ++ F2 → ¬ (g ∈ Fa ∨ g ∈ Fb) := by
          intro g hg hx
          rcases hF3 g hg with h | h
          · exact hnF g hx h
          · have := hlt g (hin g hx)
            omega
        have hkr : k ∉ lkeys L := by rw [← q1]; exact hk.1
        have hR := hback ⟨at', dx⟩ ax zs hd hzs w' K2 F1 h2.1 hKS (fun g hg => hsame k hko g (hin g (.inl hg)) (hnF g (.inl hg))) (fun g hg => hsame k hko g (hin g (.inr hg)) (hnF g (.inr hg)))
        have hlen : zs.length = o0.xs.length := by
          obtain ⟨A, cp, e1, _⟩ := own_slice hR
          obtain ⟨A', cp', e2, _⟩ := own_slice (hi.ow k o0 ho0)
          rw [e1] at e2
          injection e2
        rw [hF0] at hnk
        obtain ⟨a1, a2, a3⟩ := List.nodup_append.1 hnk
        obtain ⟨b1, b2, b3⟩ := List.nodup_append.1 a2
        have hX : ∀ g, g ∈ FL3 → ¬ (g ∈ Fa ∨ g ∈ Fb) ∧ g ∉ F1 := by
          intro g hg
          rcases q5 g hg with h | ⟨k', hk', hg', hgF⟩
          · exact ⟨hFF g (by simp [h]), fun hx => n3 g hx g h rfl⟩
          · have hne : k ≠ k' := by rintro rfl; exact hkr hk'
            have hko' : S.ow k' ≠ none := hgv k' (q2 k' hk')
            refine ⟨fun hx => hi.oo k k' hne hko hko' g (hin g hx) hg', fun hx => ?_⟩
            rcases hF3 g (by simp [hx]) with h | h
            · exact hgF h
            · have := (hi.fr g (.inr ⟨k', hko', hg'⟩)).1
              omega
        refine ⟨by simp [lkeys, q1], ?_, ⟨⟨o0.e, o0.r, zs⟩, c.hv k, Fa ++ (F1 ++ Fb)⟩ :: ns, (Fa ++ (F1 ++ Fb)) ++ FL3, ⟨_, ns, _, FL3, rfl, rfl, ⟨rfl, rfl, hR⟩, q3⟩, ?_, ?_, ?_⟩
        · intro k' hk'
          simp only [lkeys, List.mem_cons] at hk'
          rcases hk' with rfl | hk'
          · exact hkg
          · exact q2 k' hk'
        · refine List.nodup_append.2 ⟨List.nodup_append.2 ⟨a1, List.nodup_append.2 ⟨n1, b2, ?_⟩, ?_⟩, q4, ?_⟩
          · rintro x hx x' hx' rfl; exact hFF x (by simp [hx]) (.inr hx')
          · rintro x hx x' hx' rfl
            rcases List.mem_append.1 hx' with h | h
            · exact hFF x (by simp [h]) (.inl hx)
            · exact a3 x hx x (by simp [h]) rfl
          · rintro x hx x' hx' rfl
            have := hX x hx'
            simp only [List.mem_append] at hx
            rcases hx with hx | hx | hx
            · exact this.1 (.inl hx)
            · exact this.2 hx
            · exact this.1 (.inr hx)
        · intro g hg
          simp only [List.mem_append] at hg
          rcases hg with (hg | hg | hg) | hg
          · exact .inr ⟨k, by simp [lkeys], hin g (.inl hg), hnF g (.inl hg)⟩
          · exact .inl (by simp [hg])
          · exact .inr ⟨k, by simp [lkeys], hin g (.inr hg), hnF g (.inr hg)⟩
          · rcases q5 g hg with h | ⟨k', h1, h2⟩
            · exact .inl (by simp [h])
            · exact .inr ⟨k', by simp [lkeys, h1], h2⟩
        · intro k' n hm
          simp only [List.map_cons, List.zip_cons_cons, List.mem_cons, Prod.mk.injEq] at hm
          rcases hm with ⟨rfl, rfl⟩ | hm
          · exact ⟨rfl, o0, zs, ho0, rfl, hlen⟩
          · exact q6 k' n hm
      · simp [Tr.ev] at h
    · simp [Tr.ev] at h
theorem call_did (hi : Inv b S w c) {C : AC} {us : List Value} {F1 : List Nat} (hA : AInv b S c w C us F1) {rows : List (List ALeaf) × List Nat} {r : Res}
    (hro : C.bw = [] ∨ ((r.val.any A1.hasRo = false ∧ (r.rows.any fun l => l.any fun x => x.1.hasRo) = false) ∧ (r.lent.any fun x => x.2.1.hasRo) = false)) {d : Nat} {vs : List S1 × List (Nat × Own)} {rs : List (Nat × List Leaf) × List (Nat × Own)} {lts : List (Nat × Own)}
    (hlt : (putBack C.ln r.lent).ev S = some lts)
    (hv : backVals (C.ms.map (·.1)) (kd d 0) r.val = some vs) (hr : backRows (kd d 512) (C.ms.map (·.1)) r.rows = some rs) (hu2 : unlike ((vs.2 ++ (rs.2 ++ lts)).map (·.1)) = true) (hlen : r.rows.map List.length = C.ms.map fun m => m.2.length)
    {F2 : List Nat} (hF2 : Held c rows.2 F2) (hgv2 : Ows S rows.2) (hun : unlike (C.gv ++ rows.2) = true) {more : List Value} {v : Value} {w' : World} (hp : CallPost w (KB b S c C.bw) (C.ms.map fun p => c.mb p.1) (F1 ++ F2) (us ++ more) r v w') :
    Did b S c w ⟨tupled vs.1, gone (moved (lkeys C.ln) C.gv ++ rows.2) ++ ((lkeys C.ln).map Kl.deep ++ gone ((vs.2 ++ rs.2).map (·.1))), goneU (C.gv ++ rows.2) ++ (ownsU (vs.2 ++ (rs.2 ++ lts)) ++ rowsU rs.1)⟩ v w' := by
  obtain ⟨vals, G1, G2, G3, rfl, p1, p2, p2', p3, p4, p5⟩ := hp
  have hmap : (C.ms.map fun p => c.mb p.1) = (C.ms.map (·.1)).map c.mb := by rw [List.map_map]; rfl
  rw [hmap] at p1 p2 p2' p3 p5
  generalize hms : C.ms.map (·.1) = msK at *
  let K2 : Nat → Prop := fun g => (Kok b S c g ∧ g < w.heap.size) ∨ ((w.heap.size ≤ g ∨ g ∈ F1 ++ F2) ∧ g ∉ G1 ++ (G2 ++ G3))
  have q12 : FL (A1Ok w' K2 (msK.map c.mb)) r.val vals G1 ∧ RowsOk w' K2 (msK.map c.mb) r.rows G2 ∧ LentOk w' K2 (us ++ more) r.lent G3 := by
    rcases hro with hb | ⟨⟨h1, h2⟩, h3⟩
    · have hK : ∀ g, g < w'.heap.size → ((KB b S c C.bw g ∨ w.heap.size ≤ g ∨ g ∈ F1 ++ F2) ∧ g ∉ msK.map c.mb ++ (G1 ++ (G2 ++ G3))) → K2 g := by
        rintro g _ ⟨h1, h2⟩
        have h3 : g ∉ G1 ++ (G2 ++ G3) := fun h => h2 (by simp only [List.mem_append] at h ⊢; exact .inr h)
        rcases h1 with h1 | h1 | h1
        · rcases h1 with h1 | ⟨k, hk, _⟩ | ⟨k, hk, _⟩
          · by_cases hg : g < w.heap.size
            · exact .inl ⟨h1, hg⟩
            · exact .inr ⟨.inl (by omega), h3⟩
          · rw [hb] at hk; cases hk
          · rw [hb] at hk; cases hk
        · exact .inr ⟨.inl h1, h3⟩
        · exact .inr ⟨.inr h1, h3⟩
      exact ⟨p1.mono fun _ _ _ h => A1Ok.mono hK h, RowsOk.mono hK p2, LentOk.mono hK p2'⟩
    · rw [List.any_eq_false] at h1
      exact ⟨FL.mono' (fun x hx v F _ h => A1Ok.noRo (by simpa using h1 x hx) h) p1, RowsOk.noRo h2 p2, LentOk.noRo h3 p2'⟩
  obtain ⟨q1, q2, q3⟩ := q12
  obtain ⟨n1, a1, a2⟩ := backVals_ok msK c.mb r.val (kd d 0) q1 hv
  obtain ⟨b1, b2, n2, b3, b4⟩ := backRows_ok c.mb msK r.rows (kd d 512) q2 hr
  generalize hgs : C.gv ++ rows.2 = gs at *
  have hgo : Ows S gs := by rw [← hgs]; exact ows_append hA.gv hgv2
  have hFh : Held c gs (F1 ++ F2) := by
    intro g hg
    rw [← hgs]
    rcases List.mem_append.1 hg with hg | hg
    · obtain ⟨k, h, h'⟩ := hA.held g hg; exact ⟨k, by simp [h], h'⟩
    · obtain ⟨k, h, h'⟩ := hF2 g hg; exact ⟨k, by simp [h], h'⟩
  have hnl : n1.length = vs.2.length := a1.len
  have hkeys := unlike_nodup hu2
  have hnd0 : (G1 ++ (G2 ++ G3)).Nodup := (List.nodup_append.1 p3).2.1
  obtain ⟨hndA, hndB, hndC⟩ := List.nodup_append.1 hnd0
  obtain ⟨hndD, hndE, hndF⟩ := List.nodup_append.1 hndB
  have hkeys3 : (lts.map (·.1)).Nodup := by
    rw [List.map_append, List.map_append] at hkeys
    exact (List.nodup_append.1 (List.nodup_append.1 hkeys).2.1).2.1
  have hOwn : ∀ g, g ∈ msK.map c.mb ++ (F1 ++ F2) → Owned S c g := by
    intro g hg
    rcases List.mem_append.1 hg with hg | hg
    · obtain ⟨k, hk, rfl⟩ := List.mem_map.1 hg
      rw [← hms] at hk
      obtain ⟨p, hp, rfl⟩ := List.mem_map.1 hk
      exact .inl ⟨p.1, by rw [hA.ms p hp]; simp, rfl⟩
    · obtain ⟨k, h, h'⟩ := hFh g hg
      exact .inr ⟨k, hgo k h, h'⟩
  have hKS : KSame w w' (Kok b S c) K2 := ⟨p5.size, fun g hg hlt => ⟨p5.same g hlt fun h => hg.2 (hOwn g h), .inl ⟨hg, hlt⟩⟩⟩
  have hsm : ∀ k, S.ow k ≠ none → ∀ g, g ∈ c.F k → g ∉ F1 ++ F2 → w'.heap[g]? = w.heap[g]? := by
    intro k hk g hg hgF
    refine p5.same g (hi.fr g (.inr ⟨k, hk, hg⟩)).1 fun h => ?_
    rcases List.mem_append.1 h with h | h
    · obtain ⟨k', hk', rfl⟩ := List.mem_map.1 h
      rw [← hms] at hk'
      obtain ⟨p, hp, rfl⟩ := List.mem_map.1 hk'
      exact hi.mo p.1 k (by rw [hA.ms p hp]; simp) hk hg
    · exact hgF h
  obtain ⟨t1, t2, n3, FL3, t3, t4, t5, t6⟩ := putBack_ok hi hgo hKS hsm C.ln r.lent (fun e he => by
      have hun2 : unlike (C.gv ++ rows.2) = true := by rw [hgs]; exact hun
      obtain ⟨u1, _, _⟩ := unlike_append hun2
      obtain ⟨u, k1, k2⟩ := hA.ln u1 e he
      refine ⟨u, valAt_more k1, ?_⟩
      have := k2.left hi hF2 hA.gv hgv2 hun2
      rw [hgs] at this
      exact this) hlt q3 hndE (fun g hg => (p4 g (by simp [hg])).2) hkeys3
  have hall : FL (NwOk w' K2) (vs.2 ++ (rs.2 ++ lts)) (n1 ++ (n2 ++ n3)) (G1 ++ (G2 ++ FL3)) := a1.append (b3.append t3)
  have hFL3 : ∀ g, g ∈ FL3 → g ∉ G1 ∧ g ∉ G2 := by
    intro g hg
    rcases t5 g hg with h | ⟨k, hk, hgk, hgF⟩
    · exact ⟨fun hx => hndC g hx g (by simp [h]) rfl, fun hx => hndF g hx g h rfl⟩
    · have hlt' := (hi.fr g (.inr ⟨k, hgo k (t2 k hk), hgk⟩)).1
      refine ⟨fun hx => ?_, fun hx => ?_⟩
      · rcases (p4 g (by simp [hx])).2 with h | h
        · exact hgF h
        · omega
      · rcases (p4 g (by simp [hx])).2 with h | h
        · exact hgF h
        · omega
  have hnd : (G1 ++ (G2 ++ FL3)).Nodup := by
    refine List.nodup_append.2 ⟨hndA, List.nodup_append.2 ⟨hndD, t4, ?_⟩, ?_⟩
    · rintro x hx x' hx' rfl; exact (hFL3 x hx').2 hx
    · rintro x hx x' hx' rfl
      rcases List.mem_append.1 hx' with h | h
      · exact hndC x hx x (by simp [h]) rfl
      · exact (hFL3 x h).1 hx
  have hGin : ∀ g, g ∈ G1 ++ (G2 ++ FL3) → g < w'.heap.size ∧ ((∃ k, k ∈ gs ∧ S.ow k ≠ none ∧ g ∈ c.F k) ∨ w.heap.size ≤ g) := by
    intro g hg
    have hcase : g ∈ G1 ++ (G2 ++ G3) ∨ ∃ k, k ∈ lkeys C.ln ∧ g ∈ c.F k ∧ g ∉ F1 ++ F2 := by
      rcases List.mem_append.1 hg with h | h
      · exact .inl (by simp [h])
      · rcases List.mem_append.1 h with h | h
        · exact .inl (by simp [h])
        · rcases t5 g h with h | h
          · exact .inl (by simp [h])
          · exact .inr h
    rcases hcase with h | ⟨k, hk, hgk, _⟩
    · refine ⟨(p4 g h).1, (p4 g h).2.imp (fun h => ?_) id⟩
      obtain ⟨k, h, h'⟩ := hFh g h
      exact ⟨k, h, hgo k h, h'⟩
    · have hko := hgo k (t2 k hk)
      exact ⟨Nat.lt_of_lt_of_le (hi.fr g (.inr ⟨k, hko, hgk⟩)).1 p5.size, .inl ⟨k, t2 k hk, hko, hgk⟩⟩
  have hmsK : ∀ k, k ∈ msK → S.ms k ≠ none := by
    intro k hk
    rw [← hms] at hk
    obtain ⟨p, hp, rfl⟩ := List.mem_map.1 hk
    rw [hA.ms p hp]; simp
  have hmsN : msK.Nodup := by rw [← hms]; exact hA.un
  generalize hl : vs.2 ++ (rs.2 ++ lts) = l at *
  generalize hns : n1 ++ (n2 ++ n3) = ns at *
  generalize hks : gone (moved (lkeys C.ln) C.gv ++ rows.2) ++ ((lkeys C.ln).map Kl.deep ++ gone ((vs.2 ++ rs.2).map (·.1))) = ks
  generalize hS : (S.kp ks).ups (goneU gs ++ (ownsU l ++ rowsU rs.1)) = S'
  have hg := goneU_ow gs (S.kp ks)
  obtain ⟨o1, o2, _, o4⟩ := ownsU_at l ((S.kp ks).ups (goneU gs)) hkeys
  obtain ⟨r1, r2, _, r4, r5⟩ := rowsU_at rs.1 (((S.kp ks).ups (goneU gs)).ups (ownsU l)) (by rw [b1]; exact hmsN)
  rw [ups_append, ups_append] at hS
  obtain ⟨e1, e2, e3⟩ := kp_sl_ms S ks
  let news : Nat → Option New := fun k => find ((l.map (·.1)).zip ns) k
  have how : ∀ k, S'.ow k = match news k with | some n => some n.o | none => if k ∈ gs then none else S.ow k := by
    intro k
    rw [← hS, r2, o4, hg.2.2, e2]
    have := news_find hall k
    show _ = match find ((l.map (·.1)).zip ns) k with | some n => some n.o | none => if k ∈ gs then none else S.ow k
    cases hf : find ((l.map (·.1)).zip ns) k with
    | none => rw [hf] at this; simp only at this; rw [← this]
    | some n => rw [hf] at this; simp only at this; rw [← this]
  have hms' : S'.ms = S.ms := by rw [← hS, r1, o1, hg.1, e1]
  have hmc : ∀ k i, k ∉ msK → S'.mc k i = (S.mc k i).kp ks := by
    intro k i hk
    rw [← hS, r4 k i (by rw [b1]; exact hk), o2, hg.2.1, e3]
  have hrowmc : ∀ p, p ∈ rs.1 → ∀ i, i < p.2.length → S'.mc p.1 i = p.2.getD i .no := by
    intro p hp i hi'
    rw [← hS]; exact r5 p hp i hi'
  have hHv : ∀ c', (∀ k n, news k = some n → c'.hv k = n.h) → Hv S' c' l ns := by
    intro c' hc' k n hk
    have hf : find ((l.map (·.1)).zip ns) k = some n := find_mem (by
      rw [List.map_fst_zip (by rw [hall.len]; simp)]; exact hkeys) hk
    exact ⟨by rw [how, show news k = some n from hf], hc' k n hf⟩
  have hK2 : ∀ K', KSame w w' (Kok b S c) K' → (∀ g, (w.heap.size ≤ g ∨ ∃ k, k ∈ gs ∧ S.ow k ≠ none ∧ g ∈ c.F k) → (∀ k n, news k = some n → g ∉ n.F) → K' g) → ∀ g, g < w'.heap.size → K2 g → K' g := by
    rintro K' hK hfr g _ (⟨h1, h2⟩ | ⟨h1, h2⟩)
    · exact (hK.2 g h1 h2).2
    · refine hfr g (h1.imp id fun h1 => ?_) fun k n hk hg => ?_
      · obtain ⟨k, h, h'⟩ := hFh g h1
        exact ⟨k, h, hgo k h, h'⟩
      have hx := (news_in hall k n hk).2.1 g hg
      rcases List.mem_append.1 hx with h | h
      · exact h2 (by simp [h])
      · rcases List.mem_append.1 h with h | h
        · exact h2 (by simp [h])
        · rcases t5 g h with h | ⟨k', hk', hgk, hnF⟩
          · exact h2 (by simp [h])
          · have := (hi.fr g (.inr ⟨k', hgo k' (t2 k' hk'), hgk⟩)).1
            rcases h1 with h1 | h1
            · omega
            · exact hnF h1
  have hstay : ∀ k o, S.ow k = some o → (k ∈ gs ∨ news k ≠ none) → .all k ∈ ks ∨ (.deep k ∈ ks ∧ ∃ n xs', news k = some n ∧ n.h = c.hv k ∧ n.o = ⟨o.e, o.r, xs'⟩ ∧ xs'.length = o.xs.length) := by
    intro k o ho hk
    by_cases hkl : k ∈ lkeys C.ln
    · right
      rw [← t1] at hkl
      have hlen3 : n3.length = lts.length := t3.len
      obtain ⟨i, hi', hik⟩ := List.getElem_of_mem hkl
      have hi3 : i < n3.length := by rw [hlen3]; simpa using hi'
      have hz : (k, n3[i]) ∈ (lts.map (·.1)).zip n3 := by
        have : ((lts.map (·.1)).zip n3)[i]? = some (k, n3[i]) := by
          rw [List.getElem?_zip_eq_some]
          exact ⟨by rw [List.getElem?_eq_getElem hi', hik], List.getElem?_eq_getElem hi3⟩
        exact List.mem_of_getElem? this
      have hz2 : (k, n3[i]) ∈ (l.map (·.1)).zip ns := by
        rw [← hl, ← hns, List.map_append, List.map_append, List.zip_append (by simp [hnl]), List.zip_append (by rw [List.length_map]; exact b3.len.symm)]
        simp [hz]
      have hf : news k = some n3[i] := find_mem (by rw [List.map_fst_zip (by rw [hall.len]; simp)]; exact hkeys) hz2
      obtain ⟨g1, o', xs', g2, g3, g4⟩ := t6 k _ hz
      obtain rfl : o = o' := by rw [ho] at g2; injection g2
      refine ⟨?_, _, xs', hf, g1, g3, g4⟩
      rw [← hks]
      rw [t1] at hkl
      simp only [List.mem_append]
      exact .inr (.inl (List.mem_map.2 ⟨k, hkl, rfl⟩))
    · left
      rw [← hks]
      rcases hk with hk | hk
      · rw [← hgs] at hk
        refine List.mem_append.2 (.inl (List.mem_map.2 ⟨k, ?_, rfl⟩))
        rcases List.mem_append.1 hk with hk | hk
        · exact List.mem_append.2 (.inl (by simp only [moved, List.mem_filter]; exact ⟨hk, by simpa using hkl⟩))
        · exact List.mem_append.2 (.inr hk)
      · obtain ⟨n, hn⟩ := Option.ne_none_iff_exists'.1 hk
        have hm := (news_in hall k n hn).1
        rw [← hl, List.map_append, List.map_append] at hm
        refine List.mem_append.2 (.inr (List.mem_append.2 (.inr (List.mem_map.2 ⟨k, ?_, rfl⟩))))
        rw [List.map_append]
        rcases List.mem_append.1 hm with hm | hm
        · exact List.mem_append.2 (.inl hm)
        · rcases List.mem_append.1 hm with hm | hm
          · exact List.mem_append.2 (.inr hm)
          · rw [t1] at hm; exact absurd hm hkl
  have hmany := hi.many (S' := S') (w' := w') news gs msK ks how hms' hmc hstay
    (p5.mono (by
      intro g hg
      rcases List.mem_append.1 hg with hg | hg
      · obtain ⟨k, hk, rfl⟩ := List.mem_map.1 hg
        exact .inr ⟨k, hk, hmsK k hk, rfl⟩
      · obtain ⟨k, h, h'⟩ := hFh g hg
        exact .inl ⟨k, h, hgo k h, h'⟩))
    (fun k n hk g hg => hGin g ((news_in hall k n hk).2.1 g hg))
    (fun k n hk => (news_in hall k n hk).2.2.1 hnd) (fun k n k' n' hne hk hk' => news_dis hall hnd k n k' n' hne hk hk')
    (fun K' hK hfr k n hk => Rp.mono (hK2 K' hK hfr) _ _ (news_in hall k n hk).2.2.2)
    (fun K' c' hK hfr hhv k n hk hn => by
      have hb := hHv c' hhv
      rw [← hl, ← hns] at hb
      rw [← b1] at hk
      obtain ⟨p, hp, rfl⟩ := List.mem_map.1 hk
      obtain ⟨cs, e, fr, h1, h2, h3⟩ := b4 S' c' (Hv.left b3.len (Hv.right hnl hb)) p hp
      have hsz : p.2.length = n := by
        obtain ⟨i, hi', hpi⟩ := List.getElem_of_mem hp
        have q1 : (rs.1.map (·.1))[i]? = some p.1 := by rw [List.getElem?_map, List.getElem?_eq_getElem hi', hpi]; rfl
        have q2 : (rs.1.map (·.2.length))[i]? = some p.2.length := by rw [List.getElem?_map, List.getElem?_eq_getElem hi', hpi]; rfl
        rw [b1, ← hms, List.getElem?_map, Option.map_eq_some_iff] at q1
        obtain ⟨m, hm, hm1⟩ := q1
        rw [b2, hlen, List.getElem?_map, hm] at q2
        injection q2 with q2
        have := hA.ms m (List.mem_of_getElem? hm)
        rw [hm1, hn] at this
        injection this with this
        rw [this, ← q2]
      refine ⟨cs, e, fr, h1, by rw [← hsz, h3.len]; simp, h2, fun i u hu => ?_⟩
      have hlt : i < p.2.length := by rw [h3.len]; simpa using (Array.getElem?_eq_some_iff.1 hu).1
      obtain ⟨u', hu1, hu2⟩ := h3.get (List.getElem?_eq_getElem hlt)
      rw [hrowmc p hp i hlt, List.getD_eq_getElem?_getD, List.getElem?_eq_getElem hlt, Option.getD_some]
      have : u' = u := by
        rw [Array.getElem?_toList, hu] at hu1
        injection hu1 with hu1; exact hu1.symm
      subst this
      exact LeafOk.mono (hK2 K' hK hfr) hu2)
  obtain ⟨c', m1, m2, m3, m4, m5⟩ := hmany
  have hS' : (S.kp ks).ups (goneU gs ++ (ownsU l ++ rowsU rs.1)) = S' := by rw [ups_append, ups_append]; exact hS
  unfold Did
  simp only
  rw [hS']
  refine ⟨c', m3, m4, ?_⟩
  have hb := hHv c' fun k n hk => (m2 k n hk).1
  rw [← hl, ← hns] at hb
  refine tupled_ok ?_
  have := a2 S' c' (Hv.left hnl hb) (fun k hk => by rw [hms']; exact hmsK k hk) (fun k _ => by rw [m1])
  exact this.mono fun _ _ h => S1Ok.mono (hK2 _ m4.kk m5) h
theorem zip_all {p : SV → Value → Prop} : ∀ {xs : List SV} {us : List Value} {ts : List TypeId}, All2 p xs us → xs.length = ts.length → All2 (fun (x : SV × TypeId) u => p x.1 u) (xs.zip ts) us
  | [], _, [], .nil, _ => .nil
  | _ :: _, _, _ :: _, .cons h1 h2, h => .cons h1 (zip_all h2 (by simpa using h))
  | [], _, _ :: _, _, h => by simp at h
  | _ :: _, _, [], _, h => by simp at h
theorem caps_fl {K : Nat → Prop} {C : AC} : ∀ {ps : List (Nat × Nat)} {vs : List Value}, All2 (PlAt c C) ps vs → FL (A1Ok w K (C.ms.map fun p => c.mb p.1)) (ps.map fun p => A1.pl p.1 p.2) vs []
  | [], _, .nil => ⟨rfl, rfl⟩
  | p :: ps, _, .cons (b := v) (bs := vs) h1 h2 => by
    obtain ⟨g, h3, h4⟩ := h1 []
    rw [List.append_nil] at h3
    exact ⟨v, vs, [], [], rfl, rfl, ⟨rfl, g, h3, h4⟩, caps_fl h2⟩
theorem callT_ok (hE : EnvOk P E) {N : Nat} {a : Act} (hi : Inv b S w c) (hs : Slots N S c w (Kok b S c) a) {o : Oper} {f : FuncId} {fo : Operand} {caps : List (Nat × Nat)} {args : Array Operand} {ts : Array TypeId} {d : Nat} {out : Out} (ho : o.op = .call ⟨.value fo, args, ts⟩) (hfo : opnd S fo = .s (.fv f caps))
    (hsz : args.size = ts.size) (h : (callT E d f caps ((args.toList.map (opnd S)).zip ts.toList)).ev S = some out) : Goes P o a w fun v w' => Did b S c w out v w' := by
  unfold callT at h
  simp only [ev_bind, Option.bind_eq_some_iff] at h
  obtain ⟨C0, hC0, ⟨ps, C⟩, hcaps, h⟩ := h
  have hfv := opnd_ok hs fo
  rw [hfo] at hfv
  obtain ⟨cvs, hfval, hcvs⟩ := hfv
  have hall := zip_all (args_all hs args.toList) (by simpa using hsz : (args.toList.map (opnd S)).length = ts.toList.length)
  obtain ⟨F1, hA0⟩ := argsT_ok hi _ _ _ {} [] [] hall ⟨fun _ _ => ⟨rfl, rfl⟩, fun g hg => (by cases hg), fun k hk => (by cases hk), trivial, fun _ => by simp, fun p hp => (by cases hp), by simp, fun _ e he => (by cases he)⟩ hC0
  rw [List.nil_append] at hA0
  obtain ⟨hA, _, hps⟩ := capsT_ok caps _ hcvs hA0 hcaps
  simp only at hA hps h
  unfold callT2 at h
  simp only [ev_bind, Option.bind_eq_some_iff] at h
  obtain ⟨rows, hrows, h⟩ := h
  split at h
  · rename_i hun
    simp only [Bool.and_eq_true, List.all_eq_true, Bool.not_eq_true'] at hun
    obtain ⟨hun, hbw⟩ := hun
    simp only [ev_bind, Option.bind_eq_some_iff] at h
    obtain ⟨r, hr, lts, hlts, h⟩ := h
    split at h
    · rename_i hro
      split at h
      · rename_i vs rs hv hrs
        split at h
        · rename_i hu
          simp only [Bool.and_eq_true, decide_eq_true_eq] at hu
          obtain ⟨hu2, hlen⟩ := hu
          simp only [Tr.ev, Option.some.injEq] at h
          subst h
          obtain ⟨hgv2, F2, hR, hnd2, hF2⟩ := rowsOf_ok hi C.ms hA.ms hrows
          obtain ⟨u1, u2, u3⟩ := unlike_append hun
          have hFn := held_append hi hA.held hF2 hA.gv hgv2 hun (hA.nd u1) (hnd2 u2)
          obtain ⟨hFh, hFnd⟩ := hFn
          have hgo := ows_append hA.gv hgv2
          obtain ⟨⟨fn, hf, hname, hbody⟩, hcs⟩ := hE.ca f _ rows.1 S r hr
          have hfl0 := hA.fl [] []
          rw [List.append_nil, List.append_nil] at hfl0
          have hfl := hfl0.append (caps_fl (w := w) (K := KB b S c C.bw) hps)
          rw [List.append_nil] at hfl
          have hmsO : ∀ g, g ∈ C.ms.map (fun p => c.mb p.1) → ∃ k, S.ms k ≠ none ∧ c.mb k = g ∧ k ∈ C.ms.map (·.1) := by
            intro g hg
            obtain ⟨p, hp, rfl⟩ := List.mem_map.1 hg
            exact ⟨p.1, by rw [hA.ms p hp]; simp, rfl, List.mem_map_of_mem hp⟩
          have hmsN : (C.ms.map fun p => c.mb p.1).Nodup := by
            have h1 : (C.ms.map fun p => c.mb p.1) = (C.ms.map (·.1)).map c.mb := by rw [List.map_map]; rfl
            have h2 : ∀ k, k ∈ C.ms.map (·.1) → S.ms k ≠ none := by
              intro k hk
              obtain ⟨p, hp, rfl⟩ := List.mem_map.1 hk
              rw [hA.ms p hp]; simp
            rw [h1]
            have h3 := hA.un
            revert h2 h3
            generalize C.ms.map (·.1) = l
            intro h2 h3
            induction l with
            | nil => simp
            | cons k l ih =>
              obtain ⟨g1, g2⟩ := List.nodup_cons.1 h3
              rw [List.map_cons, List.nodup_cons]
              refine ⟨fun hm => ?_, ih (fun k hk => h2 k (List.mem_cons_of_mem _ hk)) g2⟩
              obtain ⟨k', hk', he⟩ := List.mem_map.1 hm
              have hne : k' ≠ k := by rintro rfl; exact g1 hk'
              exact hi.mm k' k hne (h2 k' (List.mem_cons_of_mem _ hk')) (h2 k (by simp)) he
          have hcall := hcs w (args.toList.map a.eval ++ cvs) (KB b S c C.bw) (C.ms.map fun p => c.mb p.1) F1 F2 hfl (hR C.bw) (by
            refine List.nodup_append.2 ⟨hmsN, hFnd, ?_⟩
            rintro g hg g' hg' rfl
            obtain ⟨k, hk, rfl, _⟩ := hmsO g hg
            obtain ⟨k', hk', hgk⟩ := hFh _ hg'
            exact hi.mo k k' hk (hgo k' hk') hgk) (by
            intro g hg
            rcases List.mem_append.1 hg with hg | hg
            · obtain ⟨k, hk, rfl, hkm⟩ := hmsO g hg
              have hO : Owned S c (c.mb k) := .inl ⟨k, hk, rfl⟩
              refine ⟨(hi.fr _ hO).1, ?_⟩
              rintro (h | ⟨k', hk', how, hgk⟩ | ⟨k', hk', hms', hgk⟩)
              · exact h.2 hO
              · exact hi.mo k k' hk how hgk
              · have hne : k ≠ k' := by
                  rintro rfl
                  have := (hbw k hk').2
                  simp only [List.contains_eq_mem, decide_eq_false_iff_not] at this
                  exact this hkm
                exact hi.mm k k' hne hk hms' hgk
            · obtain ⟨k, hk, hgk⟩ := hFh g hg
              have hO : Owned S c g := .inr ⟨k, hgo k hk, hgk⟩
              refine ⟨(hi.fr _ hO).1, ?_⟩
              rintro (h | ⟨k', hk', how, hgk'⟩ | ⟨k', hk', hms', hgk'⟩)
              · exact h.2 hO
              rotate_left
              · subst hgk'
                exact hi.mo k' k hms' (hgo k hk) hgk
              · have hne : k ≠ k' := by
                  rintro rfl
                  have := (hbw k hk').1
                  simp only [List.contains_eq_mem, decide_eq_false_iff_not] at this
                  exact this hk
                exact hi.oo k k' hne (hgo k hk) how g hgk hgk') ⟨(gl_now hi).1, fun g hg => .inl ((gl_now hi).2 g hg)⟩
          intro next Q hnext
          have hargs : args.map a.eval ++ cvs.toArray = (args.toList.map a.eval ++ cvs).toArray := by apply Array.ext'; simp
          unfold Oper.wp
          have hrun : (execOp a.eval o).run P w = .ok (.enter f (args.toList.map a.eval ++ cvs).toArray) w := by
            rw [← hargs]
            have hname' : ¬ fn.name = "runtime.NumGoroutine" := by simpa using hname
            have hbody' : ¬ fn.body = none := by
              intro hb
              rw [hb] at hbody
              cases hbody
            simp [execOp, ho, resolve, Deferred.ofValue, hfval, invoke, callFunc, hf, hname', hbody']
          rw [hrun]
          refine Calls.mono hcall ?_
          rintro e w' ⟨v, rfl, hp⟩
          refine hnext v w' (call_did hi hA ?_ hlts hv hrs hu2 hlen hF2 hgv2 hun hp)
          simp only [Bool.or_eq_true, Bool.not_eq_true', Bool.or_eq_false_iff, List.isEmpty_iff] at hro
          exact hro
        · simp [Tr.ev] at h
      · simp [Tr.ev] at h
    · simp [Tr.ev] at h
  · simp [Tr.ev] at h
end
end Go.V

namespace Go.V
open Go.RowKit
theorem tuple_1 (vs : List (Nat × ALeaf)) (t : Ty) (i : Nat) : tuple vs [t] i = match find vs i with
    | some ⟨u, x⟩ => if h : u = t then some (h ▸ x) else none
    | none => none := rfl
theorem tuple_2 (vs : List (Nat × ALeaf)) (t u : Ty) (ts : List Ty) (i : Nat) : tuple vs (t :: u :: ts) i = match find vs i with
    | some ⟨u', x⟩ => if h : u' = t then match tuple vs (u :: ts) (i + 1) with
      | some y => some (h ▸ x, y)
      | none => none
      else none
    | none => none := rfl
theorem tuple_split (vs : List (Nat × ALeaf)) : ∀ (ts : List Ty) (i : Nat) (x : (rowTy ts).D), tuple vs ts i = some x → ∀ j, j < ts.length → find vs (i + j) = (split ts x)[j]? := by
  intro ts
  induction ts with
  | nil => intro i x _ j hj; simp at hj
  | cons t ts ih =>
    intro i x h j hj
    cases ts with
    | nil =>
      obtain rfl : j = 0 := by simp at hj; exact hj
      rw [tuple_1] at h
      show find vs (i + 0) = [(⟨t, x⟩ : ALeaf)][0]?
      split at h
      · rename_i u y hf
        split at h
        · rename_i hu
          subst hu
          injection h with h
          subst h
          exact hf
        · cases h
      · cases h
    | cons u ts =>
      rw [tuple_2] at h
      split at h
      · rename_i u' y hf
        split at h
        · rename_i hu
          subst hu
          split at h
          · rename_i z hz
            injection h with h
            subst h
            show find vs (i + j) = ((⟨_, y⟩ : ALeaf) :: split (u :: ts) z)[j]?
            cases j with
            | zero => exact hf
            | succ j =>
              have := ih (i + 1) z hz j (by simpa using hj)
              rw [List.getElem?_cons_succ, ← this]
              congr 1; omega
          · cases h
        · cases h
      · cases h
structure Le (m m' : Mt) : Prop where
  ro : ∀ x, x ∈ m.ro → x ∈ m'.ro
  rm : ∀ x, x ∈ m.rm → x ∈ m'.rm
  nl : ∀ x, x ∈ m.nl → x ∈ m'.nl
  vs : ∀ x, x ∈ m.vs → x ∈ m'.vs
theorem Le.refl (m : Mt) : Le m m := ⟨fun _ h => h, fun _ h => h, fun _ h => h, fun _ h => h⟩
theorem Le.trans {a b c : Mt} (h : Le a b) (k : Le b c) : Le a c := ⟨fun x hx => k.ro x (h.ro x hx), fun x hx => k.rm x (h.rm x hx), fun x hx => k.nl x (h.nl x hx), fun x hx => k.vs x (h.vs x hx)⟩
theorem addKey_ok {l l' : List (Nat × Nat)} {a b : Nat} (h : addKey l a b = some l') : (a, b) ∈ l' ∧ ∀ x, x ∈ l → x ∈ l' := by
  unfold addKey at h
  split at h
  · rename_i c hc
    split at h
    · rename_i hcb
      subst hcb
      injection h with h
      subst h
      exact ⟨find_some_mem hc, fun _ h => h⟩
    · cases h
  · injection h with h
    subst h
    exact ⟨by simp, fun x hx => by simp [hx]⟩
section
variable {holes : List Ty} {S S0 : St} {c c0 : Cc} {w : World} {K K0 : Nat → Prop}
structure Fin (hs : List ALeaf) (m : Mt) (S S0 : St) (c c0 : Cc) (w : World) (K K0 : Nat → Prop) : Prop where
  k : ∀ g, g < w.heap.size → K g → K0 g
  vs : ∀ i x, (i, x) ∈ m.vs → hs[i]? = some x
  ro : ∀ κ k, (κ, k) ∈ m.ro → S0.ow κ = S.ow k ∧ c0.hv κ = c.hv k
  nl : ∀ κ, κ ∈ m.nl → (∃ e r, S0.ow κ = some ⟨e, r, []⟩) ∧ c0.hv κ = .slice none 0 0
  rm : ∀ κ k, (κ, k) ∈ m.rm → (S.ms k ≠ none → S0.ms κ ≠ none) ∧ c0.mb κ = c.mb k
theorem mtL_ok {hs : List ALeaf} {mf : Mt} {m m' : Mt} {t : TL} {l : Leaf} (h : t.mt holes m l = some m') : Le m m' ∧ (Le m' mf → Fin hs mf S S0 c c0 w K K0 → ∀ v, LeafOk S c w K l v → LeafOk S0 c0 w K0 (t.inj hs) v) := by
  unfold TL.mt at h
  split at h
  · rename_i i t x
    injection h with h
    subst h
    refine ⟨⟨fun _ h => h, fun _ h => h, fun _ h => h, fun x hx => by simp [hx]⟩, fun hl hf v hv => ?_⟩
    have := hf.vs i ⟨t, x⟩ (hl.vs _ (by simp))
    simp only [TL.inj, this]
    exact LeafOk.mono hf.k hv
  · rename_i i
    split at h
    · rename_i e r _
      injection h with h
      subst h
      refine ⟨⟨fun _ h => h, fun _ h => h, fun _ h => h, fun x hx => by simp [hx]⟩, fun hl hf v hv => ?_⟩
      have := hf.vs i ⟨.sl false e r, []⟩ (hl.vs _ (by simp))
      simp only [TL.inj, this]
      obtain rfl : v = .slice none 0 0 := hv
      show Rp w K0 (.sl false e r) [] _ _
      rw [Rp]
      exact ⟨rfl, none, 0, [], rfl, Nat.le_refl _, ⟨rfl, rfl⟩, .inl rfl⟩
    · cases h
  · rename_i κ k
    split at h
    · rename_i l hl
      injection h with h
      subst h
      obtain ⟨h1, h2⟩ := addKey_ok hl
      refine ⟨⟨h2, fun _ h => h, fun _ h => h, fun _ h => h⟩, fun hle hf v hv => ?_⟩
      obtain ⟨h3, h4⟩ := hf.ro κ k (hle.ro _ h1)
      obtain ⟨o, e, r, ys, hd, q1, q2, q3, q4⟩ := hv
      exact ⟨o, e, r, ys, hd, by rw [h3]; exact q1, q2, by rw [h4]; exact q3, q4⟩
    · cases h
  · rename_i κ
    injection h with h
    subst h
    refine ⟨⟨fun _ h => h, fun _ h => h, fun x hx => by simp [hx], fun _ h => h⟩, fun hle hf v hv => ?_⟩
    obtain ⟨⟨e, r, h3⟩, h4⟩ := hf.nl κ (hle.nl _ (by simp))
    obtain rfl : v = .slice none 0 0 := hv
    exact ⟨_, e, r, [], .slice none 0 0, h3, rfl, by rw [h4]; rfl, rfl⟩
  · rename_i κ i f k n g
    split at h
    · rename_i hfg
      subst hfg
      split at h
      · rename_i l hl
        injection h with h
        subst h
        obtain ⟨h1, h2⟩ := addKey_ok hl
        refine ⟨⟨h2, fun _ h => h, fun _ h => h, fun x hx => by simp [hx]⟩, fun hle hf v hv => ?_⟩
        obtain ⟨h3, h4⟩ := hf.ro κ k (hle.ro _ h1)
        have := hf.vs i ⟨.int .i64, ((n : Nat) : Int)⟩ (hle.vs _ (by simp))
        obtain ⟨o, e, r, ys, hd, q1, q2, q3, q4⟩ := hv
        simp only [TL.inj, this, ixOf, Int.toNat_natCast]
        exact ⟨o, e, r, ys, hd, by rw [h3]; exact q1, q2, by rw [h4]; exact q3, q4⟩
      · cases h
    · cases h
  · rename_i κ i j k n g
    split at h
    · rename_i l hl
      injection h with h
      subst h
      obtain ⟨h1, h2⟩ := addKey_ok hl
      refine ⟨⟨h2, fun _ h => h, fun _ h => h, fun x hx => by simp [hx]⟩, fun hle hf v hv => ?_⟩
      obtain ⟨h3, h4⟩ := hf.ro κ k (hle.ro _ h1)
      have t1 := hf.vs i ⟨.int .i64, ((n : Nat) : Int)⟩ (hle.vs _ (by simp))
      have t2 := hf.vs j ⟨.int .i64, ((g : Nat) : Int)⟩ (hle.vs _ (by simp))
      obtain ⟨o, e, r, ys, hd, q1, q2, q3, q4⟩ := hv
      simp only [TL.inj, t1, t2, ixOf, Int.toNat_natCast]
      exact ⟨o, e, r, ys, hd, by rw [h3]; exact q1, q2, by rw [h4]; exact q3, q4⟩
    · cases h
  · injection h with h
    subst h
    exact ⟨Le.refl _, fun _ _ v hv => hv⟩
  · injection h with h
    subst h
    exact ⟨Le.refl _, fun _ _ v _ => trivial⟩
  · cases h
theorem mtsL_ok {hs : List ALeaf} {mf : Mt} : ∀ (ts : List TL) (ls : List Leaf) {m m' : Mt}, TL.mts holes m ts ls = some m' → Le m m' ∧ (Le m' mf → Fin hs mf S S0 c c0 w K K0 → ∀ vs, All2 (LeafOk S c w K) ls vs → All2 (LeafOk S0 c0 w K0) (ts.map (TL.inj hs)) vs)
  | [], [], m, m', h => by
    rw [TL.mts] at h
    injection h with h
    subst h
    exact ⟨Le.refl _, fun _ _ vs hv => by cases hv; exact .nil⟩
  | t :: ts, l :: ls, m, m', h => by
    rw [TL.mts] at h
    split at h
    · rename_i m1 h1
      obtain ⟨q1, q2⟩ := mtL_ok (hs := hs) (mf := mf) (S := S) (S0 := S0) (c := c) (c0 := c0) (w := w) (K := K) (K0 := K0) h1
      obtain ⟨q3, q4⟩ := mtsL_ok ts ls h
      refine ⟨q1.trans q3, fun hle hf vs hv => ?_⟩
      cases hv with
      | cons a1 a2 => exact .cons (q2 (q3.trans hle) hf _ a1) (q4 hle hf _ a2)
    · cases h
  | [], _ :: _, _, _, h => by simp [TL.mts] at h
  | _ :: _, [], _, _, h => by simp [TL.mts] at h
theorem mtS_ok {hs : List ALeaf} {mf : Mt} {m m' : Mt} {t : TS} {x : SV} (h : t.mt holes m x = some m') : Le m m' ∧ (Le m' mf → Fin hs mf S S0 c c0 w K K0 → ∀ v, SVOk S c w K x v → SVOk S0 c0 w K0 (.s (t.inj hs)) v) := by
  unfold TS.mt at h
  split at h
  · obtain ⟨q1, q2⟩ := mtL_ok (hs := hs) (mf := mf) (S := S) (S0 := S0) (c := c) (c0 := c0) (w := w) (K := K) (K0 := K0) h
    exact ⟨q1, fun hle hf v hv => q2 hle hf v hv⟩
  · obtain ⟨q1, q2⟩ := mtsL_ok (hs := hs) (mf := mf) (S := S) (S0 := S0) (c := c) (c0 := c0) (w := w) (K := K) (K0 := K0) _ _ h
    refine ⟨q1, fun hle hf v hv => ?_⟩
    obtain ⟨vs, rfl, hv⟩ := hv
    exact ⟨vs, rfl, q2 hle hf vs hv⟩
  · rename_i κ off k off'
    split at h
    · rename_i ho
      subst ho
      split at h
      · rename_i l hl
        injection h with h
        subst h
        obtain ⟨h1, h2⟩ := addKey_ok hl
        refine ⟨⟨fun _ h => h, h2, fun _ h => h, fun _ h => h⟩, fun hle hf v hv => ?_⟩
        obtain ⟨h3, h4⟩ := hf.rm κ k (hle.rm _ h1)
        obtain ⟨n, hn, rfl⟩ := hv
        obtain ⟨n', hn'⟩ := Option.ne_none_iff_exists'.1 (h3 (by rw [hn]; simp))
        exact ⟨n', hn', by rw [h4]⟩
      · cases h
    · cases h
  · rename_i f cs f' cs'
    split at h
    · rename_i hq
      obtain ⟨rfl, rfl, hall⟩ := hq
      injection h with h
      subst h
      refine ⟨Le.refl _, fun hle hf v hv => ?_⟩
      obtain ⟨vs, rfl, hvs⟩ := hv
      refine ⟨vs, rfl, ?_⟩
      induction hvs with
      | nil => exact .nil
      | @cons p v cs vs h1 _ ih =>
        simp only [List.all_cons, Bool.and_eq_true, beq_iff_eq] at hall
        obtain ⟨n, hn, rfl⟩ := h1
        obtain ⟨h3, h4⟩ := hf.rm p.1 p.1 (hle.rm _ (find_some_mem hall.1))
        obtain ⟨n', hn'⟩ := Option.ne_none_iff_exists'.1 (h3 (by rw [hn]; simp))
        exact .cons ⟨n', hn', by rw [h4]⟩ (ih hall.2)
    · cases h
  · rename_i i off u x off'
    split at h
    · rename_i ho
      subst ho
      injection h with h
      subst h
      refine ⟨⟨fun _ h => h, fun _ h => h, fun _ h => h, fun x hx => by simp [hx]⟩, fun hle hf v hv => ?_⟩
      have := hf.vs i ⟨u, x⟩ (hle.vs _ (by simp))
      simp only [TS.inj, this]
      obtain ⟨a, vs, q0, q1, q2, q3, q4⟩ := hv
      exact ⟨a, vs, q0, Rp.mono hf.k _ _ q1, hf.k _ q3 q2, q3, q4⟩
    · cases h
  · cases h
theorem mtSlots_ok {hs : List ALeaf} {mf : Mt} : ∀ (l : List (Nat × TS)) {m m' : Mt}, mtSlots holes S l m = some m' → Le m m' ∧ (Le m' mf → Fin hs mf S S0 c c0 w K K0 → ∀ i t, (i, t) ∈ l → ∀ v, SVOk S c w K (S.sl i) v → SVOk S0 c0 w K0 (.s (t.inj hs)) v)
  | [], m, m', h => by
    rw [mtSlots] at h
    injection h with h
    subst h
    exact ⟨Le.refl _, fun _ _ i t hm => by cases hm⟩
  | (i, t) :: l, m, m', h => by
    rw [mtSlots] at h
    split at h
    · rename_i m1 h1
      obtain ⟨q1, q2⟩ := mtS_ok (hs := hs) (mf := mf) (S := S) (S0 := S0) (c := c) (c0 := c0) (w := w) (K := K) (K0 := K0) h1
      obtain ⟨q3, q4⟩ := mtSlots_ok l h
      refine ⟨q1.trans q3, fun hle hf j u hm v hv => ?_⟩
      rcases List.mem_cons.1 hm with hm | hm
      · injection hm with e1 e2
        subst e1 e2
        exact q2 (q3.trans hle) hf v hv
      · exact q4 hle hf j u hm v hv
    · cases h
theorem mtRow_ok {hs : List ALeaf} {mf : Mt} (k : Nat) : ∀ (ts : List TL) (i : Nat) {m m' : Mt}, mtRow holes S k ts i m = some m' →
    Le m m' ∧ (Le m' mf → Fin hs mf S S0 c c0 w K K0 → ∀ j t, ts[j]? = some t → ∀ v, LeafOk S c w K (S.mc k (i + j)) v → LeafOk S0 c0 w K0 (t.inj hs) v)
  | [], i, m, m', h => by
    rw [mtRow] at h
    injection h with h
    subst h
    exact ⟨Le.refl _, fun _ _ j t hm => by simp at hm⟩
  | t :: ts, i, m, m', h => by
    rw [mtRow] at h
    split at h
    · rename_i m1 h1
      obtain ⟨q1, q2⟩ := mtL_ok (hs := hs) (mf := mf) (S := S) (S0 := S0) (c := c) (c0 := c0) (w := w) (K := K) (K0 := K0) h1
      obtain ⟨q3, q4⟩ := mtRow_ok k ts (i + 1) h
      refine ⟨q1.trans q3, fun hle hf j u hm v hv => ?_⟩
      cases j with
      | zero =>
        simp only [List.getElem?_cons_zero, Option.some.injEq] at hm
        subst hm
        exact q2 (q3.trans hle) hf v hv
      | succ j => exact q4 hle hf j u (by simpa using hm) v (by rwa [show i + (j + 1) = i + 1 + j by omega] at hv)
    · cases h
theorem mtMems_ok {hs : List ALeaf} {mf : Mt} : ∀ (l : List (Nat × List TL)) {m m' : Mt}, mtMems holes S l m = some m' →
    Le m m' ∧ (Le m' mf → ∀ κ row, (κ, row) ∈ l → ∃ k, (κ, k) ∈ mf.rm ∧ S.ms k = some row.length ∧ (Fin hs mf S S0 c c0 w K K0 → ∀ j t, row[j]? = some t → ∀ v, LeafOk S c w K (S.mc k j) v → LeafOk S0 c0 w K0 (t.inj hs) v))
  | [], m, m', h => by
    rw [mtMems] at h
    injection h with h
    subst h
    exact ⟨Le.refl _, fun _ i t hm => by cases hm⟩
  | (κ, row) :: l, m, m', h => by
    rw [mtMems] at h
    split at h
    · rename_i k hk
      split at h
      · rename_i hn
        split at h
        · rename_i m1 h1
          obtain ⟨q1, q2⟩ := mtRow_ok (hs := hs) (mf := mf) (S := S) (S0 := S0) (c := c) (c0 := c0) (w := w) (K := K) (K0 := K0) k row 0 h1
          obtain ⟨q3, q4⟩ := mtMems_ok l h
          refine ⟨q1.trans q3, fun hle κ' row' hm => ?_⟩
          rcases List.mem_cons.1 hm with hm | hm
          · injection hm with e1 e2
            subst e1 e2
            exact ⟨k, (q1.trans (q3.trans hle)).rm _ (find_some_mem hk), hn, fun hf j t ht v hv => q2 (q3.trans hle) hf j t ht v (by rwa [Nat.zero_add])⟩
          · exact q4 hle κ' row' hm
        · cases h
      · cases h
    · cases h
theorem mtOwns_ok : ∀ (l : List (Nat × Nat)) {m m' : Mt}, mtOwns holes S l m = some m' →
    Le m m' ∧ m'.ro = m.ro ∧ m'.nl = m.nl ∧ ∀ κ h, (κ, h) ∈ l → (∃ k o, (κ, k) ∈ m.ro ∧ S.ow k = some o ∧ (h, (⟨.sl true o.e o.r, o.xs⟩ : ALeaf)) ∈ m'.vs) ∨ (κ ∈ m.nl ∧ ∃ e r, (h, (⟨.sl true e r, []⟩ : ALeaf)) ∈ m'.vs)
  | [], m, m', h => by
    rw [mtOwns] at h
    injection h with h
    subst h
    exact ⟨Le.refl _, rfl, rfl, fun _ _ hm => by cases hm⟩
  | (κ, hh) :: l, m, m', h => by
    rw [mtOwns] at h
    have add : ∀ (x : ALeaf), Le m { m with vs := (hh, x) :: m.vs } := fun x => ⟨fun _ h => h, fun _ h => h, fun _ h => h, fun y hy => by simp [hy]⟩
    split at h
    · rename_i k hk
      split at h
      · rename_i o ho
        obtain ⟨q1, q2, q3, q4⟩ := mtOwns_ok l h
        refine ⟨(add _).trans q1, q2, q3, fun κ' h' hm => ?_⟩
        rcases List.mem_cons.1 hm with hm | hm
        · injection hm with e1 e2
          subst e1 e2
          exact .inl ⟨k, o, find_some_mem hk, ho, q1.vs _ (by simp)⟩
        · exact q4 κ' h' hm
      · cases h
    · split at h
      · rename_i hc
        split at h
        · rename_i e r _
          obtain ⟨q1, q2, q3, q4⟩ := mtOwns_ok l h
          refine ⟨(add _).trans q1, q2, q3, fun κ' h' hm => ?_⟩
          rcases List.mem_cons.1 hm with hm | hm
          · injection hm with e1 e2
            subst e1 e2
            exact .inr ⟨by simpa using hc, e, r, q1.vs _ (by simp)⟩
          · exact q4 κ' h' hm
        · cases h
      · cases h
end
theorem snd_inj : ∀ {l : List (Nat × Nat)} {a b k : Nat}, (l.map (·.2)).Nodup → (a, k) ∈ l → (b, k) ∈ l → a = b
  | [], _, _, _, _, h, _ => by cases h
  | (i, j) :: l, a, b, k, hn, h1, h2 => by
    rw [List.map_cons, List.nodup_cons] at hn
    rcases List.mem_cons.1 h1 with e1 | h1'
    · injection e1 with e1 e1'
      subst e1 e1'
      rcases List.mem_cons.1 h2 with e2 | h2'
      · injection e2 with e2 _; exact e2.symm
      · exact absurd (List.mem_map.2 ⟨(b, k), h2', rfl⟩) hn.1
    · rcases List.mem_cons.1 h2 with e2 | h2'
      · injection e2 with e2 e2'
        subst e2 e2'
        exact absurd (List.mem_map.2 ⟨(a, k), h1', rfl⟩) hn.1
      · exact snd_inj hn.2 h1' h2'
theorem Tpl.ok0 {b : Base} {N : Nat} {S : St} {a : Act} {w : World} (t : Tpl) {x : t.D} (h : t.prj0 S = some x) (hs : Sim b N S a w) : Sim b N (t.inj x) a w := by
  unfold Tpl.prj0 at h
  split at h
  · rename_i m hm
    split at h
    · rename_i hfine
      simp only [Mt.fine, Bool.and_eq_true, List.all_eq_true, decide_eq_true_eq, Bool.not_eq_true', beq_iff_eq] at hfine
      obtain ⟨⟨⟨⟨⟨⟨⟨⟨⟨f1, f2⟩, f3⟩, f4⟩, f5⟩, f6⟩, f7⟩, f8⟩, f9⟩, f10⟩ := hfine
      obtain ⟨c, hi, hsl, hfx⟩ := hs
      unfold Tpl.mt at hm
      split at hm
      · rename_i m1 hm1
        split at hm
        · rename_i m2 hm2
          obtain ⟨w1, w2, w3, w4⟩ := mtOwns_ok t.owns hm
          generalize hhs : split t.holes x = hs
          have hinj : t.inj x = t.injH hs := by rw [← hhs]; rfl
          rw [hinj]
          have hvs : ∀ i y, (i, y) ∈ m.vs → hs[i]? = some y := by
            intro i y hy
            have := tuple_split m.vs t.holes 0 x h i (f2 _ hy)
            rw [Nat.zero_add, hhs] at this
            rw [← this]
            exact find_mem (unlike_nodup f1) hy
          let c0 : Cc := ⟨c.mb, fun κ => match find m.ro κ with | some k => c.hv k | none => .slice none 0 0, fun κ => match find m.ro κ with | some k => c.F k | none => []⟩
          have how : ∀ κ, (t.injH hs).ow κ ≠ none → (∃ k o, find m.ro κ = some k ∧ S.ow k = some o ∧ (t.injH hs).ow κ = some o) ∨ (find m.ro κ = none ∧ ∃ e r, (t.injH hs).ow κ = some ⟨e, r, []⟩) := by
            intro κ hκ
            simp only [Tpl.injH] at hκ ⊢
            split at hκ
            · rename_i hh hfo
              rcases w4 κ hh (find_some_mem hfo) with ⟨k, o, k1, k2, k3⟩ | ⟨k1, e, r, k3⟩
              · rw [← w2] at k1
                refine .inl ⟨k, o, find_mem (unlike_nodup f3) k1, k2, ?_⟩
                rw [hvs _ _ k3]; rfl
              · rw [← w3] at k1
                have := (f7 κ k1).1
                refine .inr ⟨find_none (by simpa using this), e, r, ?_⟩
                rw [hvs _ _ k3]; rfl
            · exact absurd rfl hκ
          have hroO : ∀ κ k, (κ, k) ∈ m.ro → (t.injH hs).ow κ = S.ow k ∧ S.ow k ≠ none := by
            intro κ k hk
            have h8 := f8 _ hk
            obtain ⟨hh, hho⟩ := Option.isSome_iff_exists.1 h8
            rcases w4 κ hh (find_some_mem hho) with ⟨k', o, k1, k2, k3⟩ | ⟨k1, e, r, k3⟩
            · rw [← w2] at k1
              have e1 := find_mem (unlike_nodup f3) k1
              have e2 := find_mem (unlike_nodup f3) hk
              rw [e1] at e2
              injection e2 with e2
              subst e2
              refine ⟨?_, by rw [k2]; simp⟩
              simp only [Tpl.injH, hho, hvs _ _ k3, k2]; rfl
            · rw [← w3] at k1
              have := (f7 κ k1).1
              simp only [List.contains_eq_mem, decide_eq_false_iff_not] at this
              exact absurd (List.mem_map.2 ⟨(κ, k), hk, rfl⟩) this
          have hrm : ∀ κ, (t.injH hs).ms κ ≠ none → ∃ row, find t.mems κ = some row ∧ (t.injH hs).ms κ = some row.length := by
            intro κ hκ
            simp only [Tpl.injH] at hκ ⊢
            cases hfm : find t.mems κ with
            | none => rw [hfm] at hκ; exact absurd rfl hκ
            | some row => exact ⟨row, rfl, rfl⟩
          have hrmf : ∀ κ k, (κ, k) ∈ m.rm → find m.rm κ = some k := fun κ k hk => find_mem (unlike_nodup f5) hk
          have hcmb : ∀ κ k, find m.rm κ = some k → c0.mb κ = c.mb k := fun κ k hk => by show c.mb κ = _; rw [show κ = k from f10 _ (find_some_mem hk)]
          have hchv : ∀ κ k, find m.ro κ = some k → c0.hv κ = c.hv k ∧ c0.F κ = c.F k := fun κ k hk => ⟨by show (match find m.ro κ with | some k => c.hv k | none => .slice none 0 0) = _; rw [hk], by show (match find m.ro κ with | some k => c.F k | none => []) = _; rw [hk]⟩
          have hcno : ∀ κ, find m.ro κ = none → c0.hv κ = .slice none 0 0 ∧ c0.F κ = [] := fun κ hk => ⟨by show (match find m.ro κ with | some k => c.hv k | none => .slice none 0 0) = _; rw [hk], by show (match find m.ro κ with | some k => c.F k | none => []) = _; rw [hk]⟩
          have hmem : ∀ κ row, find t.mems κ = some row → ∃ k, find m.rm κ = some k ∧ S.ms k = some row.length := by
            intro κ row hrow
            obtain ⟨_, q2⟩ := mtMems_ok (hs := hs) (mf := m) (S := S) (S0 := S) (c := c) (c0 := c) (w := w) (K := Kok b S c) (K0 := Kok b S c) t.mems hm2
            obtain ⟨k, k1, k2, _⟩ := q2 w1 κ row (find_some_mem hrow)
            exact ⟨k, hrmf κ k k1, k2⟩
          have hK : ∀ g, g < w.heap.size → Kok b S c g → Kok b (t.injH hs) c0 g := by
            rintro g _ ⟨h1, h2⟩
            refine ⟨h1, ?_⟩
            rintro (⟨κ, hκ, rfl⟩ | ⟨κ, hκ, hg⟩)
            · obtain ⟨row, hrow, _⟩ := hrm κ hκ
              obtain ⟨k, hk, hn⟩ := hmem κ row hrow
              exact h2 (.inl ⟨k, by rw [hn]; simp, (hcmb κ k hk).symm⟩)
            · rcases how κ hκ with ⟨k, o, k1, k2, k3⟩ | ⟨k1, _⟩
              · rw [(hchv κ k k1).2] at hg
                exact h2 (.inr ⟨k, by rw [k2]; simp, hg⟩)
              · rw [(hcno κ k1).2] at hg; cases hg
          have hfin : Fin hs m S (t.injH hs) c c0 w (Kok b S c) (Kok b (t.injH hs) c0) := by
            refine ⟨hK, hvs, ?_, ?_, ?_⟩
            · intro κ k hk
              exact ⟨(hroO κ k hk).1, (hchv κ k (find_mem (unlike_nodup f3) hk)).1⟩
            · intro κ hκ
              have h7 := f7 κ hκ
              have hno : find m.ro κ = none := find_none (by simpa using h7.1)
              refine ⟨?_, (hcno κ hno).1⟩
              obtain ⟨hh, hho⟩ := Option.isSome_iff_exists.1 h7.2
              rcases w4 κ hh (find_some_mem hho) with ⟨k', o, k1, k2, k3⟩ | ⟨k1, e, r, k3⟩
              · rw [← w2] at k1
                rw [find_mem (unlike_nodup f3) k1] at hno; cases hno
              · refine ⟨e, r, ?_⟩
                simp only [Tpl.injH, hho, hvs _ _ k3]; rfl
            · intro κ k hk
              refine ⟨fun _ => ?_, hcmb κ k (hrmf κ k hk)⟩
              obtain ⟨row, hrow⟩ := Option.isSome_iff_exists.1 (f9 _ hk)
              simp only [Tpl.injH, hrow]; simp
          obtain ⟨l1, g1⟩ := mtSlots_ok (hs := hs) (mf := m) (S := S) (S0 := t.injH hs) (c := c) (c0 := c0) (w := w) (K := Kok b S c) (K0 := Kok b (t.injH hs) c0) t.slots hm1
          obtain ⟨l2, g2⟩ := mtMems_ok (hs := hs) (mf := m) (S := S) (S0 := t.injH hs) (c := c) (c0 := c0) (w := w) (K := Kok b S c) (K0 := Kok b (t.injH hs) c0) t.mems hm2
          have hinjr : ∀ κ κ' k, find m.ro κ = some k → find m.ro κ' = some k → κ = κ' := by
            intro κ κ' k h1 h2
            exact snd_inj (unlike_nodup f4) (find_some_mem h1) (find_some_mem h2)
          have hinjm : ∀ κ κ' k, find m.rm κ = some k → find m.rm κ' = some k → κ = κ' := by
            intro κ κ' k h1 h2
            exact snd_inj (unlike_nodup f6) (find_some_mem h1) (find_some_mem h2)
          have hmk : ∀ κ n, (t.injH hs).ms κ = some n → ∃ row k, find t.mems κ = some row ∧ n = row.length ∧ find m.rm κ = some k ∧ S.ms k = some n := by
            intro κ n hn
            obtain ⟨row, h1, h2⟩ := hrm κ (by rw [hn]; simp)
            obtain ⟨k, k1, k2⟩ := hmem κ row h1
            rw [hn] at h2
            injection h2 with h2
            exact ⟨row, k, h1, h2, k1, by rw [k2, h2]⟩
          refine ⟨c0, ⟨?_, ?_, ?_, ?_, ?_, ?_, ?_, hi.fix, hi.os, hi.tape, hi.output, hi.size, hi.an⟩, ⟨?_, hsl.n, hsl.d⟩, hfx⟩
          · intro κ n hn
            obtain ⟨row, k, h1, rfl, h2, h3⟩ := hmk κ n hn
            obtain ⟨cs, e, fr, p1, p2, p3, p4⟩ := hi.ms k _ h3
            refine ⟨cs, e, fr, by rw [hcmb κ k h2]; exact p1, p2, p3, fun i v hv => ?_⟩
            have hlt : i < row.length := by rw [← p2]; exact (Array.getElem?_eq_some_iff.1 hv).1
            obtain ⟨k', k1, _, k3⟩ := g2 w1 κ row (find_some_mem h1)
            have : k' = k := by
              have := hrmf κ k' k1
              rw [h2] at this
              injection this with this; exact this.symm
            subst this
            have hrow : row[i]? = some row[i] := List.getElem?_eq_getElem hlt
            have hmc : (t.injH hs).mc κ i = (row[i]).inj hs := by simp only [Tpl.injH, h1, hrow]
            rw [hmc]
            exact k3 hfin i _ hrow v (p4 i v hv)
          · intro κ o ho
            rcases how κ (by rw [ho]; simp) with ⟨k, o', k1, k2, k3⟩ | ⟨k1, e, r, k3⟩
            · rw [ho] at k3
              injection k3 with k3
              subst k3
              rw [(hchv κ k k1).1, (hchv κ k k1).2]
              exact Rp.mono hK _ _ (hi.ow k o k2)
            · rw [ho] at k3
              injection k3 with k3
              subst k3
              rw [(hcno κ k1).1, (hcno κ k1).2]
              simp only [Rp]
              exact .inl ⟨trivial, trivial, trivial⟩
          · intro κ hκ
            rcases how κ hκ with ⟨k, o', k1, k2, k3⟩ | ⟨k1, _⟩
            · rw [(hchv κ k k1).2]; exact hi.nd k (by rw [k2]; simp)
            · rw [(hcno κ k1).2]; simp
          · intro κ κ' hne h1 h2 g hg
            rcases how κ h1 with ⟨k, o1, k1, k2, k3⟩ | ⟨k1, _⟩
            · rw [(hchv κ k k1).2] at hg
              rcases how κ' h2 with ⟨k', o2, q1, q2, q3⟩ | ⟨q1, _⟩
              · rw [(hchv κ' k' q1).2]
                have hne' : k ≠ k' := by rintro rfl; exact hne (hinjr κ κ' k k1 q1)
                exact hi.oo k k' hne' (by rw [k2]; simp) (by rw [q2]; simp) g hg
              · rw [(hcno κ' q1).2]; simp
            · rw [(hcno κ k1).2] at hg; cases hg
          · intro κ κ' hne h1 h2
            obtain ⟨n, hn⟩ := Option.ne_none_iff_exists'.1 h1
            obtain ⟨n', hn'⟩ := Option.ne_none_iff_exists'.1 h2
            obtain ⟨_, k, _, _, a1, a2⟩ := hmk κ n hn
            obtain ⟨_, k', _, _, b1, b2⟩ := hmk κ' n' hn'
            rw [hcmb κ k a1, hcmb κ' k' b1]
            have hne' : k ≠ k' := by rintro rfl; exact hne (hinjm κ κ' k a1 b1)
            exact hi.mm k k' hne' (by rw [a2]; simp) (by rw [b2]; simp)
          · intro κ κ' h1 h2
            obtain ⟨n, hn⟩ := Option.ne_none_iff_exists'.1 h1
            obtain ⟨_, k, _, _, a1, a2⟩ := hmk κ n hn
            rw [hcmb κ k a1]
            rcases how κ' h2 with ⟨k', o2, q1, q2, q3⟩ | ⟨q1, _⟩
            · rw [(hchv κ' k' q1).2]
              exact hi.mo k k' (by rw [a2]; simp) (by rw [q2]; simp)
            · rw [(hcno κ' q1).2]; simp
          · rintro g (⟨κ, hκ, rfl⟩ | ⟨κ, hκ, hg⟩)
            · obtain ⟨n, hn⟩ := Option.ne_none_iff_exists'.1 hκ
              obtain ⟨_, k, _, _, a1, a2⟩ := hmk κ n hn
              rw [hcmb κ k a1]
              exact hi.fr _ (.inl ⟨k, by rw [a2]; simp, rfl⟩)
            · rcases how κ hκ with ⟨k, o, k1, k2, k3⟩ | ⟨k1, _⟩
              · rw [(hchv κ k k1).2] at hg
                exact hi.fr g (.inr ⟨k, by rw [k2]; simp, hg⟩)
              · rw [(hcno κ k1).2] at hg; cases hg
          · intro i
            have := g1 (l2.trans w1) hfin
            cases hfs : find t.slots i with
            | none =>
              have : (t.injH hs).sl i = .no := by simp only [Tpl.injH, hfs]
              rw [this]; trivial
            | some s =>
              have h1 : (t.injH hs).sl i = .s (s.inj hs) := by simp only [Tpl.injH, hfs]
              rw [h1]
              exact this i s (find_some_mem hfs) _ (hsl.ok i)
        · cases hm
      · cases hm
    · cases h
  · cases h
theorem Inv.setLeaf {b : Base} {S : St} {w : World} {c : Cc} (h : Inv b S w c) (k off : Nat) (l : Leaf) (hl : ∀ cs e fr v, S.ms k ≠ none → w.heap[c.mb k]? = some (.cells cs e fr) → cs[off]? = some v → LeafOk S c w (Kok b S c) l v) : Inv b (S.up (.mc k off l)) w c := by
  have ho : (S.up (.mc k off l)).ow = S.ow := rfl
  have hm : (S.up (.mc k off l)).ms = S.ms := rfl
  have hk : Kok b (S.up (.mc k off l)) c = Kok b S c := kok_same ho hm
  refine ⟨?_, ?_, h.nd, h.oo, h.mm, h.mo, fun g hg => h.fr g ((owned_same ho hm g).1 hg), h.fix, h.os, h.tape, h.output, h.size, h.an⟩
  · intro k' n hn
    obtain ⟨cs, e, fr, h1, h2, h3, h4⟩ := h.ms k' n hn
    refine ⟨cs, e, fr, h1, h2, h3, fun i v hv => ?_⟩
    rw [hk]
    refine (leaf_same ho _ _).2 ?_
    show LeafOk S c w (Kok b S c) (if k' = k then (if i = off then l else S.mc k' i) else S.mc k' i) v
    split
    · rename_i hkk
      subst hkk
      split
      · rename_i hio
        subst hio
        have h1' := h1
        exact hl cs e fr v (by rw [show S.ms k' = some n from hn]; simp) h1' hv
      · exact h4 i v hv
    · exact h4 i v hv
  · intro k' o hk'; rw [hk]; exact h.ow k' o hk'
theorem put_none_d {N : Nat} {S : St} {c : Cc} {w : World} {K : Nat → Prop} {a : Act} (h : Slots N S c w K (a.put none undef)) : Slots N S c w K a := h
theorem Slots.setSlot {N : Nat} {S : St} {c : Cc} {w : World} {K : Nat → Prop} {a : Act} (h : Slots N S c w K a) (i : Nat) (x : SV) (hx : SVOk S c w K x (a.tmps.getD i undef)) : Slots N (S.put i x) c w K a := by
  have hsv : ∀ l v, SVOk (S.put i x) c w K l v ↔ SVOk S c w K l v := by
    intro l v
    cases l with
    | s y => exact s1_same rfl rfl y v
    | tu ys =>
      constructor
      · rintro ⟨vs, e, hv⟩; exact ⟨vs, e, hv.mono fun y v => (s1_same rfl rfl y v).1⟩
      · rintro ⟨vs, e, hv⟩; exact ⟨vs, e, hv.mono fun y v => (s1_same rfl rfl y v).2⟩
    | un => exact Iff.rfl
    | no => exact Iff.rfl
  refine ⟨fun j => ?_, h.n, h.d⟩
  rw [hsv]
  show SVOk S c w K (if j = i then x else S.sl j) _
  split
  · rename_i e; subst e; exact hx
  · exact h.ok j
theorem place_ok {b : Base} {N : Nat} {S : St} {a : Act} {w : World} {c : Cc} (hi : Inv b S w c) (hsl : Slots N S c w (Kok b S c) a) (hfx : ∀ p, p ∈ b.fx → a.tmps.getD p.1 undef = p.2) (p : Pl) {k : Nat} {win : Option (Nat × Nat)} (hlf : leafAt S p = .vw k [] win) :
    ∃ v, LeafOk S c w (Kok b S c) (.vw k [] win) v ∧ ∀ (S' : St) (c' : Cc) (l' : Leaf), S'.ms = S.ms → c'.mb = c.mb → Inv b S' w c' → Slots N S' c' w (Kok b S' c') a → (∀ i, S'.sl i = (S.sl i).kp [.all k]) →
      LeafOk S' c' w (Kok b S' c') l' v → Sim b N (S'.setAt l' p) a w := by
  cases p with
  | sl i =>
    simp only [leafAt] at hlf
    split at hlf
    · rename_i l hl
      subst hlf
      have := hsl.ok i
      rw [hl] at this
      refine ⟨_, this, fun S' c' l' _ _ hi' hsl' _ hlk => ?_⟩
      refine ⟨c', Inv.put (S := S') rfl rfl rfl hi', ?_, hfx⟩
      rw [show Kok b (S'.setAt l' (.sl i)) c' = Kok b S' c' from kok_same rfl rfl]
      exact hsl'.setSlot i _ hlk
    · cases hlf
  | ag i j =>
    simp only [leafAt] at hlf
    split at hlf
    · rename_i ls hl
      have := hsl.ok i
      rw [hl] at this
      obtain ⟨vs, e, hall⟩ := this
      rw [List.getD_eq_getElem?_getD] at hlf
      cases hj : ls[j]? with
      | none => rw [hj] at hlf; cases hlf
      | some l =>
        rw [hj] at hlf
        simp only [Option.getD_some] at hlf
        subst hlf
        obtain ⟨v, hvj, hvl⟩ := hall.get hj
        refine ⟨v, hvl, fun S' c' l' _ _ hi' hsl' hsl2 hlk => ?_⟩
        have hS : S'.sl i = .s (.ag (ls.map (Leaf.kp [.all k]))) := by rw [hsl2, hl]; rfl
        simp only [St.setAt, hS]
        refine ⟨c', Inv.put (S := S') rfl rfl rfl hi', ?_, hfx⟩
        rw [show Kok b (S'.put i (.s (.ag ((ls.map (Leaf.kp [.all k])).set j l')))) c' = Kok b S' c' from kok_same rfl rfl]
        refine hsl'.setSlot i _ ?_
        have h2 := hsl'.ok i
        rw [hS] at h2
        obtain ⟨vs', e', hall'⟩ := h2
        have hvs : vs' = vs := by
          have := e'.symm.trans e
          injection this with this
          exact List.toArray_inj this
        subst hvs
        have hset := hall'.set j hlk
        have : vs'.set j v = vs' := by
          apply List.ext_getElem?
          intro m
          rw [List.getElem?_set]
          split
          · rename_i hm
            subst hm
            split
            · exact hvj.symm
            · rename_i hlt
              exact absurd (List.getElem?_eq_some_iff.1 hvj).1 hlt
          · rfl
        rw [this] at hset
        exact ⟨vs', e', hset⟩
    · cases hlf
  | mc k0 c0 =>
    simp only [leafAt] at hlf
    split at hlf
    · rename_i m hm
      split at hlf
      · rename_i hlt
        obtain ⟨cs, e, fr, h1, h2, h3, h4⟩ := hi.ms k0 m hm
        have hc : cs[c0]? = some cs[c0] := Array.getElem?_eq_getElem (by omega)
        have := h4 c0 _ hc
        rw [hlf] at this
        refine ⟨_, this, fun S' c' l' e1 e2 hi' hsl' _ hlk => ?_⟩
        refine ⟨c', hi'.setLeaf k0 c0 _ ?_, ?_, hfx⟩
        · intro cs' e' fr' v' _ hh hv'
          rw [e2, h1] at hh
          injection hh with hh
          injection hh with hh _ _
          subst hh
          rw [hc] at hv'
          injection hv' with hv'
          rw [← hv']; exact hlk
        · rw [show Kok b (S'.setAt l' (.mc k0 c0)) c' = Kok b S' c' from kok_same rfl rfl]
          refine ⟨fun i => ?_, hsl'.n, hsl'.d⟩
          have := hsl'.ok i
          show SVOk (S'.up (.mc k0 c0 _)) c' w _ (S'.sl i) _
          cases hx : S'.sl i with
          | s y => rw [hx] at this; exact (s1_same rfl rfl y _).2 this
          | tu ys =>
            rw [hx] at this
            obtain ⟨vs, e, hv⟩ := this
            exact ⟨vs, e, hv.mono fun y v => (s1_same rfl rfl y v).2⟩
          | un => rw [hx] at this; exact this
          | no => trivial
      · cases hlf
    · cases hlf
theorem narrow1_ok {b : Base} {N : Nat} {S : St} {a : Act} {w : World} (p : Pl) (hs : Sim b N S a w) : Sim b N (narrow1 S p) a w := by
  unfold narrow1
  split
  · rename_i k lo n hlf
    split
    · rename_i o ho
      obtain ⟨c, hi, hsl, hfx⟩ := hs
      obtain ⟨v, hv, hplace⟩ := place_ok hi hsl hfx p hlf
      obtain ⟨o0, e, r, ys, hd, q1, q2, q3, q4⟩ := hv
      obtain rfl : o = o0 := by rw [ho] at q1; injection q1
      simp only [getT, Tr.run, Option.some.injEq] at q2
      injection q2 with ha hb
      injection ha with _ he hr
      obtain ⟨oe, or, oxs⟩ := o
      simp only at he hr hb
      subst he hr
      obtain rfl := eq_of_heq hb
      simp only [hdr, Option.some.injEq] at q3
      subst q3
      obtain ⟨F2, g1, g2, g3⟩ := own_win (hi.ow k _ ho) (hi.nd k (by rw [ho]; simp)) q4
      generalize hS : (S.kp [.all k]).up (.ow k (some ⟨oe, or, (oxs.drop lo).take n⟩)) = S'
      obtain ⟨c', e1, e2, _, e4, e5, _⟩ := hi.setOwn (S' := S') (w' := w) k ⟨oe, or, (oxs.drop lo).take n⟩ [] [.all k] v F2
        (by intro k'; rw [← hS]; show (if k' = k then _ else (S.kp _).ow k') = _; rw [kp_ow]; simp)
        (by rw [← hS]; exact kp_ms S _) (by intro k' i; rw [← hS]; exact kp_mc S [.all k] k' i) (fun k hk => by cases hk) (fun _ _ => .inl (by simp)) (Step.refl _ _)
        (fun g hg => ⟨(hi.fr g (.inr ⟨k, by rw [ho]; simp, g2 g hg⟩)).1, .inl ⟨k, .inl rfl, by rw [ho]; simp, g2 g hg⟩⟩) g3
        (fun K' hK _ => Rp.frame ⟨Nat.le_refl _, fun g hg hlt => ⟨rfl, (hK.2 g hg hlt).2⟩⟩ _ _ g1 fun g _ => rfl)
      have hsl' : Slots N S' c' w (Kok b S' c') a := put_none_d (e5.slots hsl (by intro i; rw [← hS]; exact kp_sl S [.all k] i) none .no undef (fun _ h => by cases h) trivial (fun _ _ => Iff.rfl) (fun _ _ => Iff.rfl))
      have how : S'.ow k = some ⟨oe, or, (oxs.drop lo).take n⟩ := by rw [← hS]; show (if k = k then _ else _) = _; rw [if_pos rfl]
      exact hplace S' c' (.vw k [] none) (by rw [← hS]; exact kp_ms S _) e1 e4 hsl' (by intro i; rw [← hS]; exact kp_sl S [.all k] i) ⟨_, oe, or, _, v, how, rfl, by rw [e2]; rfl, rfl⟩
    · exact hs
  · exact hs
theorem narrow_ok {b : Base} {N : Nat} {a : Act} {w : World} : ∀ (ps : List Pl) {S : St}, Sim b N S a w → Sim b N (narrow S ps) a w
  | [], _, hs => hs
  | p :: ps, _, hs => narrow_ok ps (narrow1_ok p hs)
theorem freeze1_ok {b : Base} {N : Nat} {S : St} {a : Act} {w : World} (p : Pl) (hs : Sim b N S a w) : Sim b N (freeze1 S p) a w := by
  unfold freeze1
  split
  · rename_i k hlf
    split
    · rename_i o ho
      obtain ⟨c, hi, hsl, hfx⟩ := hs
      obtain ⟨v, hv, hplace⟩ := place_ok hi hsl hfx p hlf
      obtain ⟨o0, e, r, ys, hd, q1, q2, q3, q4⟩ := hv
      simp only [hdr, Option.some.injEq] at q3
      obtain rfl : v = hd := q4
      subst q3
      generalize hS : (S.kp [.all k]).up (.ow k none) = S'
      obtain ⟨c', e1, _, e4, e5, hfree⟩ := hi.many (S' := S') (w' := w) (fun _ => none) [k] [] [.all k]
        (by intro k'; rw [← hS]; show (if k' = k then _ else (S.kp _).ow k') = _; rw [kp_ow]; simp)
        (by rw [← hS]; exact kp_ms S _) (by intro k' i _; rw [← hS]; exact kp_mc S [.all k] k' i) (fun k' o _ hk' => .inl (hk'.elim (fun h => by rw [List.mem_singleton.1 h]; simp) fun h => absurd rfl h))
        (Step.refl _ _) (fun _ _ h => by cases h) (fun _ _ h => by cases h) (fun _ _ _ _ _ h => by cases h) (fun _ _ _ _ _ h => by cases h) (fun _ _ _ _ _ _ _ h => by cases h)
      have hsl' : Slots N S' c' w (Kok b S' c') a := put_none_d (e5.slots hsl (by intro i; rw [← hS]; exact kp_sl S [.all k] i) none .no undef (fun _ h => by cases h) trivial (fun _ _ => Iff.rfl) (fun _ _ => Iff.rfl))
      refine hplace S' c' _ (by rw [← hS]; exact kp_ms S _) e1 e4 hsl' (by intro i; rw [← hS]; exact kp_sl S [.all k] i) ?_
      exact Rp.frz (fun g hlt hg => (e5.kk.2 g hg hlt).2) _ _ (hi.ow k o ho) fun g hg => hfree g (.inr ⟨k, by simp, by rw [ho]; simp, hg⟩) (fun _ _ h => by cases h)
    · exact hs
  · exact hs
theorem freeze_ok {b : Base} {N : Nat} {a : Act} {w : World} : ∀ (ps : List Pl) {S : St}, Sim b N S a w → Sim b N (freeze S ps) a w
  | [], _, hs => hs
  | p :: ps, _, hs => freeze_ok ps (freeze1_ok p hs)
theorem Tpl.ok {b : Base} {N : Nat} {S : St} {a : Act} {w : World} (t : Tpl) {x : t.D} (h : t.prj S = some x) (hs : Sim b N S a w) : Sim b N (t.inj x) a w :=
  t.ok0 h (freeze_ok t.fz (narrow_ok t.nw hs))
end Go.V

namespace Go.V
theorem core_congr (E : Env) (ρ ρ' : Operand → SV) (d : Nat) (op : Op) (h : ∀ x, x ∈ op.operands.toList → ρ x = ρ' x) : core E ρ d op = core E ρ' d op := by
  have pairs : ∀ ps : List (Nat × Operand), (∀ x, x ∈ ps.map (·.2) → ρ x = ρ' x) → (ps.map fun p => (p.1, ρ p.2)) = ps.map fun p => (p.1, ρ' p.2) := fun ps hp =>
    List.map_congr_left fun p hm => by rw [hp p.2 (List.mem_map.2 ⟨p, hm, rfl⟩)]
  cases op
  case build t ps => simp only [core, pairs ps.toList fun x hx => h x (by simpa [Op.operands] using hx)]
  case buildSlice t n ps => simp only [core, pairs ps.toList fun x hx => h x (by simpa [Op.operands] using hx)]
  case slice t x lo hi mx =>
    simp only [Op.operands] at h
    have h1 : ρ x = ρ' x := h x (by simp)
    have h2 : lo.map ρ = lo.map ρ' := by cases lo with | none => rfl | some y => simp only [Option.map_some]; rw [h y (by simp)]
    have h3 : hi.map ρ = hi.map ρ' := by cases hi with | none => rfl | some y => simp only [Option.map_some]; rw [h y (by simp)]
    have h4 : mx.map ρ = mx.map ρ' := by cases mx with | none => rfl | some y => simp only [Option.map_some]; rw [h y (by simp)]
    simp only [core, h1, h2, h3, h4]
  case makeFunc f first cs =>
    have hcs : cs.toList.map ρ = cs.toList.map ρ' := List.map_congr_left fun x hx => h x (by
      simp only [Op.operands, Array.toList_append, List.mem_append]; exact .inr hx)
    cases f with
    | func f => simp only [core, hcs]
    | _ => rfl
  case call c =>
    obtain ⟨cal, as, ts⟩ := c
    have has : as.toList.map ρ = as.toList.map ρ' := List.map_congr_left fun x hx => h x (by
      cases cal <;> simp [Op.operands, Call.operands] <;> simp [Array.mem_toList_iff.1 hx])
    cases cal with
    | value f =>
      have hf : ρ f = ρ' f := h f (by simp [Op.operands, Call.operands])
      simp only [core, has, hf]
    | invoke r m => rfl
    | builtin b => cases b <;> simp only [core, has]
  all_goals first
    | rfl
    | (simp only [Op.operands, List.mem_cons, List.not_mem_nil, or_false, forall_eq_or_imp, forall_eq] at h; simp only [core, h]; done)
def Ag (S S' : St) (l : List Lg) : Prop := ∀ x, x ∈ l → match x with | .o k => S.ow k = S'.ow k | .c k off _ => S.mc k off = S'.mc k off | .m k => S.ms k = S'.ms k
theorem at_sub {α : Type} (S : St) (t : Tr α) : ∀ (g : List Lg) {x : α} {l : List Lg}, (t.at S g).run = some (x, l) → ∀ y, y ∈ g → y ∈ l := by
  induction t with
  | ret a => intro g x l h; simp only [Tr.at, Tr.run, Option.some.injEq, Prod.mk.injEq] at h; rw [← h.2]; exact fun _ h => h
  | fail => intro g x l h; simp [Tr.at, Tr.run] at h
  | br c t e ih1 ih2 =>
    intro g x l h
    simp only [Tr.at, Tr.run] at h
    split at h
    · exact ih1 g h
    · exact ih2 g h
  | get γ o f ih =>
    intro g x l h
    simp only [Tr.at, run_get, Option.bind_eq_some_iff] at h
    obtain ⟨b, hb, h⟩ := h
    exact ih b g h
  | alt γ δ s f f' ih1 ih2 =>
    intro g x l h
    cases s with
    | inl b => exact ih1 b g h
    | inr b => exact ih2 b g h
  | rdO k f ih => intro g x l h y hy; exact ih _ _ h y (List.mem_cons_of_mem _ hy)
  | rdC k off f ih => intro g x l h y hy; exact ih _ _ h y (List.mem_cons_of_mem _ hy)
  | rdM k f ih => intro g x l h y hy; exact ih _ _ h y (List.mem_cons_of_mem _ hy)
theorem at_congr {α : Type} (S S' : St) (t : Tr α) : ∀ (g : List Lg) {x : α} {l : List Lg}, (t.at S g).run = some (x, l) → Ag S S' l → (t.at S' g).run = some (x, l) := by
  induction t with
  | ret a => intro g x l h _; exact h
  | fail => intro g x l h; simp [Tr.at, Tr.run] at h
  | br c t e ih1 ih2 =>
    intro g x l h ha
    simp only [Tr.at, Tr.run] at h ⊢
    split at h
    · rename_i hc; rw [if_pos hc]; exact ih1 g h ha
    · rename_i hc; rw [if_neg hc]; exact ih2 g h ha
  | get γ o f ih =>
    intro g x l h ha
    simp only [Tr.at, run_get, Option.bind_eq_some_iff] at h ⊢
    obtain ⟨b, hb, h⟩ := h
    exact ⟨b, hb, ih b g h ha⟩
  | alt γ δ s f f' ih1 ih2 =>
    intro g x l h ha
    cases s with
    | inl b => exact ih1 b g h ha
    | inr b => exact ih2 b g h ha
  | rdO k f ih =>
    intro g x l h ha
    replace h : ((f (S.ow k)).at S (.o k :: g)).run = some (x, l) := h
    have : S.ow k = S'.ow k := ha _ (at_sub S _ _ h (.o k) (by simp))
    show ((f (S'.ow k)).at S' (.o k :: g)).run = _
    rw [← this]
    exact ih _ _ h ha
  | rdC k off f ih =>
    intro g x l h ha
    replace h : ((f (S.mc k off)).at S (.c k off (S.mc k off) :: g)).run = some (x, l) := h
    have : S.mc k off = S'.mc k off := ha _ (at_sub S _ _ h (.c k off (S.mc k off)) (by simp))
    show ((f (S'.mc k off)).at S' (.c k off (S'.mc k off) :: g)).run = _
    rw [← this]
    exact ih _ _ h ha
  | rdM k f ih =>
    intro g x l h ha
    replace h : ((f (S.ms k)).at S (.m k :: g)).run = some (x, l) := h
    have : S.ms k = S'.ms k := ha _ (at_sub S _ _ h (.m k) (by simp))
    show ((f (S'.ms k)).at S' (.m k :: g)).run = _
    rw [← this]
    exact ih _ _ h ha
def Sees (S : St) (l : List Lg) : Prop := ∀ k off x, Lg.c k off x ∈ l → S.mc k off = x
theorem at_sees {α : Type} (S : St) (t : Tr α) : ∀ (g : List Lg) {x : α} {l : List Lg}, Sees S g → (t.at S g).run = some (x, l) → Sees S l := by
  induction t with
  | ret a => intro g x l hg h; simp only [Tr.at, Tr.run, Option.some.injEq, Prod.mk.injEq] at h; rw [← h.2]; exact hg
  | fail => intro g x l _ h; simp [Tr.at, Tr.run] at h
  | br c t e ih1 ih2 =>
    intro g x l hg h
    simp only [Tr.at, Tr.run] at h
    split at h
    · exact ih1 g hg h
    · exact ih2 g hg h
  | get γ o f ih =>
    intro g x l hg h
    simp only [Tr.at, run_get, Option.bind_eq_some_iff] at h
    obtain ⟨b, hb, h⟩ := h
    exact ih b g hg h
  | alt γ δ s f f' ih1 ih2 =>
    intro g x l hg h
    cases s with
    | inl b => exact ih1 b g hg h
    | inr b => exact ih2 b g hg h
  | rdO k f ih => intro g x l hg h; exact ih _ _ (fun k' o' x' hx => by rcases List.mem_cons.1 hx with hx | hx; cases hx; exact hg _ _ _ hx) h
  | rdC k off f ih => intro g x l hg h; exact ih _ _ (fun k' o' x' hx => by
      rcases List.mem_cons.1 hx with hx | hx
      · injection hx with e1 e2 e3; subst e1 e2 e3; rfl
      · exact hg _ _ _ hx) h
  | rdM k f ih => intro g x l hg h; exact ih _ _ (fun k' o' x' hx => by rcases List.mem_cons.1 hx with hx | hx; cases hx; exact hg _ _ _ hx) h
theorem Leaf.kp_kp (c c' : List Kl) (l : Leaf) : (l.kp c).kp c' = (l.kp c').kp c := by
  cases l with
  | vw k st win =>
    by_cases h1 : c.all (fun x => x.okV k st) = true <;> by_cases h2 : c'.all (fun x => x.okV k st) = true <;> simp only [Leaf.kp, h1, h2, if_true] <;> rfl
  | _ => rfl
theorem S1.kp_kp (c c' : List Kl) (x : S1) : (x.kp c).kp c' = (x.kp c').kp c := by
  cases x with
  | one l => simp only [S1.kp, Leaf.kp_kp c c' l]
  | ag ls => simp only [S1.kp, List.map_map]; congr 1; apply List.map_congr_left; intro l _; exact Leaf.kp_kp c c' l
  | pl k off => by_cases h1 : c.all (fun x => x.okM k) = true <;> by_cases h2 : c'.all (fun x => x.okM k) = true <;> simp only [S1.kp, h1, h2, if_true] <;> rfl
  | el k st => by_cases h1 : c.all (fun x => x.okE k st) = true <;> by_cases h2 : c'.all (fun x => x.okE k st) = true <;> simp only [S1.kp, h1, h2, if_true] <;> rfl
  | rp t x off => rfl
  | fv f cs => by_cases h1 : c.all (fun x => cs.all fun p => x.okM p.1) = true <;> by_cases h2 : c'.all (fun x => cs.all fun p => x.okM p.1) = true <;> simp only [S1.kp, h1, h2, if_true] <;> rfl
theorem SV.kp_kp (c c' : List Kl) (x : SV) : (x.kp c).kp c' = (x.kp c').kp c := by
  cases x with
  | s x => simp only [SV.kp, S1.kp_kp c c' x]
  | tu xs => simp only [SV.kp, List.map_map]; congr 1; apply List.map_congr_left; intro l _; exact S1.kp_kp c c' l
  | un => rfl
  | no => rfl
theorem Leaf.kp_safe {c : List Kl} {l : Leaf} (h : l.safe c = true) : l.kp c = l := by
  cases l with
  | vw k st win => simp only [Leaf.safe] at h; simp only [Leaf.kp, h, if_true]
  | _ => rfl
theorem map_id_of {α : Type} {f : α → α} : ∀ {l : List α}, (∀ x, x ∈ l → f x = x) → l.map f = l
  | [], _ => rfl
  | x :: l, h => by rw [List.map_cons, h x (by simp), map_id_of fun y hy => h y (by simp [hy])]
theorem S1.kp_safe {c : List Kl} {x : S1} (h : x.safe c = true) : x.kp c = x := by
  cases x with
  | one l => simp only [S1.safe] at h; simp only [S1.kp, Leaf.kp_safe h]
  | ag ls => simp only [S1.safe, List.all_eq_true] at h; simp only [S1.kp]; rw [map_id_of fun l hl => Leaf.kp_safe (h l hl)]
  | pl k off => simp only [S1.safe] at h; simp only [S1.kp, h, if_true]
  | el k st => simp only [S1.safe] at h; simp only [S1.kp, h, if_true]
  | rp t x off => rfl
  | fv f cs => simp only [S1.safe] at h; simp only [S1.kp, h, if_true]
theorem SV.kp_safe {c : List Kl} {x : SV} (h : x.safe c = true) : x.kp c = x := by
  cases x with
  | s x => simp only [SV.safe] at h; simp only [SV.kp, S1.kp_safe h]
  | tu xs => simp only [SV.safe, List.all_eq_true] at h; simp only [SV.kp]; rw [map_id_of fun l hl => S1.kp_safe (h l hl)]
  | un => rfl
  | no => rfl
theorem Leaf.kp_whole {c : List Kl} {l : Leaf} (h : (l.kp c).whole = true) : l.kp c = l := by
  cases l with
  | vw k st win =>
    simp only [Leaf.kp] at h ⊢
    split
    · rfl
    · rename_i hc; rw [if_neg hc] at h; cases h
  | _ => rfl
theorem S1.kp_whole {c : List Kl} {x : S1} (h : (x.kp c).whole = true) : x.kp c = x := by
  cases x with
  | one l => simp only [S1.kp, S1.whole] at h ⊢; rw [Leaf.kp_whole h]
  | ag ls =>
    simp only [S1.kp, S1.whole, List.all_eq_true] at h ⊢
    rw [map_id_of fun l hl => Leaf.kp_whole (h (l.kp c) (List.mem_map.2 ⟨l, hl, rfl⟩))]
  | pl k off =>
    simp only [S1.kp] at h ⊢
    split
    · rfl
    · rename_i hc; rw [if_neg hc] at h; cases h
  | el k st =>
    simp only [S1.kp] at h ⊢
    split
    · rfl
    · rename_i hc; rw [if_neg hc] at h; cases h
  | rp t x off => rfl
  | fv f cs =>
    simp only [S1.kp] at h ⊢
    split
    · rfl
    · rename_i hc; rw [if_neg hc] at h; cases h
theorem SV.kp_whole {c : List Kl} {x : SV} (h : (x.kp c).whole = true) : x.kp c = x := by
  cases x with
  | s x => simp only [SV.kp, SV.whole] at h ⊢; rw [S1.kp_whole h]
  | tu xs =>
    simp only [SV.kp, SV.whole, List.all_eq_true] at h ⊢
    rw [map_id_of fun l hl => S1.kp_whole (h (l.kp c) (List.mem_map.2 ⟨l, hl, rfl⟩))]
  | un => rfl
  | no => rfl
theorem St.ext' {S S' : St} (h1 : ∀ i, S.sl i = S'.sl i) (h2 : ∀ k, S.ms k = S'.ms k) (h3 : ∀ k i, S.mc k i = S'.mc k i) (h4 : ∀ k, S.ow k = S'.ow k) : S = S' := by
  obtain ⟨a, b, c, d⟩ := S
  obtain ⟨a', b', c', d'⟩ := S'
  simp only at h1 h2 h3 h4
  rw [funext h1, funext h2, funext h4, show c = c' from funext fun k => funext fun i => h3 k i]
theorem St.kp_kp (S : St) (c c' : List Kl) : (S.kp c).kp c' = (S.kp c').kp c :=
  St.ext' (fun i => by simp only [kp_sl, SV.kp_kp c c']) (fun k => by simp only [kp_ms]) (fun k i => by simp only [kp_mc, Leaf.kp_kp c c']) (fun k => by simp only [kp_ow])
theorem up_kp (S : St) (c : List Kl) {u : U} (h : u.safe c = true) : (S.up u).kp c = (S.kp c).up u := by
  have hsl : ∀ i, ((S.up u).kp c).sl i = ((S.kp c).up u).sl i := by
    intro i
    rw [kp_sl]
    have e1 : (S.up u).sl i = S.sl i := by cases u <;> rfl
    have e2 : ((S.kp c).up u).sl i = (S.kp c).sl i := by cases u <;> rfl
    rw [e1, e2, kp_sl]
  cases u with
  | ow k o =>
    refine St.ext' hsl (fun i => ?_) (fun i j => ?_) (fun i => ?_)
    · rw [kp_ms]; show S.ms i = (S.kp c).ms i; rw [kp_ms]
    · rw [kp_mc]; show (S.mc i j).kp c = (S.kp c).mc i j; rw [kp_mc]
    · rw [kp_ow]; show (if i = k then o else S.ow i) = (if i = k then o else (S.kp c).ow i); rw [kp_ow]
  | mc k off l =>
    refine St.ext' hsl (fun i => ?_) (fun i j => ?_) (fun i => ?_)
    · rw [kp_ms]; show S.ms i = (S.kp c).ms i; rw [kp_ms]
    · rw [kp_mc]
      show (if i = k then (if j = off then l else S.mc i j) else S.mc i j).kp c = (if i = k then (if j = off then l else (S.kp c).mc i j) else (S.kp c).mc i j)
      rw [kp_mc]
      split
      · split
        · exact Leaf.kp_safe h
        · rfl
      · rfl
    · rw [kp_ow]; show S.ow i = (S.kp c).ow i; rw [kp_ow]
  | ms k row =>
    refine St.ext' hsl (fun i => ?_) (fun i j => ?_) (fun i => ?_)
    · rw [kp_ms]; show (if i = k then some row.length else S.ms i) = (if i = k then some row.length else (S.kp c).ms i); rw [kp_ms]
    · rw [kp_mc]
      show (if i = k then row.getD j .no else S.mc i j).kp c = (if i = k then row.getD j .no else (S.kp c).mc i j)
      rw [kp_mc]
      split
      · simp only [U.safe, List.all_eq_true] at h
        rw [List.getD_eq_getElem?_getD]
        cases hr : row[j]? with
        | none => rfl
        | some l => exact Leaf.kp_safe (h l (List.mem_of_getElem? hr))
      · rfl
    · rw [kp_ow]; show S.ow i = (S.kp c).ow i; rw [kp_ow]
theorem ups_kp (c : List Kl) : ∀ (us : List U) (S : St), us.all (U.safe c) = true → (S.ups us).kp c = (S.kp c).ups us
  | [], _, _ => rfl
  | u :: us, S, h => by
    simp only [List.all_cons, Bool.and_eq_true] at h
    show ((S.up u).ups us).kp c = ((S.kp c).up u).ups us
    rw [ups_kp c us _ h.2, up_kp S c h.1]
theorem up_up (S : St) {u v : U} (h : u.meets v = false) : (S.up u).up v = (S.up v).up u := by
  cases u <;> cases v <;> simp only [U.meets, Bool.and_eq_false_iff, beq_eq_false_iff_ne] at h <;> (refine St.ext' (fun i => rfl) (fun i => ?_) (fun i j => ?_) (fun i => ?_)) <;> simp only [St.up] <;> (repeat' split) <;> simp_all
theorem up_ups {u : U} : ∀ (vs : List U) (S : St), vs.all (fun v => !u.meets v) = true → (S.up u).ups vs = (S.ups vs).up u
  | [], _, _ => rfl
  | v :: vs, S, h => by
    simp only [List.all_cons, Bool.and_eq_true, Bool.not_eq_true'] at h
    show ((S.up u).up v).ups vs = ((S.up v).ups vs).up u
    rw [up_up S h.1, up_ups vs _ (by simpa using h.2)]
theorem ups_ups : ∀ (us vs : List U) (S : St), us.all (fun u => vs.all fun v => !u.meets v) = true → (S.ups us).ups vs = (S.ups vs).ups us
  | [], _, _, _ => rfl
  | u :: us, vs, S, h => by
    simp only [List.all_cons, Bool.and_eq_true] at h
    show ((S.up u).ups us).ups vs = ((S.ups vs).up u).ups us
    rw [ups_ups us vs _ (by simpa using h.2), up_ups vs S h.1]
theorem putO_kp (S : St) (d : Option Nat) (x : SV) (c : List Kl) (h : x.safe c = true) : (S.putO d x).kp c = (S.kp c).putO d x := by
  cases d with
  | none => rfl
  | some d =>
    refine St.ext' (fun i => ?_) (fun i => ?_) (fun i j => ?_) (fun i => ?_)
    · rw [kp_sl]
      show (if i = d then x else S.sl i).kp c = (if i = d then x else (S.kp c).sl i)
      rw [kp_sl]
      split
      · exact SV.kp_safe h
      · rfl
    · rw [kp_ms]; show S.ms i = (S.kp c).ms i; rw [kp_ms]
    · rw [kp_mc]; show (S.mc i j).kp c = (S.kp c).mc i j; rw [kp_mc]
    · rw [kp_ow]; show S.ow i = (S.kp c).ow i; rw [kp_ow]
theorem putO_up (S : St) (d : Option Nat) (x : SV) (u : U) : (S.putO d x).up u = (S.up u).putO d x := by
  cases d <;> cases u <;> rfl
theorem putO_ups (d : Option Nat) (x : SV) : ∀ (us : List U) (S : St), (S.putO d x).ups us = (S.ups us).putO d x
  | [], _ => rfl
  | u :: us, S => by
    show ((S.putO d x).up u).ups us = ((S.up u).ups us).putO d x
    rw [putO_up, putO_ups d x us]
theorem putO_putO (S : St) (d e : Option Nat) (x y : SV) (h : ∀ i, d = some i → e ≠ some i) : (S.putO d x).putO e y = (S.putO e y).putO d x := by
  cases d with
  | none => rfl
  | some d =>
    cases e with
    | none => rfl
    | some e =>
      have hne : ¬ e = d := fun he => h d rfl (by rw [he])
      refine St.ext' (fun i => ?_) (fun _ => rfl) (fun _ _ => rfl) (fun _ => rfl)
      show (if i = e then y else if i = d then x else S.sl i) = (if i = d then x else if i = e then y else S.sl i)
      by_cases h1 : i = e
      · subst h1; rw [if_pos rfl, if_neg hne, if_pos rfl]
      · rw [if_neg h1, if_neg h1]
theorem app_app (S : St) (d e : Option Nat) (p q : Out) (hd : ∀ i, d = some i → e ≠ some i) (h1 : p.x.safe q.ks = true) (h2 : q.x.safe p.ks = true) (h3 : p.us.all (U.safe q.ks) = true) (h4 : q.us.all (U.safe p.ks) = true)
    (h5 : p.us.all (fun u => q.us.all fun v => !u.meets v) = true) : (S.app d p).app e q = (S.app e q).app d p := by
  simp only [St.app]
  rw [putO_kp _ _ _ _ h1, ups_kp _ _ _ h3, putO_ups, putO_kp _ _ _ _ h2, ups_kp _ _ _ h4, putO_ups, putO_putO _ _ _ _ _ hd, ups_ups _ _ _ h5, St.kp_kp]
end Go.V

namespace Go.V
def Holds (ops : Array Oper) (S : St) (o : Oper) (y : Bool) : Prop :=
  match o.guard with
  | none => y = true
  | some (j, want) => ∃ g, gslot ops j = some g ∧ ((∃ b, S.sl g = .s (.one (.v .bool b)) ∧ y = (b == want)) ∨ (S.sl g = .un ∧ y = false))
def Stp (E : Env) (N : Nat) (ops : Array Oper) (S : St) (r : Rec) : Prop :=
  dstOk E N r.o = true ∧ ((Holds ops S r.o true ∧ (runOp E N r.o S).run = some (r.out, r.lg) ∧ r.ins = r.o.op.operands.toList.map (opnd S)) ∨ (Holds ops S r.o false ∧ r.out = noOut ∧ r.lg = [] ∧ r.ins = []))
theorem put_same {S : St} {g : Nat} {x : SV} (h : S.sl g = x) : S.put g x = S := by
  refine St.ext' (fun i => ?_) (fun _ => rfl) (fun _ _ => rfl) (fun _ => rfl)
  show (if i = g then x else S.sl i) = S.sl i
  split
  · rename_i hi; rw [hi, h]
  · rfl
section
variable {E : Env} {N : Nat} {ops : Array Oper}
theorem stepT_stp {o : Oper} {S S' : St} {r : Rec} (h : (stepT E N ops o S).run = some (S', r)) : r.o = o ∧ Stp E N ops S r ∧ S' = S.app o.dst r.out := by
  have yes : dstOk E N o = true → Holds ops S o true → (yesT E N o S).run = some (S', r) → r.o = o ∧ Stp E N ops S r ∧ S' = S.app o.dst r.out := by
    intro hd hh h
    simp only [yesT, run_bind, Option.bind_eq_some_iff, Tr.run, Option.some.injEq, Prod.mk.injEq] at h
    obtain ⟨x, hx, h1, h2⟩ := h
    subst h1 h2
    exact ⟨rfl, ⟨hd, .inl ⟨hh, hx, rfl⟩⟩, rfl⟩
  have nay : dstOk E N o = true → Holds ops S o false → (nayT o S).run = some (S', r) → r.o = o ∧ Stp E N ops S r ∧ S' = S.app o.dst r.out := by
    intro hd hh h
    simp only [nayT, Tr.run, Option.some.injEq, Prod.mk.injEq] at h
    obtain ⟨h1, h2⟩ := h
    subst h1 h2
    exact ⟨rfl, ⟨hd, .inr ⟨hh, rfl, rfl, rfl⟩⟩, rfl⟩
  unfold stepT at h
  split at h
  · rename_i hd
    split at h
    · rename_i hg
      exact yes hd (by simp [Holds, hg]) h
    · rename_i j want hg
      split at h
      · rename_i g hgs
        split at h
        · rename_i bb hs
          have hold : ∀ y, y = (bb == want) → Holds ops S o y := fun y hy => by simp only [Holds, hg]; exact ⟨g, hgs, .inl ⟨bb, hs, hy⟩⟩
          simp only [Tr.run] at h
          cases hb : (bb : Bool) with
          | true =>
            rw [hb] at h hs
            simp only [if_true] at h
            rw [put_same hs] at h
            cases want with
            | true => exact yes hd (hold _ (by rw [hb]; rfl)) h
            | false => exact nay hd (hold _ (by rw [hb]; rfl)) h
          | false =>
            rw [hb] at h hs
            simp only [Bool.false_eq_true, if_false] at h
            rw [put_same hs] at h
            cases want with
            | true => exact nay hd (hold _ (by rw [hb]; rfl)) h
            | false => exact yes hd (hold _ (by rw [hb]; rfl)) h
        · rename_i hs
          exact nay hd (by unfold Holds; rw [hg]; exact ⟨g, hgs, .inr ⟨hs, rfl⟩⟩) h
        · simp [Tr.run] at h
      · simp [Tr.run] at h
  · simp [Tr.run] at h
theorem app_sl (S : St) (d : Option Nat) (p : Out) {t : Nat} (h : d ≠ some t) : (S.app d p).sl t = (S.sl t).kp p.ks := by
  have e : ((S.kp p.ks).ups p.us).sl t = (S.sl t).kp p.ks := by rw [ups_sl, kp_sl]
  cases d with
  | none => exact e
  | some d =>
    show (if t = d then p.x else ((S.kp p.ks).ups p.us).sl t) = _
    rw [if_neg (fun ht => h (by rw [ht])), e]
theorem ups_ow_at {k : Nat} : ∀ (us : List U) (S : St), us.all (fun u => !u.hits (.o k)) = true → (S.ups us).ow k = S.ow k
  | [], _, _ => rfl
  | u :: us, S, h => by
    simp only [List.all_cons, Bool.and_eq_true, Bool.not_eq_true'] at h
    show ((S.up u).ups us).ow k = _
    rw [ups_ow_at us _ (by simpa using h.2)]
    cases u with
    | ow k' o =>
      have : ¬ k = k' := fun hk => by rw [hk] at h; simp [U.hits] at h
      show (if k = k' then o else S.ow k) = _; rw [if_neg this]
    | mc _ _ _ => rfl
    | ms _ _ => rfl
theorem ups_ms_at {k : Nat} : ∀ (us : List U) (S : St), us.all (fun u => !u.hits (.m k)) = true → (S.ups us).ms k = S.ms k
  | [], _, _ => rfl
  | u :: us, S, h => by
    simp only [List.all_cons, Bool.and_eq_true, Bool.not_eq_true'] at h
    show ((S.up u).ups us).ms k = _
    rw [ups_ms_at us _ (by simpa using h.2)]
    cases u with
    | ms k' row =>
      have : ¬ k = k' := fun hk => by rw [hk] at h; simp [U.hits] at h
      show (if k = k' then _ else S.ms k) = _; rw [if_neg this]
    | mc _ _ _ => rfl
    | ow _ _ => rfl
theorem ups_mc_at {k off : Nat} {l : Leaf} : ∀ (us : List U) (S : St), us.all (fun u => !u.hits (.c k off l)) = true → (S.ups us).mc k off = S.mc k off
  | [], _, _ => rfl
  | u :: us, S, h => by
    simp only [List.all_cons, Bool.and_eq_true, Bool.not_eq_true'] at h
    show ((S.up u).ups us).mc k off = _
    rw [ups_mc_at us _ (by simpa using h.2)]
    cases u with
    | mc k' off' l' =>
      show (if k = k' then (if off = off' then l' else S.mc k off) else S.mc k off) = _
      have := h.1
      simp only [U.hits, Bool.and_eq_false_iff, beq_eq_false_iff_ne] at this
      by_cases h1 : k = k'
      · rw [if_pos h1, if_neg (fun h2 => by rcases this with h3 | h3 <;> simp_all)]
      · rw [if_neg h1]
    | ms k' row =>
      have : ¬ k = k' := fun hk => by rw [hk] at h; simp [U.hits] at h
      show (if k = k' then _ else S.mc k off) = _; rw [if_neg this]
    | ow _ _ => rfl
theorem app_ow (S : St) (d : Option Nat) (p : Out) : (S.app d p).ow = ((S.kp p.ks).ups p.us).ow := by cases d <;> rfl
theorem app_ms (S : St) (d : Option Nat) (p : Out) : (S.app d p).ms = ((S.kp p.ks).ups p.us).ms := by cases d <;> rfl
theorem app_mc (S : St) (d : Option Nat) (p : Out) : (S.app d p).mc = ((S.kp p.ks).ups p.us).mc := by cases d <;> rfl
theorem bool_kp {x : SV} {c : List Kl} {b : Bool} (h : x.kp c = .s (.one (.v .bool b))) : x = .s (.one (.v .bool b)) := by
  cases x with
  | s x =>
    cases x with
    | one l =>
      cases l with
      | v t y => exact h
      | vw k st win =>
        simp only [SV.kp, S1.kp, Leaf.kp, SV.s.injEq, S1.one.injEq] at h
        split at h <;> cases h
      | qn e => exact h
      | nil => exact h
      | no => exact h
    | ag ls => simp [SV.kp, S1.kp] at h
    | pl k off =>
      simp only [SV.kp, S1.kp, SV.s.injEq] at h
      split at h <;> cases h
    | el k st =>
      simp only [SV.kp, S1.kp, SV.s.injEq] at h
      split at h <;> cases h
    | rp t y off => exact h
    | fv f cs =>
      simp only [SV.kp, S1.kp, SV.s.injEq] at h
      split at h <;> cases h
  | tu xs => simp [SV.kp] at h
  | un => exact h
  | no => exact h
theorem un_kp {x : SV} {c : List Kl} (h : x.kp c = .un) : x = .un := by
  cases x <;> simp_all [SV.kp]
theorem slot_spec {a b : Oper} (h : slotApart ops a b = true) : (∀ d, a.dst = some d → d ∉ slotsOf ops b) ∧ (∀ d, a.dst = some d → b.dst ≠ some d) ∧ (∀ d, b.dst = some d → d ∉ slotsOf ops a) := by
  simp only [slotApart, Bool.and_eq_true] at h
  refine ⟨fun d hd => ?_, fun d hd => ?_, fun d hd => ?_⟩
  · rw [hd] at h; simp only [Bool.and_eq_true, Bool.not_eq_true'] at h; simpa using h.1.1
  · rw [hd] at h; simp only [Bool.and_eq_true, Bool.not_eq_true'] at h
    intro he; rw [he] at h; simp at h
  · rw [hd] at h; simp only [Bool.not_eq_true'] at h; simpa using h.2
theorem tmp_slot {o : Oper} {t : Nat} (h : Operand.tmp t ∈ o.op.operands.toList) : t ∈ slotsOf ops o :=
  List.mem_append_left _ (List.mem_filterMap.2 ⟨.tmp t, h, rfl⟩)
theorem guard_slot {o : Oper} {j : Nat} {want : Bool} {g : Nat} (h : o.guard = some (j, want)) (hg : gslot ops j = some g) : g ∈ slotsOf ops o :=
  List.mem_append_right _ (by rw [h]; simp [hg])
structure Past (a b : Rec) : Prop where
  whole : b.out.ks = [] ∨ ((∀ x, x ∈ a.ins → x.whole = true) ∧ ∀ x, x ∈ a.lg → x.whole = true)
  ins : ∀ x, x ∈ a.ins → x.safe b.out.ks = true
  x : a.out.x.safe b.out.ks = true
  lg : ∀ x, x ∈ a.lg → x.safe b.out.ks = true
  us : a.out.us.all (U.safe b.out.ks) = true
  hits : ∀ x, x ∈ a.lg → b.out.us.all (fun u => !u.hits x) = true
theorem past_spec {a b : Rec} (h : a.past b = true) : Past a b := by
  simp only [Rec.past, Bool.and_eq_true, Bool.or_eq_true, List.isEmpty_iff, List.all_eq_true (p := SV.whole), List.all_eq_true (p := Lg.whole), List.all_eq_true (p := SV.safe b.out.ks), List.all_eq_true (p := Lg.safe b.out.ks)] at h
  obtain ⟨⟨⟨⟨⟨h1, h2⟩, h3⟩, h4⟩, h5⟩, h6⟩ := h
  rw [List.all_eq_true] at h6
  exact ⟨h1, h2, h3, h4, h5, h6⟩
theorem Stp.move {S S' : St} {r : Rec} (h : Stp E N ops S r) (hop : ∀ t, t ∈ slotsOf ops r.o → (∀ x, x ∈ r.ins → x = S.sl t → S'.sl t = S.sl t)) (hg : ∀ t, t ∈ slotsOf ops r.o → ((∃ b, S.sl t = .s (.one (.v .bool b))) ∨ S.sl t = .un) → S'.sl t = S.sl t)
    (hlg : Sees S r.lg → Ag S S' r.lg) : Stp E N ops S' r := by
  have hold : ∀ y, Holds ops S r.o y → Holds ops S' r.o y := by
    intro y hy
    unfold Holds at hy ⊢
    split
    · rename_i hgd; rw [hgd] at hy; exact hy
    · rename_i j want hgd
      rw [hgd] at hy
      obtain ⟨g, h1, ⟨bb, h2, h3⟩ | ⟨h2, h3⟩⟩ := hy
      · exact ⟨g, h1, .inl ⟨bb, by rw [hg g (guard_slot hgd h1) (.inl ⟨bb, h2⟩), h2], h3⟩⟩
      · exact ⟨g, h1, .inr ⟨by rw [hg g (guard_slot hgd h1) (.inr h2), h2], h3⟩⟩
  obtain ⟨hd, h | ⟨h1, h2, h3, h4⟩⟩ := h
  · obtain ⟨h1, h2, h3⟩ := h
    have hopn : ∀ x, x ∈ r.o.op.operands.toList → opnd S' x = opnd S x := by
      intro x hx
      cases x with
      | tmp t => exact hop t (tmp_slot hx) (S.sl t) (by rw [h3]; exact List.mem_map.2 ⟨.tmp t, hx, rfl⟩) rfl
      | _ => rfl
    refine ⟨hd, .inl ⟨hold _ h1, ?_, ?_⟩⟩
    · unfold runOp at h2 ⊢
      rw [core_congr E (opnd S') (opnd S) _ _ hopn]
      exact at_congr S S' _ [] h2 (hlg (at_sees S _ [] (fun k off x hx => by cases hx) h2))
    · rw [h3]; exact List.map_congr_left fun x hx => (hopn x hx).symm
  · exact ⟨hd, .inr ⟨hold _ h1, h2, h3, h4⟩⟩
theorem Stp.swap {S : St} {p q : Rec} (hp : Stp E N ops S p) (hq : Stp E N ops (S.app p.o.dst p.out) q) (hs : slotApart ops p.o q.o = true) (ha : p.apart q = true) :
    Stp E N ops S q ∧ Stp E N ops (S.app q.o.dst q.out) p ∧ (S.app p.o.dst p.out).app q.o.dst q.out = (S.app q.o.dst q.out).app p.o.dst p.out := by
  obtain ⟨s1, s2, s3⟩ := slot_spec hs
  simp only [Rec.apart, Bool.and_eq_true] at ha
  obtain ⟨⟨ha, hb⟩, hm⟩ := ha
  have pa := past_spec ha
  have pb := past_spec hb
  refine ⟨?_, ?_, app_app S _ _ _ _ s2 pa.x pb.x pa.us pb.us hm⟩
  · refine hq.move ?_ ?_ ?_
    · intro t ht x hx hxt
      have e := app_sl S p.o.dst p.out (fun h => s1 t h ht : p.o.dst ≠ some t)
      rw [e] at hxt ⊢
      rcases pb.whole with h0 | ⟨h0, _⟩
      · rw [h0, SV.kp_nil]
      · have := h0 x hx
        rw [hxt] at this
        exact (SV.kp_whole this).symm
    · intro t ht hb
      have e := app_sl S p.o.dst p.out (fun h => s1 t h ht : p.o.dst ≠ some t)
      rw [e] at hb ⊢
      rcases hb with ⟨bb, hb⟩ | hb
      · rw [bool_kp hb]; rfl
      · rw [un_kp hb]; rfl
    · intro hsee l hl
      have hh := pb.hits l hl
      cases l with
      | o k => show (S.app p.o.dst p.out).ow k = S.ow k; rw [app_ow, ups_ow_at _ _ hh, kp_ow]
      | m k => show (S.app p.o.dst p.out).ms k = S.ms k; rw [app_ms, ups_ms_at _ _ hh, kp_ms]
      | c k off l =>
        show (S.app p.o.dst p.out).mc k off = S.mc k off
        have h1 := hsee k off l hl
        rw [app_mc, ups_mc_at _ _ hh, kp_mc] at h1 ⊢
        rcases pb.whole with h0 | ⟨_, h0⟩
        · rw [h0, Leaf.kp_nil]
        · have := h0 _ hl
          simp only [Lg.whole] at this
          rw [← h1] at this
          exact Leaf.kp_whole this
  · refine hp.move ?_ ?_ ?_
    · intro t ht x hx hxt
      have e := app_sl S q.o.dst q.out (fun h => s3 t h ht : q.o.dst ≠ some t)
      rw [e]
      have := pa.ins x hx
      rw [hxt] at this
      exact SV.kp_safe this
    · intro t ht hb
      have e := app_sl S q.o.dst q.out (fun h => s3 t h ht : q.o.dst ≠ some t)
      rcases hb with ⟨bb, hb⟩ | hb
      · rw [e, hb]; rfl
      · rw [e, hb]; rfl
    · intro hsee l hl
      have hh := pa.hits l hl
      cases l with
      | o k => show S.ow k = (S.app q.o.dst q.out).ow k; rw [app_ow, ups_ow_at _ _ hh, kp_ow]
      | m k => show S.ms k = (S.app q.o.dst q.out).ms k; rw [app_ms, ups_ms_at _ _ hh, kp_ms]
      | c k off l =>
        show S.mc k off = (S.app q.o.dst q.out).mc k off
        have h1 := hsee k off l hl
        have h2 := pa.lg _ hl
        simp only [Lg.safe] at h2
        rw [app_mc, ups_mc_at _ _ hh, kp_mc, h1, Leaf.kp_safe h2]
inductive Runs (E : Env) (N : Nat) (ops : Array Oper) : List (Nat × Rec) → St → St → Prop
  | nil {S} : Runs E N ops [] S S
  | cons {i r l S S'} : Stp E N ops S r → Runs E N ops l (S.app r.o.dst r.out) S' → Runs E N ops ((i, r) :: l) S S'
theorem Runs.front {q : Nat × Rec} {R2 : List (Nat × Rec)} : ∀ (R1 : List (Nat × Rec)) {S S' : St}, (∀ p, p ∈ R1 → slotApart ops p.2.o q.2.o = true ∧ p.2.apart q.2 = true) → Runs E N ops (R1 ++ q :: R2) S S' → Runs E N ops (q :: (R1 ++ R2)) S S'
  | [], _, _, _, h => h
  | (i, p) :: R1, S, S', ha, h => by
    obtain ⟨qi, q⟩ := q
    cases h with
    | cons h1 h2 =>
      have := Runs.front R1 (fun p hp => ha p (by simp [hp])) h2
      cases this with
      | cons h3 h4 =>
        obtain ⟨s1, s2⟩ := ha (i, p) (by simp)
        obtain ⟨k1, k2, k3⟩ := h1.swap h3 s1 s2
        rw [k3] at h4
        exact .cons k1 (.cons k2 h4)
theorem regT_runs : ∀ (os : List Oper) (S S' : St) (n : Nat), (regT E N ops os S).run = some S' → ∃ rs : List Rec, rs.map (·.o) = os ∧ Runs E N ops (numbered rs n) S S'
  | [], S, S', n, h => by
    rw [regT] at h
    simp only [Tr.run, Option.some.injEq] at h
    subst h
    exact ⟨[], rfl, .nil⟩
  | o :: os, S, S', n, h => by
    rw [regT] at h
    simp only [run_bind, Option.bind_eq_some_iff] at h
    obtain ⟨⟨S1, r⟩, h1, h2⟩ := h
    obtain ⟨e1, e2, e3⟩ := stepT_stp h1
    subst e3
    obtain ⟨rs, k1, k2⟩ := regT_runs os _ S' (n + 1) h2
    exact ⟨r :: rs, by rw [List.map_cons, k1, e1], .cons e2 (by rw [e1]; exact k2)⟩
theorem regR_runs : ∀ (os : List Oper) (S S' : St) (acc rs : List Rec) (n : Nat), (regR E N ops os S acc).run = some (S', rs) → ∃ rs' : List Rec, rs = acc.reverse ++ rs' ∧ rs'.map (·.o) = os ∧ Runs E N ops (numbered rs' n) S S'
  | [], S, S', acc, rs, n, h => by
    rw [regR] at h
    simp only [Tr.run, Option.some.injEq, Prod.mk.injEq] at h
    obtain ⟨h1, h2⟩ := h
    subst h1 h2
    exact ⟨[], by simp, rfl, .nil⟩
  | o :: os, S, S', acc, rs, n, h => by
    rw [regR] at h
    simp only [run_bind, Option.bind_eq_some_iff] at h
    obtain ⟨⟨S1, r⟩, h1, h2⟩ := h
    obtain ⟨e1, e2, e3⟩ := stepT_stp h1
    subst e3
    obtain ⟨rs', k0, k1, k2⟩ := regR_runs os _ S' (r :: acc) rs (n + 1) h2
    exact ⟨r :: rs', by rw [k0]; simp, by rw [List.map_cons, k1, e1], .cons e2 (by rw [e1]; exact k2)⟩
end
end Go.V

namespace Go.V
section
variable {P : Program} {E : Env} {b : Base} {N : Nat} {ops : Array Oper}
theorem Sim.skip {S : St} {a : Act} {w : World} (h : Sim b N S a w) (d : Option Nat) (hd : ∀ k, d = some k → k < N) (hdx : ∀ k, d = some k → ∀ p, p ∈ b.fx → p.1 ≠ k) : Sim b N (S.app d noOut) (a.put d undef) w := by
  obtain ⟨c, hi, hs, hfx⟩ := h
  exact (Did.same (x := .un) (v := undef) hi rfl).sim hs d hd hfx hdx
theorem Stp.runs (hE : EnvOk P E) (hF : ∀ p, p ∈ b.fx → E.fx.contains p.1 = true) (hN : N < b.n1) {S : St} {r : Rec} (h : Stp E N ops S r) {a : Act} {w : World} (hs : Sim b N S a w) {K : Act → World → Prop} {Q : Exit → Act → World → Prop} (hK : ∀ a' w', Sim b N (S.app r.o.dst r.out) a' w' → K a' w') :
    if Region.wanted r.o (yielded ops a.tmps) then r.o.wp P a w K Q else K (a.put r.o.dst undef) w := by
  obtain ⟨hd, h⟩ := h
  have hdst : ∀ k, r.o.dst = some k → k < N := by
    intro k hk
    unfold dstOk at hd
    rw [hk] at hd
    simp only [Bool.and_eq_true, decide_eq_true_eq] at hd
    exact hd.1
  have hdx : ∀ k, r.o.dst = some k → ∀ p, p ∈ b.fx → p.1 ≠ k := by
    intro k hk p hp he
    unfold dstOk at hd
    rw [hk] at hd
    simp only [Bool.and_eq_true, Bool.not_eq_true'] at hd
    have := hF p hp
    rw [he, hd.2] at this
    cases this
  have hw : ∀ y, Holds ops S r.o y → Region.wanted r.o (yielded ops a.tmps) = y := by
    intro y hy
    unfold Holds at hy
    unfold Region.wanted
    split at hy
    · rename_i hg; rw [hg]; exact hy.symm
    · rename_i j want hg
      obtain ⟨g, h1, h2⟩ := hy
      rw [hg]
      simp only
      obtain ⟨c, hi, hsl, _⟩ := hs
      have h4 := hsl.ok g
      rcases h2 with ⟨bb, h2, h3⟩ | ⟨h2, h3⟩
      rotate_left
      · rw [h2] at h4
        have h5 : a.tmps.getD g undef = undef := h4
        have h7 : yielded ops a.tmps j = none := by
          unfold yielded
          unfold gslot at h1
          rw [h1]
          rw [Array.getD_eq_getD_getElem?] at h5
          cases h8 : a.tmps[g]? with
          | none => simp [h8]
          | some v => rw [h8] at h5; simp only [Option.getD_some] at h5; subst h5; simp [h8, undef]
        rw [h7, h3]
        rfl
      rw [h2] at h4
      have h5 : a.tmps.getD g undef = .bool bb := bool_leaf (leaf_sv h4)
      have h6 : a.tmps[g]? = some (.bool bb) := by
        rw [Array.getD_eq_getD_getElem?] at h5
        cases h7 : a.tmps[g]? with
        | none => rw [h7] at h5; cases h5
        | some v => rw [h7] at h5; simp only [Option.getD_some] at h5; rw [h5]
      have h7 : yielded ops a.tmps j = some bb := by
        unfold yielded
        unfold gslot at h1
        rw [h1]
        simp [h6]
      rw [h7, h3]
      rfl
  rcases h with ⟨h1, h2, _⟩ | ⟨h1, h2, _⟩
  · rw [hw true h1, if_pos rfl]
    obtain ⟨c, hi, hsl, hfx⟩ := hs
    have hev := at_ev S _ [] h2
    refine core_ok hE.ti hi hsl r.o (d := r.o.dst.getD N) (by
      cases hk : r.o.dst with
      | none => exact hN
      | some k => exact Nat.lt_trans (hdst k hk) hN) (fun fo f cs args ts out ho hfo hsz hc => callT_ok hE hi hsl ho hfo hsz hc) hev K Q fun v w' hdid => ?_
    exact hK _ _ (hdid.sim hsl r.o.dst hdst hfx hdx)
  · rw [hw false h1]
    simp only [Bool.false_eq_true, if_false]
    refine hK _ _ ?_
    rw [h2]
    exact hs.skip _ hdst hdx
theorem Runs.list (hE : EnvOk P E) (hF : ∀ p, p ∈ b.fx → E.fx.contains p.1 = true) (hN : N < b.n1) : ∀ (rs : List Rec) (n : Nat) {S S' : St} {a : Act} {w : World} {Q : Exit → Act → World → Prop}, Runs E N ops (numbered rs n) S S' → Sim b N S a w → (∀ a' w', Sim b N S' a' w' → Q .normal a' w') → wpList P ops Q (rs.map (·.o)) a w
  | [], n, S, S', a, w, Q, h, hs, hQ => by
    cases h
    exact hQ _ _ hs
  | r :: rs, n, S, S', a, w, Q, h, hs, hQ => by
    cases h with
    | cons h1 h2 =>
      rw [List.map_cons]
      refine wpList_step fun K hK => ?_
      exact h1.runs hE hF hN hs fun a' w' hs' => hK _ _ (Runs.list hE hF hN rs (n + 1) h2 hs' hQ)
theorem ahead_spec : ∀ (os : List Oper) (acc : List Nat), (∀ j, j < acc.length → (ahead os acc).getD j 0 = acc.getD j 0) ∧
    ∀ j o, os[j]? = some o → ∀ i, ((ahead os acc).getD (acc.length + j) 0).testBit i = true → ∃ e, e ∈ o.after.toList ∧ Region.binds .any e = true ∧ (e.on = i ∨ ((ahead os acc).getD e.on 0).testBit i = true)
  | [], acc => ⟨fun _ _ => rfl, fun j o h => by simp at h⟩
  | o :: os, acc => by
    obtain ⟨h1, h2⟩ := ahead_spec os (acc ++ [aheadOf acc o])
    have e : ahead (o :: os) acc = ahead os (acc ++ [aheadOf acc o]) := rfl
    have hpre : ∀ j, j < acc.length → (ahead os (acc ++ [aheadOf acc o])).getD j 0 = acc.getD j 0 := by
      intro j hj
      rw [h1 j (by simp; omega), List.getD_eq_getElem?_getD, List.getElem?_append_left hj, List.getD_eq_getElem?_getD]
    rw [e]
    refine ⟨hpre, fun j o' ho i hi => ?_⟩
    cases j with
    | zero =>
      simp only [List.getElem?_cons_zero, Option.some.injEq] at ho
      subst ho
      have hv : (ahead os (acc ++ [aheadOf acc o])).getD (acc.length + 0) 0 = aheadOf acc o := by
        rw [h1 _ (by simp), List.getD_eq_getElem?_getD]; simp
      rw [hv] at hi
      have key : ∀ (es : List Edge) (m : Nat), (es.foldl (fun m e => if Region.binds .any e then m ||| ((1 <<< e.on) ||| acc.getD e.on 0) else m) m).testBit i = true →
          m.testBit i = true ∨ ∃ e, e ∈ es ∧ Region.binds .any e = true ∧ (e.on = i ∨ (acc.getD e.on 0).testBit i = true) := by
        intro es
        induction es with
        | nil => intro m h; exact .inl h
        | cons e es ih =>
          intro m h
          rw [List.foldl_cons] at h
          rcases ih _ h with h | ⟨e', k1, k2, k3⟩
          · split at h
            · rename_i hb
              rw [Nat.testBit_or, Nat.testBit_or, Nat.one_shiftLeft, Nat.testBit_two_pow] at h
              simp only [Bool.or_eq_true, decide_eq_true_eq] at h
              rcases h with h | h | h
              · exact .inl h
              · exact .inr ⟨e, by simp, hb, .inl h⟩
              · exact .inr ⟨e, by simp, hb, .inr h⟩
            · exact .inl h
          · exact .inr ⟨e', by simp [k1], k2, k3⟩
      rcases key _ 0 hi with h | ⟨e', k1, k2, k3⟩
      · simp at h
      · refine ⟨e', k1, k2, k3.imp id fun h => ?_⟩
        by_cases he : e'.on < acc.length
        · rw [hpre _ he]; exact h
        · rw [List.getD_eq_getElem?_getD, List.getElem?_eq_none (by omega)] at h; simp at h
    | succ j =>
      have := h2 j o' (by simpa using ho) i (by rw [List.length_append, List.length_singleton]; rwa [show acc.length + 1 + j = acc.length + (j + 1) by omega])
      exact this
theorem backward_spec : ∀ (os : List Oper) (n : Nat), backward os n = true → ∀ j o, os[j]? = some o → ∀ e, e ∈ o.after.toList → Region.binds .any e = true → e.on < n + j
  | [], _, _, j, o, h => by simp at h
  | o :: os, n, hb, j, o', ho => by
    simp only [backward, Bool.and_eq_true, List.all_eq_true] at hb
    cases j with
    | zero =>
      simp only [List.getElem?_cons_zero, Option.some.injEq] at ho
      subst ho
      intro e he hbd
      have := hb.1 e he
      rw [hbd] at this
      simpa using this
    | succ j =>
      intro e he hbd
      have := backward_spec os (n + 1) hb.2 j o' (by simpa using ho) e he hbd
      omega
theorem pairs_mid {bs : List Nat} {q : Nat × Rec} {R2 : List (Nat × Rec)} : ∀ (R1 : List (Nat × Rec)), pairsOk ops bs (R1 ++ q :: R2) = true →
    pairsOk ops bs (R1 ++ R2) = true ∧ ∀ p, p ∈ R1 → (bs.getD q.1 0).testBit p.1 = true ∨ (slotApart ops p.2.o q.2.o = true ∧ p.2.apart q.2 = true)
  | [], h => by
    obtain ⟨i, q⟩ := q
    simp only [List.nil_append, pairsOk, Bool.and_eq_true] at h
    exact ⟨h.2, fun p hp => by cases hp⟩
  | (i, p) :: R1, h => by
    simp only [List.cons_append, pairsOk, Bool.and_eq_true, List.all_eq_true] at h
    obtain ⟨h1, h2⟩ := h
    obtain ⟨k1, k2⟩ := pairs_mid R1 h2
    refine ⟨?_, fun p' hp => ?_⟩
    · simp only [List.cons_append, pairsOk, Bool.and_eq_true, List.all_eq_true]
      refine ⟨fun x hx => h1 x ?_, k1⟩
      rcases List.mem_append.1 hx with hx | hx
      · exact List.mem_append.2 (.inl hx)
      · exact List.mem_append.2 (.inr (List.mem_cons_of_mem _ hx))
    · rcases List.mem_cons.1 hp with rfl | hp
      · have := h1 q (List.mem_append.2 (.inr (by simp)))
        simp only [Bool.or_eq_true, Bool.and_eq_true] at this
        exact this
      · exact k2 p' hp
structure Left (ops : Array Oper) (bs : List Nat) (R : List (Nat × Rec)) (listed : Array Bool) : Prop where
  size : listed.size = ops.size
  lt : ∀ p, p ∈ R → p.1 < ops.size
  not : ∀ i, i < ops.size → (listed[i]? = some false ↔ i ∈ R.map (·.1))
  op : ∀ p, p ∈ R → ops[p.1]? = some p.2.o
  asc : (R.map (·.1)).Pairwise (· < ·)
  closed : ∀ j, listed[j]? = some true → ∀ i, (bs.getD j 0).testBit i = true → listed[i]? = some true
theorem any_sound (hE : EnvOk P E) (hF : ∀ p, p ∈ b.fx → E.fx.contains p.1 = true) (hN : N < b.n1) (bs : List Nat) (hbs : ∀ (j : Nat) o, ops[j]? = some o → ∀ i, (bs.getD j 0).testBit i = true → ∃ e, e ∈ o.after.toList ∧ Region.binds .any e = true ∧ (e.on = i ∨ (bs.getD e.on 0).testBit i = true))
    (hbk : ∀ (j : Nat) o, ops[j]? = some o → ∀ e, e ∈ o.after.toList → Region.binds .any e = true → e.on < j) {Q : Exit → Act → World → Prop} {S' : St} (hQ : ∀ a' w', Sim b N S' a' w' → Q .normal a' w') :
    ∀ (fuel : Nat) (R : List (Nat × Rec)) (listed : Array Bool) (S : St) (a : Act) (w : World), R.length = fuel → Runs E N ops R S S' → pairsOk ops bs R = true → Left ops bs R listed → Sim b N S a w → wpAny P .any ops Q fuel listed a w
  | 0, R, listed, S, a, w, hl, hr, _, hL, hs => by
    obtain rfl : R = [] := List.eq_nil_of_length_eq_zero hl
    cases hr
    refine ⟨?_, hQ _ _ hs⟩
    unfold Region.ready
    rw [List.filter_eq_nil_iff]
    intro i hi
    have hi' : i < ops.size := by simpa using hi
    have h1 := hL.not i hi'
    have h2 : listed[i]? = some true := by
      have h3 : i < listed.size := by rw [hL.size]; exact hi'
      rw [Array.getElem?_eq_getElem h3] at h1 ⊢
      cases h4 : listed[i] with
      | true => rfl
      | false => rw [h4] at h1; simp at h1
    have h5 : listed.getD i true = true := by rw [Array.getD_eq_getD_getElem?, h2]; rfl
    rw [h5]; simp
  | fuel + 1, R, listed, S, a, w, hl, hr, hp, hL, hs => by
    refine ⟨fun hnil => ?_, fun i hi => ?_⟩
    · -- the first that is left is ready
      exfalso
      cases R with
      | nil => simp at hl
      | cons q R =>
        have hq := hL.op q (by simp)
        have hqlt := hL.lt q (by simp)
        have hin : q.1 ∈ Region.ready .any ops listed := by
          unfold Region.ready
          rw [List.mem_filter]
          refine ⟨by simpa using hqlt, ?_⟩
          have h1 := (hL.not q.1 hqlt).2 (by simp)
          rw [Array.getD_eq_getD_getElem?, h1, hq]
          simp only [Option.getD_some, Bool.not_false, Bool.true_and, Option.map_some]
          rw [Array.all_eq_true']
          intro e he
          cases hbd : Region.binds .any e with
          | false => rfl
          | true =>
            have hlt := hbk q.1 _ hq e (Array.mem_toList_iff.2 he) hbd
            have h3 : e.on < listed.size := by rw [hL.size]; omega
            have h2 := hL.not e.on (by omega)
            have h4 : e.on ∉ (q :: R).map (·.1) := by
              intro hm
              have := hL.asc
              rw [List.map_cons, List.pairwise_cons] at this
              rcases List.mem_cons.1 hm with hm | hm
              · have hm' : e.on = q.1 := hm
                omega
              · have h9 : q.1 < e.on := this.1 e.on hm
                omega
            rw [Array.getD_eq_getD_getElem?]
            rw [Array.getElem?_eq_getElem h3] at h2 ⊢
            cases h5 : listed[e.on] with
            | true => rfl
            | false => rw [h5] at h2; exact absurd (h2.1 rfl) h4
        rw [hnil] at hin
        cases hin
    · unfold Region.ready at hi
      rw [List.mem_filter] at hi
      obtain ⟨hi1, hi2⟩ := hi
      have hilt : i < ops.size := by simpa using hi1
      simp only [Bool.and_eq_true, Bool.not_eq_true'] at hi2
      obtain ⟨hn, hpre⟩ := hi2
      have hlt : i < listed.size := by rw [hL.size]; exact hilt
      have hif : listed[i]? = some false := by
        rw [Array.getD_eq_getD_getElem?, Array.getElem?_eq_getElem hlt] at hn
        rw [Array.getElem?_eq_getElem hlt]
        simp only [Option.getD_some] at hn
        rw [hn]
      obtain ⟨q, hq, hqi⟩ := List.mem_map.1 ((hL.not i hilt).1 hif)
      subst hqi
      have hop := hL.op q hq
      rw [hop] at hpre
      simp only [Option.map_some, Option.getD_some] at hpre
      have hpre' : ∀ e, e ∈ q.2.o.after.toList → Region.binds .any e = true → listed[e.on]? = some true := by
        intro e he hbd
        rw [Array.all_eq_true'] at hpre
        have := hpre e (Array.mem_toList_iff.1 he)
        rw [hbd] at this
        simp only [Bool.not_true, Bool.false_or] at this
        rw [Array.getD_eq_getD_getElem?] at this
        cases h : listed[e.on]? with
        | none => rw [h] at this; cases this
        | some x => rw [h] at this; simp only [Option.getD_some] at this; rw [this]
      have hall : ∀ j, (bs.getD q.1 0).testBit j = true → listed[j]? = some true := by
        intro j hj
        obtain ⟨e, k1, k2, k3⟩ := hbs q.1 _ hop j hj
        have := hpre' e k1 k2
        rcases k3 with k3 | k3
        · rw [← k3]; exact this
        · exact hL.closed e.on this j k3
      obtain ⟨R1, R2, rfl⟩ := List.append_of_mem hq
      obtain ⟨p1, p2⟩ := pairs_mid R1 hp
      have hfront := Runs.front R1 (fun p hp' => by
        rcases p2 p hp' with h | h
        · have h1 := hall p.1 h
          have h2 := (hL.not p.1 (hL.lt p (by simp [hp']))).2 (List.mem_map.2 ⟨p, by simp [hp'], rfl⟩)
          rw [h1] at h2; cases h2
        · exact h) hr
      obtain ⟨qi, r⟩ := q
      cases hfront with
      | cons s1 s2 =>
        unfold wpOp
        rw [hop]
        simp only
        have hrec : ∀ a' w', Sim b N (S.app r.o.dst r.out) a' w' → wpAny P .any ops Q fuel (listed.setIfInBounds qi true) a' w' := by
          intro a' w' hs'
          refine any_sound hE hF hN bs hbs hbk hQ fuel (R1 ++ R2) _ _ a' w' ?_ s2 p1 ?_ hs'
          · simp only [List.length_append, List.length_cons] at hl ⊢; omega
          · have hasc := hL.asc
            rw [List.map_append, List.map_cons, List.pairwise_append, List.pairwise_cons] at hasc
            obtain ⟨g1, ⟨g2, g3⟩, g4⟩ := hasc
            refine ⟨by simp [hL.size], fun p hp => ?_, fun i hi => ?_, fun p hp => ?_, ?_, ?_⟩
            · rcases List.mem_append.1 hp with h | h
              · exact hL.lt p (by simp [h])
              · exact hL.lt p (by simp [h])
            · by_cases hiq : i = qi
              · subst hiq
                rw [Array.getElem?_setIfInBounds_self_of_lt hlt]
                simp only [Option.some.injEq, Bool.true_eq_false, false_iff]
                rw [List.map_append]
                intro hm
                rcases List.mem_append.1 hm with hm | hm
                · have := g4 i hm i (by simp); omega
                · have := g2 i hm; omega
              · rw [Array.getElem?_setIfInBounds_ne (Ne.symm hiq), hL.not i hi]
                simp [hiq]
            · rcases List.mem_append.1 hp with h | h
              · exact hL.op p (by simp [h])
              · exact hL.op p (by simp [h])
            · rw [List.map_append, List.pairwise_append]
              exact ⟨g1, g3, fun x hx y hy => g4 x hx y (List.mem_cons_of_mem _ hy)⟩
            · intro j hj i hi
              have hsub : ∀ m : Nat, listed[m]? = some true → (listed.setIfInBounds qi true)[m]? = some true := by
                intro m hm
                by_cases hmq : m = qi
                · subst hmq; rw [Array.getElem?_setIfInBounds_self_of_lt hlt]
                · rw [Array.getElem?_setIfInBounds_ne (Ne.symm hmq)]; exact hm
              by_cases hjq : j = qi
              · subst hjq
                exact hsub i (hall i hi)
              · rw [Array.getElem?_setIfInBounds_ne (Ne.symm hjq)] at hj
                exact hsub i (hL.closed j hj i hi)
        have := s1.runs (Q := Q) hE hF hN hs hrec
        split
        · rename_i hw; rw [if_pos hw] at this; exact .inl this
        · rename_i hw; rw [if_neg hw] at this; exact this
theorem Sim.drawn {S : St} {a : Act} {w : World} (h : Sim b N S a w) : Sim b N S a { w with drawn := w.drawn + 1 } := by
  obtain ⟨c, hi, hs, hfx⟩ := h
  have hst : Step w { w with drawn := w.drawn + 1 } (fun _ => False) := ⟨rfl, rfl, rfl, Nat.le_refl _, fun _ _ _ => rfl⟩
  obtain ⟨c', _, _, h3, h4, _⟩ := hi.many (S' := S) (w' := { w with drawn := w.drawn + 1 }) (fun _ => none) [] [] [] (fun k => by simp) rfl (fun k i _ => by rw [Leaf.kp_nil]) (fun k o _ hk => by rcases hk with hk | hk; cases hk; exact absurd rfl hk)
    (hst.mono fun _ h => h.elim) (fun k n hk => by cases hk) (fun k n hk => by cases hk) (fun k n k' n' _ hk => by cases hk) (fun _ _ _ k n hk => by cases hk) (fun _ _ _ _ _ k n hk => by cases hk)
  have hdid : Did b S c w ⟨.no, [], []⟩ undef { w with drawn := w.drawn + 1 } := ⟨c', h3, h4, trivial⟩
  exact hdid.sim hs none (fun k hk => by cases hk) hfx (fun k hk => by cases hk)
theorem numbered_map : ∀ (rs : List Rec) (n : Nat), (numbered rs n).map (·.1) = List.range' n rs.length
  | [], _ => rfl
  | r :: rs, n => by rw [numbered, List.map_cons, numbered_map rs (n + 1), List.length_cons, List.range'_succ]
theorem numbered_at : ∀ (rs : List Rec) (n : Nat) (p : Nat × Rec), p ∈ numbered rs n → n ≤ p.1 ∧ rs[p.1 - n]? = some p.2
  | [], _, p, h => by cases h
  | r :: rs, n, p, h => by
    rw [numbered] at h
    rcases List.mem_cons.1 h with rfl | h
    · simp
    · obtain ⟨h1, h2⟩ := numbered_at rs (n + 1) p h
      refine ⟨by omega, ?_⟩
      rw [show p.1 - n = (p.1 - (n + 1)) + 1 by omega, List.getElem?_cons_succ]; exact h2
theorem region_ok (hE : EnvOk P E) (hF : ∀ p, p ∈ b.fx → E.fx.contains p.1 = true) (hN : N < b.n1) {id : Nat} {draw : Bool} {S S' : St} (h : (regionT E N ops draw S).run = some S') {a : Act} {w : World} (hs : Sim b N S a w) {Q : Exit → Act → World → Prop} (hQ : ∀ a' w', Sim b N S' a' w' → Q .normal a' w') :
    (Code.region id ops draw).wp P Q a w := by
  unfold regionT at h
  split at h
  · rename_i hd
    subst hd
    simp only [run_bind, Option.bind_eq_some_iff] at h
    obtain ⟨⟨S1, rs⟩, h1, h2⟩ := h
    split at h2
    · rename_i hc
      simp only [Tr.run, Option.some.injEq] at h2
      subst h2
      simp only [Bool.and_eq_true] at hc
      obtain ⟨hc1, hc2⟩ := hc
      obtain ⟨rs', k0, k1, k2⟩ := regR_runs ops.toList S S1 [] rs 0 h1
      simp only [List.reverse_nil, List.nil_append] at k0
      subst k0
      have hlen : rs.length = ops.size := by rw [← List.length_map (f := (·.o)), k1]; simp
      have hat : ∀ p, p ∈ numbered rs 0 → ops[p.1]? = some p.2.o := by
        intro p hp
        obtain ⟨_, h4⟩ := numbered_at rs 0 p hp
        rw [Nat.sub_zero] at h4
        have : (rs.map (·.o))[p.1]? = some p.2.o := by rw [List.getElem?_map, h4]; rfl
        rw [k1, Array.getElem?_toList] at this
        exact this
      refine wp_region_any hE.mix ?_
      refine any_sound hE hF hN (ahead ops.toList []) (fun j o ho i hi => ?_) (fun j o ho e he hb => ?_) hQ ops.size (numbered rs 0) _ S a _ ?_ k2 hc1 ?_ hs.drawn
      · have := (ahead_spec ops.toList []).2 j o (by rw [Array.getElem?_toList]; exact ho) i (by simpa using hi)
        exact this
      · have := backward_spec ops.toList 0 hc2 j o (by rw [Array.getElem?_toList]; exact ho) e he hb
        omega
      · rw [← List.length_map (f := (·.1)), numbered_map]; simp [hlen]
      · refine ⟨by simp, fun p hp => (Array.getElem?_eq_some_iff.1 (hat p hp)).1, fun i hi => ?_, hat, ?_, fun j hj i hi => ?_⟩
        · rw [numbered_map]
          simp only [List.mem_range'_1, Nat.zero_le, Nat.zero_add, true_and, hlen, hi, iff_true]
          rw [Array.getElem?_eq_getElem (by simpa using hi)]; simp
        · rw [numbered_map]; exact List.pairwise_lt_range'
        · have := (Array.getElem?_eq_some_iff.1 hj)
          obtain ⟨h5, h6⟩ := this
          simp at h6
    · simp [Tr.run] at h2
  · rename_i hd
    have hd' : draw = false := by simpa using hd
    subst hd'
    obtain ⟨rs, k1, k2⟩ := regT_runs ops.toList S S' 0 h
    refine wp_region_list ?_
    rw [← k1]
    exact Runs.list hE hF hN rs 0 k2 hs hQ
end
end Go.V

namespace Go.V
def Ex.out : Ex → Exit
  | .n => .normal
  | .x id => .exit id
  | .r => .ret
section
variable {P : Program} {E : Env} {b : Base} {N : Nat}
theorem opt_run {α : Type} {o : Option α} {x : α} (h : (Tr.opt o).run = some x) : o = some x := by
  cases o with
  | none => simp [Tr.run] at h
  | some a => simpa [Tr.run] using h
theorem Joins.ok : ∀ (J : Joins) {e e' : Ex} {S S' : St} {x : J.D}, J.prj e S = some x → (J.inj x).run = some (e', S') → e = e' ∧ ∀ {a w}, Sim b N S a w → Sim b N S' a w
  | [], e, e', S, S', x, _, _ => nomatch x
  | [t], e, e', S, S', x, h, h' => by
    simp only [Joins.prj] at h
    split at h
    · rename_i he
      simp only [Joins.inj, Tr.run, Option.some.injEq, Prod.mk.injEq] at h'
      obtain ⟨h1, h2⟩ := h'
      subst h2
      exact ⟨he.trans h1, fun hs => t.2.ok h hs⟩
    · cases h
  | t :: u :: l, e, e', S, S', x, h, h' => by
    simp only [Joins.prj] at h
    split at h
    · rename_i he
      split at h
      · rename_i y hy
        injection h with h
        subst h
        simp only [Joins.inj, Tr.run, Option.some.injEq, Prod.mk.injEq] at h'
        obtain ⟨h1, h2⟩ := h'
        subst h2
        exact ⟨he.trans h1, fun hs => t.2.ok hy hs⟩
      · cases h
    · split at h
      · rename_i y hy
        injection h with h
        subst h
        exact Joins.ok (u :: l) hy h'
      · cases h
theorem joined_ok {J : Joins} {t : Tr (Ex × St)} {e : Ex} {S' : St} (h : (joined J t).run = some (e, S')) : ∃ S0, t.run = some (e, S0) ∧ ∀ {a w}, Sim b N S0 a w → Sim b N S' a w := by
  cases J with
  | nil => exact ⟨S', h, fun hs => hs⟩
  | cons j l =>
    simp only [joined, run_get, Option.bind_eq_some_iff] at h
    obtain ⟨x, hx, h⟩ := h
    rw [run_bind, Option.bind_eq_some_iff] at hx
    obtain ⟨⟨e0, S0⟩, h1, h2⟩ := hx
    obtain ⟨k1, k2⟩ := Joins.ok (b := b) (N := N) (j :: l) (opt_run h2) h
    subst k1
    exact ⟨S0, h1, k2⟩
def CodeOk (P : Program) (b : Base) (N : Nat) (c : Code) (S : St) (e : Ex) (S' : St) : Prop :=
  ∀ {a : Act} {w : World} {Q : Exit → Act → World → Prop}, Sim b N S a w → (∀ a' w', Sim b N S' a' w' → Q e.out a' w') → c.wp P Q a w
theorem weak {c : Code} {S S0 S' : St} {e : Ex} (h : CodeOk P b N c S e S0) (hw : ∀ {a w}, Sim b N S0 a w → Sim b N S' a w) : CodeOk P b N c S e S' :=
  fun hs hQ => h hs fun a' w' hs' => hQ a' w' (hw hs')
theorem then_out {e : Ex} {next : Act → World → Prop} {Q : Exit → Act → World → Prop} {a : Act} {w : World} : Exit.then next Q e.out a w ↔ (match e with | .n => next a w | e => Q e.out a w) := by
  cases e <;> exact Iff.rfl
theorem seq_ok {c d : Code} {S : St} {x y : Ann} {e : Ex} {S' : St} (ih1 : ∀ {ann S e S'}, (vcode E N ann c S).run = some (e, S') → CodeOk P b N c S e S') (ih2 : ∀ {ann S e S'}, (vcode E N ann d S).run = some (e, S') → CodeOk P b N d S e S')
    (h : ((vcode E N x c S).bind fun r => match r.1 with | .n => vcode E N y d r.2 | e => .ret (e, r.2)).run = some (e, S')) : CodeOk P b N (.seq c d) S e S' := by
  rw [run_bind, Option.bind_eq_some_iff] at h
  obtain ⟨⟨e1, S1⟩, h1, h2⟩ := h
  intro a w Q hs hQ
  refine wp_seq (ih1 h1 hs fun a' w' hs' => then_out.2 ?_)
  cases e1 with
  | n => exact ih2 h2 hs' hQ
  | x id =>
    simp only [Tr.run, Option.some.injEq, Prod.mk.injEq] at h2
    obtain ⟨k1, k2⟩ := h2
    subst k1 k2
    exact hQ a' w' hs'
  | r =>
    simp only [Tr.run, Option.some.injEq, Prod.mk.injEq] at h2
    obtain ⟨k1, k2⟩ := h2
    subst k1 k2
    exact hQ a' w' hs'
theorem cond_ok {o : Operand} {c d : Code} {S : St} {t : Bool} {x y : Ann} {e : Ex} {S' : St} (ih1 : ∀ {ann S e S'}, (vcode E N ann c S).run = some (e, S') → CodeOk P b N c S e S') (ih2 : ∀ {ann S e S'}, (vcode E N ann d S).run = some (e, S') → CodeOk P b N d S e S')
    (ho : opnd S o = .s (.one (.v .bool t))) (h : (Tr.br t (vcode E N x c S) (vcode E N y d S)).run = some (e, S')) : CodeOk P b N (.cond o c d) S e S' := by
  intro a w Q hs hQ
  have hb : a.eval o = .bool t := by
    obtain ⟨c, _, hsl, _⟩ := hs
    have := opnd_ok hsl o
    rw [ho] at this
    exact bool_leaf (leaf_sv this)
  refine wp_cond hb ?_
  simp only [Tr.run] at h
  split at h
  · rename_i ht; rw [if_pos ht]; exact ih1 h hs hQ
  · rename_i ht; rw [if_neg ht]; exact ih2 h hs hQ
theorem bothQ_some {α : Type} {e : Bool} {x y : Option α} {z : α} (h : bothQ e x y = some z) : y = some z ∧ (e = true → x = some z) := by
  unfold bothQ at h
  split at h
  · split at h
    · rename_i hxy; exact ⟨h, fun _ => by rw [hxy]; exact h⟩
    · cases h
  · rename_i he; exact ⟨h, fun h' => absurd h' he⟩
theorem condq_ok {o : Operand} {c d : Code} {S : St} {q : Bool} {x y : Ann} {J : Joins} {z : J.D} {e : Ex} {S' : St} (ih1 : ∀ {ann S e S'}, (vcode E N ann c S).run = some (e, S') → CodeOk P b N c S e S') (ih2 : ∀ {ann S e S'}, (vcode E N ann d S).run = some (e, S') → CodeOk P b N d S e S')
    (ho : opnd S o = .s (.one (.qn q))) (hz : bothQ q ((vcode E N x c S).bind fun r => Tr.opt (Joins.prj J r.1 r.2)).run ((vcode E N y d S).bind fun r => Tr.opt (Joins.prj J r.1 r.2)).run = some z)
    (h : (J.inj z).run = some (e, S')) : CodeOk P b N (.cond o c d) S e S' := by
  obtain ⟨hB, hA⟩ := bothQ_some hz
  have side : ∀ {k : Code} {v : Ann}, (∀ {ann S e S'}, (vcode E N ann k S).run = some (e, S') → CodeOk P b N k S e S') → ((vcode E N v k S).bind fun r => Tr.opt (Joins.prj J r.1 r.2)).run = some z → CodeOk P b N k S e S' := by
    intro k v ih hk
    rw [run_bind, Option.bind_eq_some_iff] at hk
    obtain ⟨⟨e1, S1⟩, h1, h2⟩ := hk
    obtain ⟨k1, k2⟩ := Joins.ok (b := b) (N := N) J (opt_run h2) h
    subst k1
    exact weak (ih h1) k2
  intro a w Q hs hQ
  obtain ⟨r, hb, hr⟩ : ∃ r : Bool, a.eval o = .bool r ∧ (r = true → q = true) := by
    obtain ⟨c, _, hsl, _⟩ := hs
    have := opnd_ok hsl o
    rw [ho] at this
    exact this
  refine wp_cond hb ?_
  split
  · rename_i hrt; exact side ih1 (hA (hr hrt)) hs hQ
  · exact side ih2 hB hs hQ
def AllOk (P : Program) (E : Env) (b : Base) (N : Nat) (c : Code) : Prop := ∀ (ann : Ann) (S : St) (e : Ex) (S' : St), (vcode E N ann c S).run = some (e, S') → CodeOk P b N c S e S'
def SubOk (P : Program) (E : Env) (b : Base) (N : Nat) (c : Code) : Prop := match c with
  | .cond _ x y => AllOk P E b N x ∧ AllOk P E b N y
  | .seq r (.cond _ x y) => AllOk P E b N r ∧ AllOk P E b N x ∧ AllOk P E b N y
  | _ => True
theorem both_side {k d : Code} {S : St} {v y : Ann} {J : Joins} {z : J.D} {e : Ex} {S' : St} (hk : AllOk P E b N k) (hd : AllOk P E b N d)
    (hz : (((vcode E N v k S).bind fun p => match p.1 with | .n => vcode E N y d p.2 | e => .ret (e, p.2)).bind fun t => Tr.opt (Joins.prj J t.1 t.2)).run = some z) (h : (J.inj z).run = some (e, S'))
    {a : Act} {w : World} {Q : Exit → Act → World → Prop} (hs : Sim b N S a w) (hQ : ∀ a' w', Sim b N S' a' w' → Q e.out a' w') : k.wp P (Exit.then (fun a w => d.wp P Q a w) Q) a w := by
  rw [run_bind, Option.bind_eq_some_iff] at hz
  obtain ⟨⟨e1, S1⟩, h1, h2⟩ := hz
  obtain ⟨k1, k2⟩ := Joins.ok (b := b) (N := N) J (opt_run h2) h
  subst k1
  rw [run_bind, Option.bind_eq_some_iff] at h1
  obtain ⟨⟨e3, S3⟩, h3, h4⟩ := h1
  refine hk _ _ _ _ h3 hs fun a' w' hs' => then_out.2 ?_
  cases e3 with
  | n => exact hd _ _ _ _ h4 hs' fun a2 w2 hs2 => hQ a2 w2 (k2 hs2)
  | x id =>
    simp only [Tr.run, Option.some.injEq, Prod.mk.injEq] at h4
    obtain ⟨q1, q2⟩ := h4
    subst q1 q2
    exact hQ a' w' (k2 hs')
  | r =>
    simp only [Tr.run, Option.some.injEq, Prod.mk.injEq] at h4
    obtain ⟨q1, q2⟩ := h4
    subst q1 q2
    exact hQ a' w' (k2 hs')
theorem both_ok {o : Operand} {r c1 c2 d : Code} {S : St} {J : Joins} {xr xa xb y z : Ann} {e : Ex} {S' : St} (hr : AllOk P E b N r) (h1 : AllOk P E b N c1) (h2 : AllOk P E b N c2) (hd : AllOk P E b N d)
    (h : (vcode E N (.both J xr xa xb y z) (.seq (.seq r (.cond o c1 c2)) d) S).run = some (e, S')) : CodeOk P b N (.seq (.seq r (.cond o c1 c2)) d) S e S' := by
  rw [vcode, run_bind, Option.bind_eq_some_iff] at h
  obtain ⟨⟨e1, S1⟩, h3, h4⟩ := h
  intro a w Q hs hQ
  refine wp_seq (wp_seq (hr _ _ _ _ h3 hs fun a' w' hs' => then_out.2 ?_))
  cases e1 with
  | x id =>
    simp only [Tr.run, Option.some.injEq, Prod.mk.injEq] at h4
    obtain ⟨q1, q2⟩ := h4
    subst q1 q2
    exact then_out (e := .x id).2 (hQ a' w' hs')
  | r =>
    simp only [Tr.run, Option.some.injEq, Prod.mk.injEq] at h4
    obtain ⟨q1, q2⟩ := h4
    subst q1 q2
    exact then_out (e := .r).2 (hQ a' w' hs')
  | n =>
    simp only at h4
    split at h4
    · rename_i q ho
      rw [run_get, Option.bind_eq_some_iff] at h4
      obtain ⟨t, ht, h5⟩ := h4
      obtain ⟨hB, hA⟩ := bothQ_some ht
      obtain ⟨g, hb, hg⟩ : ∃ g : Bool, a'.eval o = .bool g ∧ (g = true → q = true) := by
        obtain ⟨c, _, hsl, _⟩ := hs'
        have := opnd_ok hsl o
        rw [ho] at this
        exact this
      refine wp_cond hb ?_
      split
      · rename_i hgt; exact both_side h1 hd (hA (hg hgt)) h5 hs' hQ
      · exact both_side h2 hd hB h5 hs' hQ
    · simp [Tr.run] at h4
theorem block_ok {id : Nat} {c : Code} {S : St} {x : Ann} {e : Ex} {S' : St} (ih1 : ∀ {ann S e S'}, (vcode E N ann c S).run = some (e, S') → CodeOk P b N c S e S')
    (h : ((vcode E N x c S).bind fun r => .ret (if r.1 = .x id then .n else r.1, r.2)).run = some (e, S')) : CodeOk P b N (.block id c) S e S' := by
  rw [run_bind, Option.bind_eq_some_iff] at h
  obtain ⟨⟨e1, S1⟩, h1, h2⟩ := h
  simp only [Tr.run, Option.some.injEq, Prod.mk.injEq] at h2
  obtain ⟨k1, k2⟩ := h2
  subst k2
  intro a w Q hs hQ
  refine wp_block (ih1 h1 hs fun a' w' hs' => ?_)
  have := hQ a' w' hs'
  cases e1 with
  | n => simp only [reduceCtorEq, if_false] at k1; subst k1; exact this
  | x id' =>
    by_cases hid : id' = id
    · subst hid
      simp only [if_true] at k1
      subst k1
      simp only [Ex.out, Exit.inBlock, if_true]
      exact this
    · have : ¬ (Ex.x id' = Ex.x id) := fun h => hid (by injection h)
      rw [if_neg this] at k1
      subst k1
      simp only [Ex.out, Exit.inBlock, hid, if_false]
      assumption
  | r => simp only [reduceCtorEq, if_false] at k1; subst k1; exact this
theorem loop_ok {c : Code} {S : St} {t : Tpl} {J : Joins} {x : Ann} {e : Ex} {S' : St} (ih1 : ∀ {ann S e S'}, (vcode E N ann c S).run = some (e, S') → CodeOk P b N c S e S') {x0 : t.D} (hx : t.prj S = some x0)
    (h : (Tr.get (Joins.D J) (loopG (fun y : t.D => ((vcode E N x c (t.inj y)).bind fun r => match r.1 with
        | .n => Tr.opt (match t.prj r.2 with | some z => some (Sum.inl (β := Joins.D J) z) | none => none)
        | e => Tr.opt (match J.prj e r.2 with | some z => some (Sum.inr (α := t.D) z) | none => none)).run) x0) J.inj).run = some (e, S')) : CodeOk P b N (.loop c) S e S' := by
  rw [run_get, Option.bind_eq_some_iff] at h
  obtain ⟨y, hy, h⟩ := h
  obtain ⟨n0, hn0⟩ := (loopG_some _ _ _).1 hy
  intro a w Q hs hQ
  generalize hf : (fun y : t.D => ((vcode E N x c (t.inj y)).bind fun r => match r.1 with
        | .n => Tr.opt (match t.prj r.2 with | some z => some (Sum.inl (β := Joins.D J) z) | none => none)
        | e => Tr.opt (match J.prj e r.2 with | some z => some (Sum.inr (α := t.D) z) | none => none)).run) = f at hn0
  refine wp_loop_ghost (fun n a w => ∃ x, Sim b N (t.inj x) a w ∧ loopN f n x = some y) n0 ⟨x0, t.ok hx hs, hn0⟩ ?_
  rintro n a w ⟨z, hz, hn⟩
  cases n with
  | zero => simp [loopN] at hn
  | succ n =>
    simp only [loopN] at hn
    have hfz : f z = ((vcode E N x c (t.inj z)).bind fun r => match r.1 with
        | .n => Tr.opt (match t.prj r.2 with | some z => some (Sum.inl (β := Joins.D J) z) | none => none)
        | e => Tr.opt (match J.prj e r.2 with | some z => some (Sum.inr (α := t.D) z) | none => none)).run := by rw [← hf]
    cases hfv : f z with
    | none => rw [hfv] at hn; cases hn
    | some v =>
      rw [hfv] at hn hfz
      have hfz' := hfz.symm
      rw [run_bind, Option.bind_eq_some_iff] at hfz'
      obtain ⟨⟨e1, S1⟩, h1, h2⟩ := hfz'
      refine ih1 h1 hz fun a' w' hs' => then_out.2 ?_
      have other : ∀ e2, (Tr.opt (match J.prj e2 S1 with | some z => some (Sum.inr (α := t.D) z) | none => none)).run = some v → Q e2.out a' w' := by
        intro e2 h2
        have h3 := opt_run h2
        split at h3
        · rename_i z' hz'
          injection h3 with h3
          subst h3
          simp only [Option.some.injEq] at hn
          subst hn
          obtain ⟨k1, k2⟩ := Joins.ok (b := b) (N := N) J hz' h
          subst k1
          exact hQ a' w' (k2 hs')
        · cases h3
      cases e1 with
      | n =>
        have h3 := opt_run h2
        split at h3
        · rename_i z' hz'
          injection h3 with h3
          subst h3
          exact ⟨n, by omega, z', t.ok hz' hs', hn⟩
        · cases h3
      | x id => exact other _ h2
      | r => exact other _ h2
theorem vcode_ok (hE : EnvOk P E) (hF : ∀ p, p ∈ b.fx → E.fx.contains p.1 = true) (hN : N < b.n1) (c : Code) : ∀ {ann : Ann} {S : St} {e : Ex} {S' : St}, (vcode E N ann c S).run = some (e, S') → CodeOk P b N c S e S' := by
  have reg : ∀ {id : Nat} {ops : Array Oper} {draw : Bool} {S : St} {e : Ex} {S' : St}, ((regionT E N ops draw S).bind fun S => .ret (.n, S)).run = some (e, S') → CodeOk P b N (.region id ops draw) S e S' := by
    intro id ops draw S e S' h
    rw [run_bind, Option.bind_eq_some_iff] at h
    obtain ⟨S1, h1, h2⟩ := h
    simp only [Tr.run, Option.some.injEq, Prod.mk.injEq] at h2
    obtain ⟨k1, k2⟩ := h2
    subst k1 k2
    intro a w Q hs hQ
    exact region_ok hE hF hN h1 hs hQ
  suffices hh : AllOk P E b N c ∧ SubOk P E b N c by
    intro ann S e S' h
    exact hh.1 _ _ _ _ h
  induction c with
  | skip =>
    refine ⟨?_, trivial⟩
    intro ann S e S' h
    have : vcode E N ann .skip S = .ret (.n, S) := by cases ann <;> rfl
    rw [this] at h
    simp only [Tr.run, Option.some.injEq, Prod.mk.injEq] at h
    obtain ⟨k1, k2⟩ := h
    subst k1 k2
    intro a w Q hs hQ
    exact wp_skip (hQ a w hs)
  | region id ops draw =>
    refine ⟨?_, trivial⟩
    intro ann S e S' h
    cases ann with
    | reg J =>
      obtain ⟨S0, h1, h2⟩ := joined_ok (b := b) (N := N) (show (joined J ((regionT E N ops draw S).bind fun S => .ret (.n, S))).run = some (e, S') from h)
      exact weak (reg h1) h2
    | _ => exact reg h
  | seq c d ih1 ih2 =>
    have i1 : ∀ {ann S e S'}, (vcode E N ann c S).run = some (e, S') → CodeOk P b N c S e S' := fun h => ih1.1 _ _ _ _ h
    have i2 : ∀ {ann S e S'}, (vcode E N ann d S).run = some (e, S') → CodeOk P b N d S e S' := fun h => ih2.1 _ _ _ _ h
    refine ⟨?_, ?_⟩
    · intro ann S e S' h
      cases ann with
      | seq x y => exact seq_ok i1 i2 h
      | nil => exact seq_ok i1 i2 h
      | both J xr xa xb y z =>
        match c, ih1, h with
        | .seq r (.cond o c1 c2), ih1, h => (intro a w Q hs hQ; exact both_ok ih1.2.1 ih1.2.2.1 ih1.2.2.2 ih2.1 h hs hQ)
        | .seq _ (.skip), _, h | .seq _ (.region ..), _, h | .seq _ (.seq ..), _, h | .seq _ (.block ..), _, h | .seq _ (.loop ..), _, h | .seq _ (.rangeFunc ..), _, h | .seq _ (.exit ..), _, h | .seq _ (.scope ..), _, h | .seq _ (.label ..), _, h | .seq _ (.goto ..), _, h | .seq _ (.ret), _, h | .seq _ (.refuse ..), _, h => cases h
        | .skip, _, h | .region .., _, h | .cond .., _, h | .block .., _, h | .loop .., _, h | .rangeFunc .., _, h | .exit .., _, h | .scope .., _, h | .label .., _, h | .goto .., _, h | .ret, _, h | .refuse .., _, h => cases h
      | _ => cases h
    · cases d with
      | cond o c1 c2 => exact ⟨ih1.1, ih2.2.1, ih2.2.2⟩
      | _ => trivial
  | cond o c d ih1' ih2' =>
    have ih1 : ∀ {ann S e S'}, (vcode E N ann c S).run = some (e, S') → CodeOk P b N c S e S' := fun h => ih1'.1 _ _ _ _ h
    have ih2 : ∀ {ann S e S'}, (vcode E N ann d S).run = some (e, S') → CodeOk P b N d S e S' := fun h => ih2'.1 _ _ _ _ h
    refine ⟨?_, ih1'.1, ih2'.1⟩
    intro ann S e S' h
    cases ann with
    | cond J x y =>
      simp only [vcode] at h
      split at h
      · rename_i t ho
        obtain ⟨S0, h1, h2⟩ := joined_ok (b := b) (N := N) h
        exact weak (cond_ok ih1 ih2 ho h1) h2
      · rename_i e0 ho
        rw [run_get, Option.bind_eq_some_iff] at h
        obtain ⟨z, hz, h⟩ := h
        exact condq_ok ih1 ih2 ho hz h
      · cases h
    | nil =>
      simp only [vcode] at h
      split at h
      · rename_i t ho
        exact cond_ok ih1 ih2 ho h
      · cases h
    | _ => cases h
  | block id c ih1' =>
    have ih1 : ∀ {ann S e S'}, (vcode E N ann c S).run = some (e, S') → CodeOk P b N c S e S' := fun h => ih1'.1 _ _ _ _ h
    refine ⟨?_, trivial⟩
    intro ann S e S' h
    cases ann with
    | block J x =>
      obtain ⟨S0, h1, h2⟩ := joined_ok (b := b) (N := N) h
      exact weak (block_ok ih1 h1) h2
    | nil => exact block_ok ih1 h
    | _ => cases h
  | loop c ih1' =>
    have ih1 : ∀ {ann S e S'}, (vcode E N ann c S).run = some (e, S') → CodeOk P b N c S e S' := fun h => ih1'.1 _ _ _ _ h
    refine ⟨?_, trivial⟩
    intro ann S e S' h
    cases ann with
    | loop t J x =>
      simp only [vcode] at h
      split at h
      · rename_i x0 hx
        exact loop_ok ih1 hx h
      · cases h
    | _ => cases h
  | exit id =>
    refine ⟨?_, trivial⟩
    intro ann S e S' h
    have : vcode E N ann (.exit id) S = .ret (.x id, S) := by cases ann <;> rfl
    rw [this] at h
    simp only [Tr.run, Option.some.injEq, Prod.mk.injEq] at h
    obtain ⟨k1, k2⟩ := h
    subst k1 k2
    intro a w Q hs hQ
    exact wp_exit (hQ a w hs)
  | ret =>
    refine ⟨?_, trivial⟩
    intro ann S e S' h
    have : vcode E N ann .ret S = .ret (.r, S) := by cases ann <;> rfl
    rw [this] at h
    simp only [Tr.run, Option.some.injEq, Prod.mk.injEq] at h
    obtain ⟨k1, k2⟩ := h
    subst k1 k2
    intro a w Q hs hQ
    exact wp_ret (hQ a w hs)
  | _ =>
    refine ⟨?_, trivial⟩
    intro ann S e S' h
    cases ann <;> cases h
end
end Go.V

namespace Go.V
open Go.RowKit
section
variable {P : Program} {E : Env} {b : Base} {S : St} {c : Cc} {w : World}
theorem outLeaf_ok (hi : Inv b S w c) {t : Ty} {l : Leaf} {v : Value} {y : ALeaf × List Nat} (hl : LeafOk S c w (Kok b S c) l v) (h : (outLeaf t l).ev S = some y) :
    Ows S y.2 ∧ ∃ G, ALOk w (Kok b S c) y.1 v G ∧ G.Nodup ∧ Held c y.2 G := by
  have hn : Ows S [] := fun k hk => (by cases hk)
  have hh : Held c [] [] := fun g hg => (by cases hg)
  unfold outLeaf at h
  split at h
  · simp only [Tr.ev, Option.some.injEq] at h
    subst h
    exact ⟨hn, [], ⟨hl, fun _ => rfl⟩, by simp, hh⟩
  · obtain rfl : v = .slice none 0 0 := hl
    split at h
    · simp only [Tr.ev, Option.some.injEq] at h
      subst h
      refine ⟨hn, [], ⟨?_, fun _ => rfl⟩, by simp, hh⟩
      simp only [Rp]; exact .inl ⟨trivial, trivial, trivial⟩
    · simp [Tr.ev] at h
  · rename_i k win
    simp only [ev_bind, Option.bind_eq_some_iff, Tr.ev, Option.some.injEq] at h
    obtain ⟨o, ho, h⟩ := h
    subst h
    obtain ⟨h1, F', h2, h3, h4⟩ := view_own hi hl ho
    exact ⟨fun k' hk' => (by simp only [List.mem_singleton] at hk'; subst hk'; exact h1), F', ⟨h2, fun h => (by simp [Ty.own] at h)⟩, h4, fun g hg => ⟨k, by simp, h3 g hg⟩⟩
  · simp [Tr.ev] at h
def Outs (S : St) (c : Cc) (gv G : List Nat) : Prop := Ows S gv ∧ (unlike gv = true → G.Nodup) ∧ Held c gv G
theorem Outs.nil : Outs S c [] [] := ⟨fun k hk => (by cases hk), fun _ => by simp, fun g hg => (by cases hg)⟩
theorem Outs.append (hi : Inv b S w c) {k l G H : List Nat} (h1 : Outs S c k G) (h2 : Outs S c l H) : Outs S c (k ++ l) (G ++ H) := by
  refine ⟨ows_append h1.1 h2.1, fun hu => ?_, fun g hg => ?_⟩
  · obtain ⟨u1, u2, _⟩ := unlike_append hu
    exact (held_append hi h1.2.2 h2.2.2 h1.1 h2.1 hu (h1.2.1 u1) (h2.2.1 u2)).2
  · rcases List.mem_append.1 hg with hg | hg
    · obtain ⟨k, h, h'⟩ := h1.2.2 g hg; exact ⟨k, by simp [h], h'⟩
    · obtain ⟨k, h, h'⟩ := h2.2.2 g hg; exact ⟨k, by simp [h], h'⟩
theorem outLeaves_ok (hi : Inv b S w c) : ∀ {ls : List Leaf} {ts : List Ty} {vs : List Value} {y : List ALeaf × List Nat}, All2 (LeafOk S c w (Kok b S c)) ls vs → (outLeaves ts ls).ev S = some y →
    ∃ G, FL (ALOk w (Kok b S c)) y.1 vs G ∧ Outs S c y.2 G
  | [], [], _, y, .nil, h => by
    rw [outLeaves] at h
    simp only [Tr.ev, Option.some.injEq] at h
    subst h
    exact ⟨[], ⟨rfl, rfl⟩, Outs.nil⟩
  | l :: ls, t :: ts, _, y, .cons (b := v) (bs := vs) h1 h2, h => by
    rw [outLeaves] at h
    simp only [ev_bind, Option.bind_eq_some_iff, Tr.ev, Option.some.injEq] at h
    obtain ⟨y1, hy1, y2, hy2, rfl⟩ := h
    obtain ⟨k1, G, k2, k3, k4⟩ := outLeaf_ok hi h1 hy1
    obtain ⟨H, m2, m3⟩ := outLeaves_ok hi h2 hy2
    exact ⟨G ++ H, ⟨v, vs, G, H, rfl, rfl, k2, m2⟩, Outs.append hi ⟨k1, fun _ => k3, k4⟩ m3⟩
  | [], _ :: _, _, _, _, h => by simp [outLeaves, Tr.ev] at h
  | _ :: _, [], _, _, _, h => by simp [outLeaves, Tr.ev] at h
theorem outVal_ok (hi : Inv b S w c) {N M : Nat} (hN : b.n1 = N + 1) (hM : b.ms.length = M) {t : TypeId} {x : SV} {v : Value} {y : A1 × List Nat} (hx : SVOk S c w (Kok b S c) x v) (h : (outVal E N M t x).ev S = some y) :
    ∃ G, A1Ok w (Kok b S c) b.ms y.1 v G ∧ Outs S c y.2 G := by
  unfold outVal at h
  split at h
  · simp only [ev_bind, Option.bind_eq_some_iff, Tr.ev, Option.some.injEq] at h
    obtain ⟨z, hz, h⟩ := h
    subst h
    obtain ⟨k1, G, k2, k3, k4⟩ := outLeaf_ok hi (leaf_sv hx) hz
    exact ⟨G, k2, k1, fun _ => k3, k4⟩
  · simp only [ev_bind, Option.bind_eq_some_iff, Tr.ev, Option.some.injEq] at h
    obtain ⟨z, hz, h⟩ := h
    subst h
    obtain ⟨vs, rfl, hx⟩ := hx
    obtain ⟨G, k1, k2⟩ := outLeaves_ok hi hx hz
    exact ⟨G, ⟨vs, rfl, k1⟩, k2⟩
  · rename_i k off
    split at h
    · rename_i hk
      simp only [Tr.ev, Option.some.injEq] at h
      subst h
      obtain ⟨n, hn, rfl⟩ := hx
      have hlt : k - (N + 1) < b.ms.length := by omega
      have han := hi.an (k - (N + 1)) _ (List.getElem?_eq_getElem hlt)
      rw [hN, show N + 1 + (k - (N + 1)) = k by omega] at han
      exact ⟨[], ⟨rfl, _, List.getElem?_eq_getElem hlt, by rw [han]⟩, Outs.nil⟩
    · simp [Tr.ev] at h
  · simp [Tr.ev] at h
theorem loadAt_addr {t : TypeId} {v u : Value} {w' : World} (h : (Instr.loadAt t v).run P w = .ok u w') : (do loadVar t (← asAddr v) : Sem Value).run P w = .ok u w' := by
  unfold Instr.loadAt at h
  cases v with
  | pointer o =>
    cases o with
    | some a => simpa [asAddr, Instr.sureAddr] using h
    | none => simp [Instr.sureAddr] at h
  | _ => simp [Instr.sureAddr] at h
def readRes (tmps : Array Value) : ResultVar → Sem Value
  | .tmp t => pure (tmps.getD t undef)
  | .cell a t => do loadVar t (← asAddr (tmps.getD a undef))
theorem outVals_ok (hT : TabOk P E.ti) {N M : Nat} (hN : b.n1 = N + 1) (hM : b.ms.length = M) {a : Act} (hi : Inv b S w c) (hs : Slots N S c w (Kok b S c) a) : ∀ (rs : List ResultVar) (ts : List TypeId) {y : List A1 × List Nat}, (outVals E N M S rs ts).ev S = some y →
    ∃ vs G, (rs.mapM (readRes a.tmps)).run P w = .ok vs w ∧ FL (A1Ok w (Kok b S c) b.ms) y.1 vs G ∧ Outs S c y.2 G
  | [], [], y, h => by
    rw [outVals] at h
    simp only [Tr.ev, Option.some.injEq] at h
    subst h
    exact ⟨[], [], by simp, ⟨rfl, rfl⟩, Outs.nil⟩
  | .tmp s :: rs, t :: ts, y, h => by
    rw [outVals] at h
    simp only [ev_bind, Option.bind_eq_some_iff, Tr.ev, Option.some.injEq] at h
    obtain ⟨y1, hy1, y2, hy2, rfl⟩ := h
    obtain ⟨G, k1, k2⟩ := outVal_ok hi hN hM (hs.ok s) hy1
    obtain ⟨vs, H, m1, m2, m3⟩ := outVals_ok hT hN hM hi hs rs ts hy2
    refine ⟨_ :: vs, G ++ H, ?_, ⟨_, vs, G, H, rfl, rfl, k1, m2⟩, Outs.append hi k2 m3⟩
    simp only [List.mapM_cons, readRes, Sem.run_bind, Sem.run_pure, Result.andThen_ok, m1]
  | .cell s t' :: rs, t :: ts, y, h => by
    rw [outVals] at h
    split at h
    · rename_i a1 cs ha hcs
      split at h
      · simp [Tr.ev] at h
      · rename_i hne
        rw [ev_bind, Option.bind_eq_some_iff] at h
        obtain ⟨x, hx, h⟩ := h
        simp only [ev_bind, Option.bind_eq_some_iff, Tr.ev, Option.some.injEq] at h
        obtain ⟨y1, hy1, y2, hy2, rfl⟩ := h
        have hv := hs.ok s
        rw [ha] at hv
        have hpos : 0 < cs.length := by
          cases cs with
          | nil => simp at hne
          | cons _ _ => simp
        obtain ⟨u, k0, k1⟩ := load_ok (P := P) hT hi hv hcs hx hpos
        obtain ⟨G, k2, k3⟩ := outVal_ok hi hN hM k1 hy1
        obtain ⟨vs, H, m1, m2, m3⟩ := outVals_ok hT hN hM hi hs rs ts hy2
        refine ⟨u :: vs, G ++ H, ?_, ⟨u, vs, G, H, rfl, rfl, k2, m2⟩, Outs.append hi k3 m3⟩
        have hl := loadAt_addr k0
        rw [List.mapM_cons, Sem.run_bind]
        show ((do loadVar t' (← asAddr (a.tmps.getD s undef)) : Sem Value).run P w).andThen _ = _
        rw [hl]
        simp only [Result.andThen_ok, Sem.run_bind, m1, Sem.run_pure]
    · simp [Tr.ev] at h
  | [], _ :: _, _, h => by simp [outVals, Tr.ev] at h
  | _ :: _, [], _, h => by
    rename_i r _ _
    cases r <;> simp [outVals, Tr.ev] at h
theorem outRow_ok (hi : Inv b S w c) (k : Nat) : ∀ (row : List ALeaf) (i : Nat) (vs : List Value) {y : List ALeaf × List Nat}, vs.length = row.length → (∀ j v, vs[j]? = some v → LeafOk S c w (Kok b S c) (S.mc k (i + j)) v) → (outRow k row i).ev S = some y →
    ∃ G, FL (ALOk w (Kok b S c)) y.1 vs G ∧ Outs S c y.2 G
  | [], i, vs, y, hl, _, h => by
    rw [outRow] at h
    simp only [Tr.ev, Option.some.injEq] at h
    subst h
    obtain rfl : vs = [] := List.eq_nil_of_length_eq_zero hl
    exact ⟨[], ⟨rfl, rfl⟩, Outs.nil⟩
  | r :: row, i, [], y, hl, _, _ => by simp at hl
  | r :: row, i, v :: vs, y, hl, hc, h => by
    rw [outRow] at h
    simp only [Tr.ev, ev_bind, Option.bind_eq_some_iff, Option.some.injEq] at h
    obtain ⟨y1, hy1, y2, hy2, rfl⟩ := h
    obtain ⟨k1, G, k2, k3, k4⟩ := outLeaf_ok hi (hc 0 v rfl) hy1
    obtain ⟨H, m1, m2⟩ := outRow_ok hi k row (i + 1) vs (by simpa using hl) (fun j v hv => by
      have := hc (j + 1) v (by simpa using hv)
      rwa [show i + (j + 1) = i + 1 + j by omega] at this) hy2
    exact ⟨G ++ H, ⟨v, vs, G, H, rfl, rfl, k2, m1⟩, Outs.append hi ⟨k1, fun _ => k3, k4⟩ m2⟩
theorem outRows_ok (hi : Inv b S w c) {N : Nat} (hN : b.n1 = N + 1) : ∀ (rows : List (List ALeaf)) (m : Nat) (gs : List Nat) {y : List (List ALeaf) × List Nat}, gs.length = rows.length → (∀ j g, gs[j]? = some g → b.ms[m + j]? = some g) → (outRows N rows m).ev S = some y →
    (∀ j, j < rows.length → S.ms (N + 1 + m + j) ≠ none) ∧ ∃ G, RowsOk w (Kok b S c) gs y.1 G ∧ Outs S c y.2 G
  | [], m, gs, y, hl, _, h => by
    rw [outRows] at h
    simp only [Tr.ev, Option.some.injEq] at h
    subst h
    obtain rfl : gs = [] := List.eq_nil_of_length_eq_zero hl
    exact ⟨fun j hj => by simp at hj, [], ⟨rfl, rfl⟩, Outs.nil⟩
  | r :: rows, m, [], y, hl, _, _ => by simp at hl
  | r :: rows, m, g :: gs, y, hl, hg, h => by
    rw [outRows] at h
    simp only [Tr.ev] at h
    split at h
    · rename_i hn
      simp only [Tr.ev, ev_bind, Option.bind_eq_some_iff, Option.some.injEq] at h
      obtain ⟨y1, hy1, y2, hy2, rfl⟩ := h
      obtain ⟨cs, e, fr, h1, h2, h3, h4⟩ := hi.ms _ _ hn
      have hgm : c.mb (N + 1 + m) = g := by rw [← hN]; exact hi.an m g (by have := hg 0 g rfl; simpa using this)
      obtain ⟨G, k1, k2⟩ := outRow_ok hi (N + 1 + m) r 0 cs.toList (by simpa using h2) (fun j v hv => by rw [Nat.zero_add]; exact h4 j v (by simpa using hv)) hy1
      obtain ⟨q1, H, m1, m2⟩ := outRows_ok hi hN rows (m + 1) gs (by simpa using hl) (fun j g' hg' => by
        have := hg (j + 1) g' (by simpa using hg')
        rwa [show m + (j + 1) = m + 1 + j by omega] at this) hy2
      refine ⟨fun j hj => ?_, G ++ H, ⟨y1.1, y2.1, cs, e, fr, G, H, rfl, rfl, by rw [← hgm]; exact h1, h3, k1, m1⟩, Outs.append hi k2 m2⟩
      cases j with
      | zero => rw [Nat.add_zero, hn]; simp
      | succ j =>
        have := q1 j (by simpa using hj)
        rwa [show N + 1 + (m + 1) + j = N + 1 + m + (j + 1) by omega] at this
    · simp [Tr.ev] at h
end
theorem msU_at : ∀ (l : List (Nat × List Leaf)) (S : St), (l.map (·.1)).Nodup → (S.ups (l.map fun p => .ms p.1 p.2)).ow = S.ow ∧ (S.ups (l.map fun p => .ms p.1 p.2)).sl = S.sl ∧
    (∀ k, (S.ups (l.map fun p => .ms p.1 p.2)).ms k = match find l k with | some r => some r.length | none => S.ms k) ∧ ∀ k i, (S.ups (l.map fun p => .ms p.1 p.2)).mc k i = match find l k with | some r => r.getD i .no | none => S.mc k i
  | [], S, _ => ⟨rfl, rfl, fun _ => rfl, fun _ _ => rfl⟩
  | p :: l, S, h => by
    rw [List.map_cons, List.nodup_cons] at h
    obtain ⟨h1, h2, h3, h4⟩ := msU_at l (S.up (.ms p.1 p.2)) h.2
    obtain ⟨i0, row⟩ := p
    refine ⟨h1, h2, fun k => ?_, fun k i => ?_⟩
    · show ((S.up (.ms i0 row)).ups (l.map fun p => .ms p.1 p.2)).ms k = _
      rw [h3]
      simp only [find]
      by_cases hk : k = i0
      · subst hk; rw [find_none h.1, if_pos rfl]; simp [St.up]
      · rw [if_neg hk]
        have : (S.up (.ms i0 row)).ms k = S.ms k := by show (if k = i0 then _ else S.ms k) = _; rw [if_neg hk]
        rw [this]
    · show ((S.up (.ms i0 row)).ups (l.map fun p => .ms p.1 p.2)).mc k i = _
      rw [h4]
      simp only [find]
      by_cases hk : k = i0
      · subst hk; rw [find_none h.1, if_pos rfl]; simp [St.up]
      · rw [if_neg hk]
        have : (S.up (.ms i0 row)).mc k i = S.mc k i := by show (if k = i0 then _ else S.mc k i) = _; rw [if_neg hk]
        rw [this]
theorem putSlots_at : ∀ (xs : List S1) (n : Nat) (S : St), (putSlots xs n S).ow = S.ow ∧ (putSlots xs n S).ms = S.ms ∧ (putSlots xs n S).mc = S.mc ∧
    ∀ i, (putSlots xs n S).sl i = if n ≤ i then (match xs[i - n]? with | some x => .s x | none => S.sl i) else S.sl i
  | [], n, S => ⟨rfl, rfl, rfl, fun i => by split <;> rfl⟩
  | x :: xs, n, S => by
    obtain ⟨h1, h2, h3, h4⟩ := putSlots_at xs (n + 1) (S.put n (.s x))
    refine ⟨h1, h2, h3, fun i => ?_⟩
    show (putSlots xs (n + 1) (S.put n (.s x))).sl i = _
    rw [h4]
    by_cases hi : n + 1 ≤ i
    · rw [if_pos hi, if_pos (by omega), show i - n = (i - (n + 1)) + 1 by omega, List.getElem?_cons_succ]
      have : (S.put n (.s x)).sl i = S.sl i := by show (if i = n then _ else S.sl i) = _; rw [if_neg (by omega)]
      rw [this]
    · rw [if_neg hi]
      by_cases hin : i = n
      · subst hin
        rw [if_pos (Nat.le_refl _), Nat.sub_self]
        show (if i = i then SV.s x else S.sl i) = _
        rw [if_pos rfl]; rfl
      · rw [if_neg (by omega)]
        show (if i = n then _ else S.sl i) = _
        rw [if_neg hin]
theorem RowsOk.len {w : World} {K : Nat → Prop} : ∀ {ms : List Nat} {rs F}, RowsOk w K ms rs F → rs.length = ms.length
  | [], _, _, h => by rw [h.1]; rfl
  | _ :: _, _, _, ⟨_, _, _, _, _, _, _, e1, _, _, _, _, h⟩ => by rw [e1]; simp [RowsOk.len h]
theorem All2.map_right {α β : Type} {p : α → β → Prop} {as bs} (h : All2 p as bs) {i : Nat} {x : β} (hx : bs[i]? = some x) : ∃ a, as[i]? = some a ∧ p a x := by
  have hlt : i < as.length := by rw [h.len]; exact (List.getElem?_eq_some_iff.1 hx).1
  obtain ⟨y, hy, hp⟩ := h.get (List.getElem?_eq_getElem hlt)
  rw [hx] at hy
  injection hy with hy
  subst hy
  exact ⟨_, List.getElem?_eq_getElem hlt, hp⟩
theorem start_ok {N : Nat} {as : List A1} {rows : List (List ALeaf)} {S : St} (h : start N as rows = some S) {w : World} {vals : List Value} {Ro : Nat → Prop} {ms F1 F2 : List Nat} (hA : FL (A1Ok w Ro ms) as vals F1) (hR : RowsOk w Ro ms rows F2)
    (hnd : (ms ++ (F1 ++ F2)).Nodup) (hlt : ∀ g, g ∈ ms ++ (F1 ++ F2) → g < w.heap.size ∧ ¬ Ro g) (hN : vals.length ≤ N) (fx : List (Nat × Value)) (hfx : ∀ p, p ∈ fx → vals[p.1]? = some p.2) (hgb : GlF w ∧ ∀ g, glo g → Ro g ∧ ¬ g ∈ ms ++ (F1 ++ F2)) :
    Sim ⟨w, Ro, fun g => g ∈ ms ++ (F1 ++ F2), N + 1, ms, fx, hgb⟩ N S ⟨vals.toArray ++ Array.replicate (N - vals.length) undef, []⟩ w := by
  unfold start at h
  split at h
  · rename_i vs rs hv hr
    split at h
    · rename_i hu
      injection h with h
      have hlen := hR.len
      generalize hK : (List.range rows.length).map (N + 1 + ·) = K at hv hr
      let mb : Nat → Nat := fun κ => ms.getD (κ - (N + 1)) 0
      have hmb : K.map mb = ms := by
        rw [← hK, List.map_map, hlen]
        apply List.ext_getElem?
        intro i
        rw [List.getElem?_map]
        by_cases hi : i < ms.length
        · rw [List.getElem?_range hi]
          simp only [Option.map_some, Function.comp, mb]
          rw [Nat.add_sub_cancel_left, List.getD_eq_getElem?_getD, List.getElem?_eq_getElem hi]; rfl
        · rw [List.getElem?_eq_none (by simpa using Nat.le_of_not_lt hi), List.getElem?_eq_none (by omega)]; rfl
      have hKn : K.Nodup := by
        rw [← hK]
        exact List.Pairwise.map _ (fun a b h => by omega) List.nodup_range
      rw [← hmb] at hA hR
      obtain ⟨n1, a1, a2⟩ := backVals_ok K mb as _ hA hv
      obtain ⟨b1, b2, n2, b3, b4⟩ := backRows_ok mb K rows _ hR hr
      rw [hmb] at hA hR
      have hall := a1.append b3
      have hnl : n1.length = vs.2.length := a1.len
      have hkeys := unlike_nodup hu
      have hFn : (F1 ++ F2).Nodup := (List.nodup_append.1 hnd).2.1
      generalize hl : vs.2 ++ rs.2 = l at *
      generalize hns : n1 ++ n2 = ns at *
      let news : Nat → Option New := fun k => find ((l.map (·.1)).zip ns) k
      let c : Cc := ⟨mb, fun k => match news k with | some n => n.h | none => undef, fun k => match news k with | some n => n.F | none => []⟩
      obtain ⟨o1, o2, o3, o4⟩ := ownsU_at l blank hkeys
      obtain ⟨m1, m2, m3, m4⟩ := msU_at rs.1 (blank.ups (ownsU l)) (by rw [b1]; exact hKn)
      obtain ⟨p1, p2, p3, p4⟩ := putSlots_at vs.1 0 ((blank.ups (ownsU l)).ups (rs.1.map fun p => .ms p.1 p.2))
      have how : ∀ k, S.ow k = match news k with | some n => some n.o | none => none := by
        intro k
        rw [← h, p1, m1, o4]
        have := news_find hall k
        refine Eq.trans ?_ this.symm
        cases find l k <;> rfl
      have hms : ∀ k, S.ms k = match find rs.1 k with | some r => some r.length | none => none := by
        intro k
        rw [← h, p2, m3, o1]; rfl
      have hmc : ∀ k i, S.mc k i = match find rs.1 k with | some r => r.getD i .no | none => .no := by
        intro k i
        rw [← h, p3, m4, o2]; rfl
      have hsl : ∀ i, S.sl i = match vs.1[i]? with | some x => .s x | none => .no := by
        intro i
        rw [← h, p4, if_pos (Nat.zero_le _), Nat.sub_zero, m2, o3]; rfl
      have hHv : Hv S c l ns := by
        intro k n hk
        have hf : news k = some n := find_mem (by rw [List.map_fst_zip (by rw [hall.len]; simp)]; exact hkeys) hk
        refine ⟨by rw [how, hf], ?_⟩
        show (match news k with | some n => n.h | none => undef) = _
        rw [hf]
      have hmsK : ∀ k, k ∈ K ↔ S.ms k ≠ none := by
        intro k
        rw [hms]
        constructor
        · intro hk
          rw [← b1] at hk
          obtain ⟨p, hp, rfl⟩ := List.mem_map.1 hk
          rw [find_mem (by rw [b1]; exact hKn) hp]; simp
        · intro hk
          cases hf : find rs.1 k with
          | none => rw [hf] at hk; exact absurd rfl hk
          | some r => rw [← b1]; exact List.mem_map.2 ⟨_, find_some_mem hf, rfl⟩
      have hnw : ∀ k, S.ow k ≠ none → ∃ n, news k = some n ∧ S.ow k = some n.o ∧ c.hv k = n.h ∧ c.F k = n.F := by
        intro k hk
        rw [how] at hk
        cases hf : news k with
        | none => rw [hf] at hk; exact absurd rfl hk
        | some n => exact ⟨n, rfl, by rw [how, hf], by show (match news k with | some n => n.h | none => undef) = _; rw [hf], by show (match news k with | some n => n.F | none => []) = _; rw [hf]⟩
      have hmbms : ∀ k, S.ms k ≠ none → c.mb k ∈ ms := fun k hk => by rw [← hmb]; exact List.mem_map.2 ⟨k, (hmsK k).2 hk, rfl⟩
      have hOw : ∀ g, Owned S c g → g ∈ ms ++ (F1 ++ F2) := by
        rintro g (⟨k, hk, rfl⟩ | ⟨k, hk, hg⟩)
        · exact List.mem_append.2 (.inl (hmbms k hk))
        · obtain ⟨n, k1, k2, k3, k4⟩ := hnw k hk
          rw [k4] at hg
          exact List.mem_append.2 (.inr ((news_in hall k n k1).2.1 g hg))
      have hKok : ∀ g, g < w.heap.size → Ro g → Kok ⟨w, Ro, fun g => g ∈ ms ++ (F1 ++ F2), N + 1, ms, fx, hgb⟩ S c g := fun g _ hg => ⟨.inl hg, fun ho => (hlt g (hOw g ho)).2 hg⟩
      have hmsN := (List.nodup_append.1 hnd).1
      have hdis := (List.nodup_append.1 hnd).2.2
      refine ⟨c, ⟨?_, ?_, ?_, ?_, ?_, ?_, ?_, fun _ _ _ => rfl, rfl, rfl, rfl, Nat.le_refl _, ?_⟩, ⟨fun i => ?_, ?_, rfl⟩, ?_⟩
      · intro k n hn
        have hk : S.ms k ≠ none := by rw [hn]; simp
        rw [hms] at hn
        cases hf : find rs.1 k with
        | none => rw [hf] at hn; cases hn
        | some row =>
          rw [hf] at hn
          simp only [Option.some.injEq] at hn
          have hb := hHv
          rw [← hl, ← hns] at hb
          obtain ⟨cs, e, fr, h1, h2, h3⟩ := b4 S c (Hv.right hnl hb) (k, row) (find_some_mem hf)
          refine ⟨cs, e, fr, h1, by rw [← hn, h3.len]; simp, h2, fun i u hu => ?_⟩
          obtain ⟨lf, q1, q2⟩ := All2.map_right h3 (by rw [Array.getElem?_toList]; exact hu)
          rw [hmc, hf]
          simp only
          rw [List.getD_eq_getElem?_getD, q1]
          exact LeafOk.mono hKok q2
      · intro k o ho
        obtain ⟨n, k1, k2, k3, k4⟩ := hnw k (by rw [ho]; simp)
        rw [ho] at k2
        injection k2 with k2
        subst k2
        rw [k3, k4]
        exact Rp.mono hKok _ _ (news_in hall k n k1).2.2.2
      · intro k hk
        obtain ⟨n, k1, k2, k3, k4⟩ := hnw k hk
        rw [k4]; exact (news_in hall k n k1).2.2.1 hFn
      · intro k k' hne h1 h2 g hg
        obtain ⟨n, k1, _, _, k4⟩ := hnw k h1
        obtain ⟨n', q1, _, _, q4⟩ := hnw k' h2
        rw [k4] at hg
        rw [q4]
        exact news_dis hall hFn k n k' n' hne k1 q1 g hg
      · intro k k' hne h1 h2 he
        have h1' := (hmsK k).2 h1
        have h2' := (hmsK k').2 h2
        rw [← hK] at h1' h2'
        obtain ⟨m, hm, rfl⟩ := List.mem_map.1 h1'
        obtain ⟨m', hm', rfl⟩ := List.mem_map.1 h2'
        have hm := List.mem_range.1 hm
        have hm' := List.mem_range.1 hm'
        have he' : ms.getD (N + 1 + m - (N + 1)) 0 = ms.getD (N + 1 + m' - (N + 1)) 0 := he
        rw [Nat.add_sub_cancel_left, Nat.add_sub_cancel_left, List.getD_eq_getElem?_getD, List.getD_eq_getElem?_getD, List.getElem?_eq_getElem (by omega), List.getElem?_eq_getElem (by omega)] at he'
        simp only [Option.getD_some] at he'
        have hpw := List.pairwise_iff_getElem.1 hmsN
        rcases Nat.lt_trichotomy m m' with h | h | h
        · exact hpw m m' (by omega) (by omega) h he'
        · exact hne (by rw [h])
        · exact hpw m' m (by omega) (by omega) h he'.symm
      · intro k k' h1 h2 hg
        obtain ⟨n, k1, _, _, k4⟩ := hnw k' h2
        rw [k4] at hg
        exact hdis _ (hmbms k h1) _ ((news_in hall k' n k1).2.1 _ hg) rfl
      · intro g hg
        have := hOw g hg
        exact ⟨(hlt g this).1, .inr this⟩
      · intro m g hg
        show ms.getD (N + 1 + m - (N + 1)) 0 = g
        rw [Nat.add_sub_cancel_left, List.getD_eq_getElem?_getD, hg]; rfl
      · have hb := hHv
        rw [← hl, ← hns] at hb
        have hsv := a2 S c (Hv.left hnl hb) (fun k hk => (hmsK k).1 hk) (fun _ _ => rfl)
        rw [hsl]
        cases hx : vs.1[i]? with
        | none => trivial
        | some x =>
          obtain ⟨v, hv1, hv2⟩ := hsv.get hx
          have hlt' : i < vals.length := (List.getElem?_eq_some_iff.1 hv1).1
          have : (vals.toArray ++ Array.replicate (N - vals.length) undef).getD i undef = v := by
            rw [Array.getD_eq_getD_getElem?, Array.getElem?_append_left (by simpa using hlt'), List.getElem?_toArray, hv1]; rfl
          rw [this]
          exact S1Ok.mono hKok hv2
      · simp only [Array.size_append, List.size_toArray, Array.size_replicate]; omega
      · intro p hp
        have hp' := hfx p hp
        rw [Array.getD_eq_getD_getElem?, Array.getElem?_append_left (by simpa using (List.getElem?_eq_some_iff.1 hp').1), List.getElem?_toArray, hp']; rfl
    · cases h
  · cases h
theorem outLents_ok {b : Base} {S : St} {c : Cc} {w : World} {N : Nat} {a : Act} (hi : Inv b S w c) (hs : Slots N S c w (Kok b S c) a) {vals : List Value} : ∀ (ln : List (Nat × Nat)) {y : List ((Nat × Nat) × ALeaf) × List Nat},
    (∀ p, p ∈ ln → vals[p.1]? = some (a.tmps.getD p.1 undef)) → (outLents S ln).ev S = some y → ∃ G, LentOk w (Kok b S c) vals y.1 G ∧ Outs S c y.2 G
  | [], y, _, h => by
    simp only [outLents, Tr.ev, Option.some.injEq] at h
    subst h
    exact ⟨[], rfl, Outs.nil⟩
  | p :: ps, y, hv, h => by
    simp only [outLents] at h
    split at h
    · rename_i k hlf
      simp only [ev_bind, Option.bind_eq_some_iff, Tr.ev, Option.some.injEq] at h
      obtain ⟨o, ho, y', hy', rfl⟩ := h
      obtain ⟨G2, h1, h2⟩ := outLents_ok hi hs ps (fun q hq => hv q (by simp [hq])) hy'
      have hvp := hv p (by simp)
      obtain ⟨v, hval, hlk⟩ : ∃ v, valAt vals p = some v ∧ LeafOk S c w (Kok b S c) (.vw k [] none) v := by
        unfold lentAt at hlf
        have hok := hs.ok p.1
        split at hlf
        · rename_i l hl
          rw [hl] at hok
          split at hlf
          · rename_i hp2
            subst hlf
            have hsl : LeafOk S c w (Kok b S c) (.vw k [] none) (a.tmps.getD p.1 undef) := hok
            refine ⟨_, ?_, hsl⟩
            obtain ⟨A, n, cap, e⟩ := vw_slice hi hsl
            unfold valAt
            rw [hvp, e]
            simp [hp2]
          · cases hlf
        · rename_i ls hl
          rw [hl] at hok
          obtain ⟨vs, e, hall⟩ := hok
          rw [List.getD_eq_getElem?_getD] at hlf
          cases hj : ls[p.2]? with
          | none => rw [hj] at hlf; cases hlf
          | some l =>
            rw [hj] at hlf
            simp only [Option.getD_some] at hlf
            subst hlf
            obtain ⟨v, q1, q2⟩ := hall.get hj
            refine ⟨v, ?_, q2⟩
            unfold valAt
            rw [hvp, e]
            simpa using q1
        · cases hlf
      obtain ⟨g1, F', g2, g3, g4⟩ := view_own hi hlk ho
      refine ⟨F' ++ G2, ⟨v, F', G2, rfl, hval, ⟨g2, fun h => by simp [Ty.own] at h⟩, h1⟩, ?_⟩
      exact Outs.append hi (k := [k]) ⟨fun k' hk' => (by simp only [List.mem_singleton] at hk'; subst hk'; exact g1), fun _ => g4, fun g hg => ⟨k, by simp, g3 g hg⟩⟩ h2
    · simp [Tr.ev] at h
theorem vfun_ok {P : Program} {E : Env} (hE : EnvOk P E) {f : FuncId} {fn : Func} {J : Joins} {ann : Ann} {ln : List (Nat × Nat)} {as : List A1} {rows : List (List ALeaf)} {r : Res} (hf : P.funcs[f]? = some fn) (hname : (fn.name == "runtime.NumGoroutine") = false)
    (h : (vfun E fn J ann ln as rows).run = some r) : CallSound P f as rows r := by
  unfold vfun at h
  split at h
  · rename_i c hb
    split at h
    · rename_i hlen
      obtain ⟨hlen, hln⟩ := hlen
      split at h
      · rename_i S hS
        rw [run_bind, Option.bind_eq_some_iff] at h
        obtain ⟨⟨e, S1⟩, h1, h2⟩ := h
        refine ⟨⟨fn, hf, hname, by rw [hb]; rfl⟩, ?_⟩
        intro w vals Ro ms F1 F2 hA hR hnd hlt hgl
        have hgb : GlF w ∧ ∀ g, glo g → Ro g ∧ ¬ g ∈ ms ++ (F1 ++ F2) := ⟨hgl.1, fun g hg => ⟨hgl.2 g hg, fun ho => (hlt g ho).2 (hgl.2 g hg)⟩⟩
        have hvl := hA.len
        generalize hfx : (vals.zipIdx.filter fun p => E.fx.contains p.2).map (fun p => (p.2, p.1)) = fx
        have hfx1 : ∀ i v, (i, v) ∈ fx ↔ vals[i]? = some v ∧ E.fx.contains i = true := by
          intro i v
          rw [← hfx]
          simp only [List.mem_map, List.mem_filter, Prod.exists, Prod.mk.injEq]
          constructor
          · rintro ⟨x, j, ⟨h1, h2⟩, rfl, rfl⟩
            exact ⟨by simpa using List.mk_mem_zipIdx_iff_getElem?.1 h1, h2⟩
          · rintro ⟨h1, h2⟩
            exact ⟨v, i, ⟨List.mk_mem_zipIdx_iff_getElem?.2 (by simpa using h1), h2⟩, rfl, rfl⟩
        have hF : ∀ p, p ∈ fx → E.fx.contains p.1 = true := fun p hp => ((hfx1 p.1 p.2).1 hp).2
        have hsim := start_ok hS hA hR hnd hlt (by omega) fx (fun p hp => ((hfx1 p.1 p.2).1 hp).1) hgb
        have hml := hR.len
        have hfin : ∀ a' w', Sim ⟨w, Ro, fun g => g ∈ ms ++ (F1 ++ F2), fn.ntmps + 1, ms, fx, hgb⟩ fn.ntmps S1 a' w' → (finish E fn.ntmps fn rows ln S1).run = some r →
            a'.defers = [] ∧ ∃ v, (results fn a'.tmps).run P w' = .ok v w' ∧ ∃ v', Ending.returned v = .returned v' ∧ CallPost w Ro ms (F1 ++ F2) vals r v' w' := by
          rintro a' w' ⟨c', hi, hsl, hafx⟩ hfi
          refine ⟨hsl.d, ?_⟩
          unfold finish at hfi
          rw [run_bind, Option.bind_eq_some_iff] at hfi
          obtain ⟨⟨⟨y1, y2, y3⟩, lg⟩, g1, g2⟩ := hfi
          split at g2
          · rename_i hu
            simp only [Tr.run, Option.some.injEq] at g2
            subst g2
            have g3 := at_ev S1 _ [] g1
            rw [ev_bind, Option.bind_eq_some_iff] at g3
            obtain ⟨z1, hz1, g3⟩ := g3
            rw [ev_bind, Option.bind_eq_some_iff] at g3
            obtain ⟨z2, hz2, g3⟩ := g3
            rw [ev_bind, Option.bind_eq_some_iff] at g3
            obtain ⟨z3, hz3, g3⟩ := g3
            simp only [Tr.ev, Option.some.injEq, Prod.mk.injEq] at g3
            obtain ⟨e1, e2, e3⟩ := g3
            subst e1 e2 e3
            obtain ⟨vs, G1, k1, k2, k3⟩ := outVals_ok (P := P) hE.ti rfl hml.symm hi hsl _ _ hz1
            obtain ⟨q0, G2, q1, q2⟩ := outRows_ok hi rfl rows 0 ms hml.symm (fun j g hg => by rw [Nat.zero_add]; exact hg) hz2
            obtain ⟨G3, r1, r2⟩ := outLents_ok hi hsl (vals := vals) ln (fun p hp => by
              have := List.all_eq_true.1 hln p hp
              simp only [Bool.and_eq_true, decide_eq_true_eq] at this
              have hlv : p.1 < vals.length := by omega
              have hm := (hfx1 p.1 vals[p.1]).2 ⟨List.getElem?_eq_getElem hlv, this.1⟩
              rw [hafx _ hm]
              exact List.getElem?_eq_getElem hlv) hz3
            have hout := Outs.append hi k3 (Outs.append hi q2 r2)
            have hmsO : ∀ g, g ∈ ms → ∃ k, S1.ms k ≠ none ∧ c'.mb k = g := by
              intro g hg
              obtain ⟨m, hm, hmg⟩ := List.getElem_of_mem hg
              have h3 : ms[m]? = some g := by rw [List.getElem?_eq_getElem hm, hmg]
              refine ⟨fn.ntmps + 1 + m, ?_, hi.an m g h3⟩
              have := q0 m (by omega)
              rwa [Nat.add_zero] at this
            have hGO : ∀ g, g ∈ G1 ++ (G2 ++ G3) → ∃ k, S1.ow k ≠ none ∧ g ∈ c'.F k := by
              intro g hg
              obtain ⟨k, h3, h4⟩ := hout.2.2 g hg
              exact ⟨k, hout.1 k h3, h4⟩
            have hKK : ∀ g, g < w'.heap.size → Kok ⟨w, Ro, fun g => g ∈ ms ++ (F1 ++ F2), fn.ntmps + 1, ms, fx, hgb⟩ S1 c' g → ((Ro g ∨ w.heap.size ≤ g ∨ g ∈ F1 ++ F2) ∧ g ∉ ms ++ (G1 ++ (G2 ++ G3))) := by
              rintro g _ ⟨h3, h4⟩
              have hnm : g ∉ ms := fun hg => by
                obtain ⟨k, h5, h6⟩ := hmsO g hg
                exact h4 (.inl ⟨k, h5, h6⟩)
              refine ⟨h3.imp id fun h3 => h3.imp id fun h3 => (List.mem_append.1 h3).elim (fun hg => absurd hg hnm) id, fun hg => ?_⟩
              rcases List.mem_append.1 hg with hg | hg
              · obtain ⟨k, h5, h6⟩ := hmsO g hg
                exact h4 (.inl ⟨k, h5, h6⟩)
              · obtain ⟨k, h5, h6⟩ := hGO g hg
                exact h4 (.inr ⟨k, h5, h6⟩)
            have hres : (results fn a'.tmps).run P w' = .ok (tupledV vs) w' := by
              have he : results fn a'.tmps = (do let vs ← fn.results.mapM (readRes a'.tmps); pure (if h : vs.size = 1 then vs[0] else .tuple vs)) := rfl
              have hm : (fn.results.mapM (readRes a'.tmps)).run P w' = .ok vs.toArray w' := by
                rw [Array.mapM_eq_mapM_toList]
                simp [k1]
              rw [he]
              rw [Sem.run_bind, hm]
              simp only [Result.andThen_ok, Sem.run_pure]
              congr 1
              match vs with
              | [] => rfl
              | [v] => rfl
              | _ :: _ :: _ => rfl
            refine ⟨_, hres, _, rfl, vs, G1, G2, G3, rfl, k2.mono fun _ _ _ h => A1Ok.mono hKK h, RowsOk.mono hKK q1, LentOk.mono hKK r1, ?_, ?_, ?_⟩
            · refine List.nodup_append.2 ⟨(List.nodup_append.1 hnd).1, hout.2.1 hu, ?_⟩
              rintro g hg g' hg' rfl
              obtain ⟨k, h5, h6⟩ := hmsO g hg
              obtain ⟨k', h7, h8⟩ := hGO g hg'
              exact hi.mo k k' h5 h7 (by rw [h6]; exact h8)
            · intro g hg
              obtain ⟨k, h5, h6⟩ := hGO g hg
              obtain ⟨h7, h8⟩ := hi.fr g (.inr ⟨k, h5, h6⟩)
              refine ⟨h7, ?_⟩
              rcases h8 with h8 | h8
              · exact .inr h8
              · rcases List.mem_append.1 h8 with h8 | h8
                · obtain ⟨k', h9, h10⟩ := hmsO g h8
                  exact absurd h6 (h10 ▸ hi.mo k' k h9 h5)
                · exact .inl h8
            · exact ⟨hi.os, hi.tape, hi.output, hi.size, fun g hg hn => hi.fix g hg hn⟩
          · simp [Tr.run] at g2
        refine calls_of_wp hf hb ?_
        rw [List.size_toArray]
        obtain ⟨S0, h0, hw⟩ := joined_ok (b := ⟨w, Ro, fun g => g ∈ ms ++ (F1 ++ F2), fn.ntmps + 1, ms, fx, hgb⟩) (N := fn.ntmps) h1
        refine vcode_ok hE hF (b := ⟨w, Ro, fun g => g ∈ ms ++ (F1 ++ F2), fn.ntmps + 1, ms, fx, hgb⟩) (Nat.lt_succ_self _) c h0 hsim fun a' w' hs'' => ?_
        have hs' := hw hs''
        cases e with
        | n => exact hfin a' w' hs' h2
        | r => exact hfin a' w' hs' h2
        | x id => simp [Tr.run] at h2
      · simp [Tr.run] at h
    · simp [Tr.run] at h
  · simp [Tr.run] at h
end Go.V

namespace Go.V
open Go.ChangeShapes Go.RowKit
theorem law_calls {P : Program} {f : FuncId} {as : List A1} {vals : List Value} {w : World} (h : CallSound P f as [] ⟨[.one ⟨.bool, true⟩], [], []⟩) (ha : FL (A1Ok w (fun _ => True) []) as vals []) (hg : GlF w) :
    Calls P f vals.toArray w fun e w' => e = .returned (.bool true) ∧ Below w.heap.size w w' := by
  refine Calls.mono (h.2 w vals (fun _ => True) [] [] [] ha ⟨rfl, rfl⟩ (by simp) (fun g hg => by simp at hg) ⟨hg, fun _ _ => trivial⟩) ?_
  rintro e w' ⟨v, rfl, vs, F1, F2, F3, rfl, h1, _, _, _, _, h5⟩
  obtain ⟨u, us, G1, G2, rfl, _, h6, h7⟩ := h1
  obtain ⟨rfl, _⟩ := h7
  have : u = .bool true := by
    have := h6.1
    simp only [Rp] at this
    have h8 := this.1
    injection h8
  subst this
  exact ⟨rfl, h5.os, h5.tape, h5.output, h5.size, fun k hk => h5.same k hk (by simp)⟩
end Go.V

namespace Go.V
structure Ans where
  β : Type
  o : Option β
  g : β → Res
structure Kn where
  f : FuncId
  mv : List Nat
  ca : List A1 → List (List ALeaf) → Option Ans
  fr : List (List Ty) := []
def mvOf : List Kn → FuncId → List Nat
  | [], _ => []
  | k :: l, g => if g = k.f then k.mv else mvOf l g
def frOf : List Kn → FuncId → List (List Ty)
  | [], _ => []
  | k :: l, g => if g = k.f then k.fr else frOf l g
def caOf : List Kn → FuncId → List A1 → List (List ALeaf) → Tr Res
  | [], _, _, _ => .fail
  | k :: l, g, as, rows => if g = k.f then match k.ca as rows with
      | some a => .get a.β a.o fun y => .ret (a.g y)
      | none => caOf l g as rows
    else caOf l g as rows
def envOf (ti : TypeId → TI) (l : List Kn) (fx : List Nat) (hn : List (Nat × List Ty) := []) : Env := ⟨ti, mvOf l, frOf l, fx, caOf l, hn⟩
def KnOk (P : Program) (k : Kn) : Prop := ∀ as rows a, k.ca as rows = some a → ∀ y, a.o = some y → CallSound P k.f as rows (a.g y)
theorem caOf_ok {P : Program} : ∀ (l : List Kn), (∀ k ∈ l, KnOk P k) → ∀ f as rows S r, (caOf l f as rows).ev S = some r → CallSound P f as rows r
  | [], _, f, as, rows, S, r, h => by simp [caOf, Tr.ev] at h
  | k :: l, hk, f, as, rows, S, r, h => by
    rw [caOf] at h
    split at h
    · rename_i hf
      subst hf
      split at h
      · rename_i a ha
        simp only [Tr.ev, Option.bind_eq_some_iff, Option.some.injEq] at h
        obtain ⟨y, hy, rfl⟩ := h
        exact hk k (by simp) as rows a ha y hy
      · exact caOf_ok l (fun k h => hk k (by simp [h])) _ as rows S r h
    · exact caOf_ok l (fun k h => hk k (by simp [h])) f as rows S r h
theorem envOf_ok {P : Program} {ti : TypeId → TI} (ht : TabOk P ti) (hm : P.follows .mixedOrders = true) (l : List Kn) (fx : List Nat) (h : ∀ k ∈ l, KnOk P k) (hn : List (Nat × List Ty) := []) : EnvOk P (envOf ti l fx hn) :=
  ⟨ht, hm, fun f as rows S r hr => caOf_ok l h f as rows S r hr⟩
def allOk (P : Program) : List TI → Nat → Bool
  | [], _ => true
  | x :: l, n => tyOk P n x && allOk P l (n + 1)
theorem allOk_at {P : Program} : ∀ (l : List TI) (n : Nat), allOk P l n = true → ∀ t, tyOk P (n + t) (l.getD t .other) = true
  | [], n, _, t => by simp [tyOk]
  | x :: l, n, h, t => by
    simp only [allOk, Bool.and_eq_true] at h
    cases t with
    | zero => exact h.1
    | succ t => have := allOk_at l (n + 1) h.2 t; rw [show n + (t + 1) = n + 1 + t by omega]; exact this
theorem tabOf (P : Program) (l : List TI) (h : allOk P l 0 = true) : TabOk P (fun t => l.getD t .other) := fun t => by
  have := allOk_at l 0 h t; rwa [Nat.zero_add] at this
end Go.V

namespace Go.V
open Go.ChangeShapes Go.WideShapes Go.ChangeAt Go.RowKit
def Fits : (t : Ty) → t.D → Prop
  | .int k, n => (Lit.int k n).wf = true
  | .str, s => List.length s ≤ maxLen
  | .pair a b, x => Fits a x.1 ∧ Fits b x.2
  | .sl _ _ r, xs => List.length xs ≤ maxLen ∧ ∀ x ∈ (show List r.D from xs), Fits r x
  | _, _ => True
def rowOfF (ti : TypeId → TI) : List Field → Option (List Ty)
  | [] => some []
  | f :: fs => match (ti f.type).cells, rowOfF ti fs with
    | some a, some b => some (a ++ b)
    | _, _ => none
def offsF (ti : TypeId → TI) : List Field → Nat → Bool
  | [], _ => true
  | f :: fs, n => f.offset == n && offsF ti fs (n + (((ti f.type).cells).getD []).length)
def tyOk2 (P : Program) (ti : TypeId → TI) (t : TypeId) : TI → Bool
  | .slice e ts _ => decide ((ti e).cells = some ts)
  | .struct _ row _ => match P.underlying t with
    | some (.struct fields) => decide (rowOfF ti fields.toList = some row) && offsF ti fields.toList 0
    | _ => false
  | _ => true
def allOk2 (P : Program) (ti : TypeId → TI) : List TI → Nat → Bool
  | [], _ => true
  | x :: l, n => tyOk2 P ti n x && allOk2 P ti l (n + 1)
theorem allOk2_at {P : Program} {ti : TypeId → TI} : ∀ (l : List TI) (n : Nat), allOk2 P ti l n = true → ∀ t, tyOk2 P ti (n + t) (l.getD t .other) = true
  | [], n, _, t => by simp [tyOk2]
  | x :: l, n, h, t => by
    simp only [allOk2, Bool.and_eq_true] at h
    cases t with
    | zero => exact h.1
    | succ t => have := allOk2_at l (n + 1) h.2 t; rw [show n + (t + 1) = n + 1 + t by omega]; exact this
theorem tabOf2 (P : Program) (l : List TI) (h : allOk2 P (fun t => l.getD t .other) l 0 = true) : ∀ t, tyOk2 P (fun t => l.getD t .other) t (l.getD t .other) = true := fun t => by
  have := allOk2_at l 0 h t; rwa [Nat.zero_add] at this
section
variable {H : Type} {enc : TypeId × Value → H} {P : Program} {w : World} {ti : TypeId → TI}
abbrev Any : Nat → Prop := fun _ => True
theorem row_of : ∀ (ts : List Ty) (ls : List ALeaf) (cs : List Value), ls.map (·.1) = ts.map Ty.frz → FL (ALOk w Any) ls cs [] → (∀ l ∈ ls, Fits l.1 l.2) →
    ∃ x : (rowTy ts).frz.D, Rp w Any (rowTy ts).frz x cs [] ∧ Fits (rowTy ts).frz x
  | [], ls, cs, h1, h2, _ => by
    obtain rfl : ls = [] := by simpa using h1
    obtain ⟨rfl, _⟩ := h2
    exact ⟨(), ⟨rfl, rfl⟩, trivial⟩
  | [t], ls, cs, h1, h2, h3 => by
    match ls, h1, h2, h3 with
    | [⟨t', x⟩], h1, h2, h3 =>
      simp only [List.map_cons, List.map_nil, List.cons.injEq, and_true] at h1
      subst h1
      obtain ⟨v, vs, F1, F2, rfl, e, k1, rfl, rfl⟩ := h2
      obtain rfl : F1 = [] := by simpa using e.symm
      exact ⟨x, k1.1, h3 ⟨t.frz, x⟩ (by simp)⟩
  | t :: u :: ts, ls, cs, h1, h2, h3 => by
    match ls, h1, h2, h3 with
    | ⟨t', x⟩ :: ls, h1, h2, h3 =>
      simp only [List.map_cons, List.cons.injEq] at h1
      obtain ⟨e1, e2⟩ := h1
      subst e1
      obtain ⟨v, vs, F1, F2, rfl, e, k1, k2⟩ := h2
      obtain ⟨rfl, rfl⟩ : F1 = [] ∧ F2 = [] := by simpa using e.symm
      obtain ⟨y, k3, k4⟩ := row_of (u :: ts) ls vs (by simpa using e2) k2 (fun l hl => h3 l (by simp [hl]))
      exact ⟨(x, y), ⟨[v], vs, [], [], rfl, rfl, k1.1, k3⟩, h3 ⟨t.frz, x⟩ (by simp), k4⟩
theorem trod_open (hT : TabOk P ti) (hT2 : ∀ t, tyOk2 P ti t (ti t) = true) : ∀ (fuel : Nat) (t : TypeId) (cs : List Value) (ts : List Ty) {x : DataW H × List MemPlace}, (ti t).cells = some ts →
    DataW.trod enc P w 0 (fun _ => true) true fuel t cs = some x → ∃ ls : List ALeaf, ls.map (·.1) = ts.map Ty.frz ∧ FL (ALOk w Any) ls cs [] ∧ ∀ l ∈ ls, Fits l.1 l.2 := by
  intro fuel
  induction fuel with
  | zero => intro t cs ts x _ h; simp [DataW.trod] at h
  | succ n ih =>
    intro t cs ts x hts h
    cases ht : ti t with
    | cell u =>
      rw [ht] at hts
      simp only [TI.cells, Option.some.injEq] at hts
      subst hts
      obtain ⟨⟨d, hd, hdd⟩, _⟩ := hT.cell ht
      cases u with
      | pt t => cases d <;> simp [descIs] at hdd
      | er => cases d <;> simp [descIs] at hdd
      | int k =>
        cases d <;> simp [descIs] at hdd
        subst hdd
        obtain ⟨m, rfl, _, hw⟩ := DataW.trod_int hd h
        exact ⟨[⟨.int k, m⟩], rfl, ⟨_, [], [], [], rfl, rfl, ⟨⟨rfl, rfl⟩, fun _ => rfl⟩, rfl, rfl⟩, fun l hl => by rw [List.mem_singleton.1 hl]; exact hw⟩
      | bool =>
        cases d <;> simp [descIs] at hdd
        obtain ⟨m, rfl, _⟩ := DataW.trod_bool hd h
        exact ⟨[⟨.bool, m⟩], rfl, ⟨_, [], [], [], rfl, rfl, ⟨⟨rfl, rfl⟩, fun _ => rfl⟩, rfl, rfl⟩, fun l hl => by rw [List.mem_singleton.1 hl]; exact trivial⟩
      | str =>
        cases d <;> simp [descIs] at hdd
        obtain ⟨⟨⟨s⟩⟩, rfl, _, hs⟩ := DataW.trod_string hd h
        exact ⟨[⟨.str, s⟩], rfl, ⟨_, [], [], [], rfl, rfl, ⟨⟨rfl, rfl⟩, fun _ => rfl⟩, rfl, rfl⟩, fun l hl => by rw [List.mem_singleton.1 hl]; exact (show List.length s ≤ maxLen by simpa [ByteArray.size] using hs)⟩
      | unit => simp [descIs] at hdd
      | pair a b => simp [descIs] at hdd
      | sl o e r => simp [descIs] at hdd
    | slice e ts' bytes =>
      rw [ht] at hts
      simp only [TI.cells, Option.some.injEq] at hts
      subst hts
      obtain ⟨hu, _, _, hlen, i, z, hi, hsz, _⟩ := hT.slice ht
      have he : (ti e).cells = some ts' := by have := hT2 t; rw [ht] at this; simpa [tyOk2] using this
      have hce : P.cellsOf e = ts'.length := by simp [Program.cellsOf, hi, hsz]
      rcases DataW.trod_slice hu h with ⟨rfl, _⟩ | ⟨a, len, cap, elems, rest, m, hfm, rfl, _, _, hl, hm, hel, hels, _⟩
      · refine ⟨[⟨.sl false e (rowTy ts').frz, []⟩], rfl, ⟨_, [], [], [], rfl, rfl, ⟨?_, fun _ => rfl⟩, rfl, rfl⟩, fun l hl => by rw [List.mem_singleton.1 hl]; exact ⟨Nat.zero_le _, fun _ h => by cases h⟩⟩
        exact ⟨rfl, none, 0, [], rfl, Nat.le_refl _, ⟨rfl, rfl⟩, .inl rfl⟩
      · obtain rfl : n = m := by omega
        have key : ∀ q, q ≤ len → ∃ (xs : List (rowTy ts').frz.D) (ws : List Value), xs.length = q ∧ ws.length = q * ts'.length ∧ RpL (Rp w Any (rowTy ts').frz) xs ws [] ∧
            (∀ j, j < ws.length → w.cell? (a.add j) = ws[j]?) ∧ (∀ x ∈ xs, Fits (rowTy ts').frz x) := by
          intro q
          induction q with
          | zero => intro _; exact ⟨[], [], rfl, by simp, ⟨rfl, rfl⟩, fun j hj => by simp at hj, fun _ h => by cases h⟩
          | succ q ihq =>
            intro hq
            obtain ⟨xs, ws, h1, h2, h3, h4, h5⟩ := ihq (by omega)
            have hq' := hels q (by omega)
            rw [List.getElem?_eq_getElem (by omega), Option.bind_eq_some_iff] at hq'
            obtain ⟨cs', hcs, hy⟩ := hq'
            obtain ⟨ls, k1, k2, k3⟩ := ih e cs' ts' he hy
            obtain ⟨x, k4, k5⟩ := row_of ts' ls cs' k1 k2 k3
            obtain ⟨_, c2, c3⟩ := World.cells?_some hcs
            refine ⟨xs ++ [x], ws ++ cs', by simp [h1], ?_, ?_, ?_, ?_⟩
            · rw [List.length_append, h2, c2, hce, Nat.succ_mul]
            · have := h3.append (show RpL (Rp w Any (rowTy ts').frz) [x] cs' [] from ⟨cs', [], [], [], by simp, rfl, k4, rfl, rfl⟩)
              simpa using this
            · intro j hj
              by_cases hjw : j < ws.length
              · rw [h4 j hjw, List.getElem?_append_left hjw]
              · rw [List.getElem?_append_right (by omega)]
                have := c3 (j - ws.length) (by rw [List.length_append] at hj; omega)
                rw [← this]
                congr 1
                rw [hce, h2, Addr.add_add]
                congr 1; omega
            · intro y hy
              rcases List.mem_append.1 hy with hy | hy
              · exact h5 y hy
              · rw [List.mem_singleton.1 hy]; exact k5
        obtain ⟨xs, ws, h1, h2, h3, h4, h5⟩ := key len (Nat.le_refl _)
        have hxl : List.length xs = len := h1
        refine ⟨[⟨.sl false e (rowTy ts').frz, xs⟩], rfl, ⟨_, [], [], [], rfl, rfl, ⟨?_, fun _ => rfl⟩, rfl, rfl⟩, fun l hl => by rw [List.mem_singleton.1 hl]; exact ⟨show List.length xs ≤ maxLen by omega, h5⟩⟩
        refine ⟨rfl, some a, cap, ws, by rw [hxl], by rw [hxl]; exact hl, h3, ?_⟩
        rcases Nat.eq_zero_or_pos len with hz | hz
        · left; exact List.eq_nil_of_length_eq_zero (show List.length xs = 0 by omega)
        · right
          refine ⟨a, rfl, trivial, ?_, h4⟩
          have h0 := hels 0 hz
          rw [List.getElem?_eq_getElem (by omega), Option.bind_eq_some_iff] at h0
          obtain ⟨cs', hcs, _⟩ := h0
          have := World.cells?_block hcs (by rw [hce]; exact hlen)
          rwa [add_block] at this
    | struct fs row eq =>
      rw [ht] at hts
      simp only [TI.cells, Option.some.injEq] at hts
      subst hts
      obtain ⟨fields, hu, _, _, i, hi, hsz, _⟩ := hT.struct ht
      have h2 := hT2 t
      rw [ht] at h2
      simp only [tyOk2, hu, Bool.and_eq_true, decide_eq_true_eq] at h2
      obtain ⟨hr, ho⟩ := h2
      obtain ⟨xs, m, hfm, _, hcl, hxl, hf⟩ := DataW.trod_struct hu h
      obtain rfl : n = m := by omega
      have hcl' : cs.length = row.length := by rw [hcl]; simp [Program.cellsOf, hi, hsz]
      have key : ∀ (fl : List Field) (off : Nat) (row : List Ty), rowOfF ti fl = some row → offsF ti fl off = true → off + row.length = cs.length →
          (∀ f ∈ fl, ∃ y, DataW.trod enc P w 0 (fun _ => true) true n f.type ((cs.drop f.offset).take (P.cellsOf f.type)) = some y) →
          ∃ ls : List ALeaf, ls.map (·.1) = row.map Ty.frz ∧ FL (ALOk w Any) ls (cs.drop off) [] ∧ ∀ l ∈ ls, Fits l.1 l.2 := by
        intro fl
        induction fl with
        | nil =>
          intro off row h1 _ h3 _
          simp only [rowOfF, Option.some.injEq] at h1
          subst h1
          simp only [List.length_nil, Nat.add_zero] at h3
          exact ⟨[], rfl, ⟨by rw [h3]; simp, rfl⟩, fun _ h => by cases h⟩
        | cons f fl ihf =>
          intro off row h1 h2 h3 h4
          simp only [rowOfF] at h1
          split at h1
          · rename_i a b ha hb
            injection h1 with h1
            subst h1
            simp only [offsF, Bool.and_eq_true, beq_iff_eq, ha, Option.getD_some] at h2
            obtain ⟨ho, h2⟩ := h2
            rw [List.length_append] at h3
            obtain ⟨ls2, q1, q2, q3⟩ := ihf (off + a.length) b hb h2 (by omega) (fun g hg => h4 g (by simp [hg]))
            obtain ⟨y, hy⟩ := h4 f (by simp)
            obtain ⟨ls1, p1, p2, p3⟩ := ih _ _ a ha hy
            obtain ⟨i', hi', hsz', _⟩ := size_of hT ha
            have hc : P.cellsOf f.type = a.length := by simp [Program.cellsOf, hi', hsz']
            refine ⟨ls1 ++ ls2, by rw [List.map_append, List.map_append, p1, q1], ?_, ?_⟩
            · have := p2.append q2
              rw [ho, hc] at this
              rw [← List.drop_drop, List.take_append_drop] at this
              simpa using this
            · intro l hl
              rcases List.mem_append.1 hl with hl | hl
              · exact p3 l hl
              · exact q3 l hl
          · cases h1
      have := key fields.toList 0 row hr ho (by omega) (fun f hfm => by
        obtain ⟨j, hj⟩ := List.getElem?_of_mem hfm
        have hj' : fields[j]? = some f := by simpa using hj
        have hjl : j < fields.size := (Array.getElem?_eq_some_iff.1 hj').1
        rw [hf j f hj']
        exact ⟨_, List.getElem?_eq_getElem (by omega)⟩)
      simpa using this
    | ptr e => rw [ht] at hts; cases hts
    | err => rw [ht] at hts; cases hts
    | other => rw [ht] at hts; cases hts
theorem kn_law {P : Program} {k : Kn} (h : KnOk P k) {args : List A1} {a : Ans} (ha : k.ca args [] = some a) {y : a.β} (hy : a.o = some y) (hr : a.g y = ⟨[.one ⟨.bool, true⟩], [], []⟩) : CallSound P k.f args [] ⟨[.one ⟨.bool, true⟩], [], []⟩ := hr ▸ h args [] a ha y hy
theorem open_one {r : Reach} {b0 : Nat} (hT : TabOk P ti) (hT2 : ∀ t, tyOk2 P ti t (ti t) = true) {t : TypeId} {u : Ty} {v : Value} {d : DataW H} {ps : List MemPlace} (hts : (ti t).cells = some [u]) (hag : (ti t).isAgg = false)
    (hval : Value.okWide P w r b0 t v) (h : DataW.Trod enc P w 0 (fun _ => true) true t v d ps) : ∃ x : u.frz.D, Fits u.frz x ∧ ∀ ms, A1Ok w Any ms (.one ⟨u.frz, x⟩) v [] := by
  obtain ⟨fuel, h⟩ := h
  obtain ⟨ls, h1, h2, h3⟩ := trod_open hT hT2 fuel t _ _ hts h
  match ls, h1, h2, h3 with
  | [⟨t', x⟩], h1, h2, h3 =>
    simp only [List.map_cons, List.map_nil, List.cons.injEq, and_true] at h1
    subst h1
    obtain ⟨v', vs, F1, F2, e1, e, k1, rfl, rfl⟩ := h2
    obtain rfl : F1 = [] := by simpa using e.symm
    refine ⟨x, h3 ⟨u.frz, x⟩ (by simp), fun ms => ?_⟩
    have : v.cells = #[v'] := Array.toList_inj.1 e1
    have hv : v = v' := by
      have h9 : v.cells = #[v] := by
        cases ht : ti t with
        | cell u' =>
          obtain ⟨⟨d', hd', hdd⟩, _⟩ := hT.cell ht
          cases u' <;> cases d' <;> first
            | (simp [descIs] at hdd; done)
            | (obtain ⟨n, rfl⟩ := okWide_int hd' hval; rfl)
            | (obtain ⟨n, rfl⟩ := okWide_bool hd' hval; rfl)
            | (obtain ⟨n, rfl⟩ := okWide_string hd' hval; rfl)
        | slice e ts' b =>
          obtain ⟨a, len, cap, rfl⟩ := okWide_slice (hT.slice ht).1 hval
          rfl
        | struct fs row eq => rw [ht] at hag; cases hag
        | ptr e => rw [ht] at hts; cases hts
        | err => rw [ht] at hts; cases hts
        | other => rw [ht] at hts; cases hts
      rw [h9] at this
      simpa using this
    subst hv
    exact k1
end
end Go.V

set_option linter.unusedVariables false
set_option linter.unusedSimpArgs false
set_option maxRecDepth 100000
namespace Go.V.G
open Go.V
def pre (P : List (List UInt8)) (S : List Bool) : Nat → Int
  | 0 => 0
  | k + 1 => pre P S k + (((P.getD k []).length : Nat) : Int) + (if S.getD k false = true then 1 else 0)
theorem Some1.z {p : Prt} (h : Some1 p) : 0 < p.1 → p.2.1 = 0 := by
  intro h0
  have := h.ne
  unfold kd at this
  split at this
  · rename_i h; exact h.2.1
  · split at this
    · rename_i h; omega
    · split at this
      · rename_i h; omega
      · exact absurd rfl this
section
variable {B : Nat} {c : List Prt} (h : Sm B c) (hB : B ≤ 1099511627000)
include h hB
end
theorem bytes_of {e : TypeId} {x : List Int} (h : Fits (.sl false e (.int .u8)) x) : Bytes x := fun n hn => by
  have := h.2 n hn
  have h2 : (Lit.int .u8 n).wf = true := this
  simp [Lit.wf, IntKind.min, IntKind.max, IntKind.bits, IntKind.signed] at h2
  omega
end Go.V.G

set_option linter.unusedVariables false
set_option linter.unusedSimpArgs false
set_option maxRecDepth 100000
namespace Go.V.G
open Go.V
theorem kd_cases {p : Prt} (h : kd p ≠ 0) : (∃ a : Int, 0 < a ∧ p = (a, 0, []) ∧ kd p = 1) ∨ (∃ b : Int, 0 < b ∧ p = (0, b, []) ∧ kd p = 2) ∨ ∃ s : List UInt8, s ≠ [] ∧ p = (0, 0, s) ∧ kd p = 3 := by
  obtain ⟨a, b, s⟩ := p
  unfold kd at h ⊢
  by_cases h1 : 0 < a ∧ b = 0 ∧ s = []
  · obtain ⟨g1, g2, g3⟩ := h1; subst g2 g3
    left; exact ⟨a, g1, rfl, by simp [g1]⟩
  by_cases h2 : 0 < b ∧ a = 0 ∧ s = []
  · obtain ⟨g1, g2, g3⟩ := h2; subst g2 g3
    right; left; exact ⟨b, g1, rfl, by simp [g1]⟩
  by_cases h3 : s ≠ [] ∧ a = 0 ∧ b = 0
  · obtain ⟨g1, g2, g3⟩ := h3; subst g2 g3
    right; right; exact ⟨s, g1, rfl, by simp [g1]⟩
  rw [if_neg h1, if_neg h2, if_neg h3] at h
  exact absurd rfl h
def enc1 (p : Prt) : List Int := [kd p, p.1 + p.2.1 + p.2.2.length] ++ bytesOf p.2.2
def enc (c : List Prt) : List Int := c.flatMap enc1
theorem part_small {c : List Prt} (hg : good c = true) {p : Prt} (hp : p ∈ c) : p.1 + p.2.1 + p.2.2.length ≤ 120 ∧ 0 ≤ p.1 + p.2.1 := by
  obtain ⟨h1, h2, h3⟩ := good_spec hg
  have hs := okk_some h1
  obtain ⟨i, hi, rfl⟩ := List.getElem_of_mem hp
  have n1 := src_nonneg (l := c.take i) fun p h => hs p (mem_take h)
  have n2 := tgt_nonneg (l := c.take i) fun p h => hs p (mem_take h)
  have n3 := src_nonneg (l := c.drop (i + 1)) fun p h => hs p (mem_drop h)
  have n4 := tgt_nonneg (l := c.drop (i + 1)) fun p h => hs p (mem_drop h)
  have a1 := src_at hi
  have a2 := tgt_at hi
  have q := hs _ hp
  rcases kd_cases q.ne with ⟨a, ha, e, _⟩ | ⟨b, hb, e, _⟩ | ⟨s, _, e, _⟩ <;> (rw [e] at a1 a2 ⊢; simp only [List.length_nil] at a1 a2 ⊢; omega)
section
variable {B : Nat} {c : List Prt} (h : Sm B c) (hB : B ≤ 1099511627776) (hg : good c = true)
include h hB hg
end
theorem good_len : ∀ {c : List Prt}, (∀ p ∈ c, Some1 p) → ((c.length : Nat) : Int) ≤ src c + tgt c
  | [], _ => by simp [src, tgt]
  | p :: c, h => by
    have ih := good_len (c := c) fun q hq => h q (by simp [hq])
    have s := h p (by simp)
    have k0 := s.k; have d0 := s.d
    simp only [src, tgt, List.length_cons]
    rcases kd_cases s.ne with ⟨a, ha, e, _⟩ | ⟨b, hb, e, _⟩ | ⟨t, ht, e, _⟩
    · rw [e]; simp only; omega
    · rw [e]; simp only; omega
    · rw [e]; simp only
      have := List.length_pos_iff.2 ht
      omega
theorem good_psum : ∀ {c : List Prt}, (∀ p ∈ c, Some1 p) → ((psum c : Nat) : Int) ≤ tgt c
  | [], _ => by simp [psum, tgt]
  | p :: c, h => by
    have ih := good_psum (c := c) fun q hq => h q (by simp [hq])
    have k0 := (h p (by simp)).k
    simp only [psum, tgt]; omega
theorem good_sm {c : List Prt} (h : good c = true) : Sm 240 c := by
  obtain ⟨h1, h2, h3⟩ := good_spec h
  have hs := okk_some h1
  have := good_len hs
  have := good_psum hs
  refine ⟨by omega, by omega, fun p hp => ?_⟩
  have := part_small h hp
  have k0 := (hs p hp).k; have d0 := (hs p hp).d
  unfold I64
  omega
end Go.V.G

set_option linter.unusedVariables false
set_option linter.unusedSimpArgs false
set_option maxRecDepth 100000
namespace Go.V.G
open Go.V
theorem drawGood_ok {code : List Int} (hb : Bytes code) : Ok (s_DrawGoodChange code) fun r => Sm 847 r := by
  have h : At code 100000 0 := ⟨hb, by omega, by omega⟩
  unfold s_DrawGoodChange
  refine (one_ok (h.less (by omega))).bind ?_
  rintro ⟨f, c1, a1, s1⟩ t1
  dsimp only at t1 ⊢
  refine Ok.ite (fun _ => ?_) fun _ => ?_
  · refine (pick_ok (t1.at (j := 2) (h.less (by omega)))).bind ?_
    rintro ⟨n, c2, a2, s2⟩ ⟨hn, t2⟩
    dsimp only at hn t2 ⊢
    have t2 := t1.trans t2
    refine Ok.bind (Q := fun r => Sm 847 r) ?_ (fun v hv => Ok.mk hv)
    refine Ok.loop (fun y => 0 ≤ y.2.1 ∧ y.2.1 ≤ 4 ∧ Sm ((4 - y.2.1).toNat * 122) y.1 ∧ To code 0 (4 + 18 * (4 - y.2.1)) y.2.2.1 y.2.2.2.1) (fun y => y.2.1.toNat) ⟨by dsimp only; omega, by dsimp only; omega, Sm.nil _, t2.more (by dsimp only; omega)⟩ ?_
    rintro ⟨l, m, c, a, s⟩ ⟨h1, h2, h3, t⟩
    dsimp only at h1 h2 h3 t
    unfold s_DrawGoodChange_L1
    dsimp only
    refine Ok.ite (fun hc => ?_) fun hc => Ok.mk (h3.mono (by omega))
    have hc' : 0 < m := by simpa using hc
    refine (part_ok (t.at (j := 18) (h.less (by omega)))).bind ?_
    rintro ⟨x, y, w, c6, a6, s6⟩ ⟨⟨g1, g2, g3⟩, t6⟩
    dsimp only at g1 g2 g3 t6 ⊢
    have e : IntKind.wrap .i64 (m - 1) = m - 1 := w64 (by omega) (by omega)
    rw [e]
    exact Ok.yes (room_ok h3 (by (try dsimp only); omega) _) (Ok.mk ⟨⟨by (try dsimp only); omega, by (try dsimp only); omega, h3.snoc ⟨g1, g2⟩ (by (try dsimp only); omega) (by (try dsimp only); omega), (t.trans t6).more (by (try dsimp only); omega)⟩, by (try dsimp only); omega⟩)
  · refine (size_ok (t1.at (j := 4) (h.less (by omega)))).bind ?_
    rintro ⟨n, c2, a2, s2⟩ ⟨hn, t2⟩
    dsimp only at hn t2 ⊢
    have t2 := t1.trans t2
    refine (changeOf_ok 120 (by omega) (by omega) (by omega) (t2.at (h.less (by omega)))).bind ?_
    rintro ⟨x, c3, a3, s3⟩ ⟨hx, t3⟩
    exact Ok.mk hx
end Go.V.G

set_option linter.unusedVariables false
set_option linter.unusedSimpArgs false
set_option maxRecDepth 100000
namespace Go.V.G
open Go.V
def Fine (p : Prt) : Prop := p = (0, 0, []) ∨ kd p ≠ 0
theorem Fine.put (s : List UInt8) : Fine (0, 0, s) := by
  by_cases h : s = []
  · subst h; exact .inl rfl
  · exact .inr (by simp [kd, h])
theorem Fine.keep {n : Int} (h : 0 ≤ n) : Fine (n, 0, []) := by
  by_cases h0 : n = 0
  · subst h0; exact .inl rfl
  · have : 0 < n := by omega
    exact .inr (by simp [kd, this])
theorem Fine.drop {n : Int} (h : 0 ≤ n) : Fine (0, n, []) := by
  by_cases h0 : n = 0
  · subst h0; exact .inl rfl
  · have : 0 < n := by omega
    exact .inr (by simp [kd, this])
def Small (l : List Prt) : Prop := src l ≤ 1000000000 ∧ tgt l ≤ 1000000000
def hd : List Atom → Option Atom
  | [] => none
  | a :: _ => some a
end Go.V.G

set_option linter.unusedVariables false
set_option linter.unusedSimpArgs false
set_option maxRecDepth 100000
namespace Go.V.G
open Go.V
def comp : List Atom → List Atom → List Atom
  | x, .ins b :: y => .ins b :: comp x y
  | .drop :: x, [] => .drop :: comp x []
  | .drop :: x, .keep :: y => .drop :: comp x (.keep :: y)
  | .drop :: x, .drop :: y => .drop :: comp x (.drop :: y)
  | .ins b :: x, .keep :: y => .ins b :: comp x y
  | .ins _ :: x, .drop :: y => comp x y
  | .keep :: x, .keep :: y => .keep :: comp x y
  | .keep :: x, .drop :: y => .drop :: comp x y
  | _, _ => []
termination_by x y => x.length + y.length
def ap : List Atom → List UInt8 → List UInt8
  | .ins b :: l, t => b :: ap l t
  | .keep :: l, c :: t => c :: ap l t
  | .drop :: l, _ :: t => ap l t
  | _, _ => []
end Go.V.G

set_option linter.unusedVariables false
set_option linter.unusedSimpArgs false
set_option maxRecDepth 100000
namespace Go.V.G
open Go.V
def stPart : Option (Bool × Bool) → List Prt
  | some (true, true) => [(1, 0, [])]
  | some (false, true) => [(0, 1, [])]
  | _ => []
def gap (first : Bool) (p q : List UInt8) (st : Option (Bool × Bool)) : List Prt :=
  (if first = true then [(0, 0, p), (((q.length : Nat) : Int), 0, [])] else [(((q.length : Nat) : Int), 0, []), (0, 0, p)]) ++ stPart st
def gaps (first : Bool) : List Bool → List (List UInt8) → List Bool → List (List UInt8) → List Prt
  | [], p :: _, _, q :: _ => gap first p q none
  | sx :: Sx, p :: Px, sy :: Sy, q :: Py => gap first p q (some (sx, sy)) ++ gaps first Sx Px Sy Py
  | _, _, _, _ => []
def rest (first : Bool) (Sx : List Bool) (Px : List (List UInt8)) (Sy : List Bool) (Py : List (List UInt8)) (k : Nat) : List Prt := gaps first (Sx.drop k) (Px.drop k) (Sy.drop k) (Py.drop k)
structure Rows (Sx : List Bool) (Px : List (List UInt8)) (Sy : List Bool) (Py : List (List UInt8)) : Prop where
  s : Sx.length = Sy.length
  x : Px.length = Sx.length + 1
  y : Py.length = Sy.length + 1
  n : Sx.length ≤ 1000
  px : ∀ p ∈ Px, p.length ≤ 1000
  py : ∀ p ∈ Py, p.length ≤ 1000
end Go.V.G

set_option linter.unusedVariables false
set_option linter.unusedSimpArgs false
set_option maxRecDepth 100000
namespace Go.V.G
open Go.V
def apply (t : List UInt8) (c : List Prt) : List UInt8 := ap (atoms c) t
end Go.V.G

set_option linter.unusedVariables false
set_option linter.unusedSimpArgs false
set_option maxRecDepth 100000
namespace Go.V.G
open Go.V
def front (be : List UInt8) (l : List Atom) : List Bool × List (List UInt8) := (stays l, (be ++ (puts l).headD []) :: (puts l).tail)
end Go.V.G

set_option linter.unusedVariables false
set_option linter.unusedSimpArgs false
set_option maxRecDepth 100000
namespace Go.V.G
open Go.V
def tot (P : List (List UInt8)) : Nat := (P.map List.length).sum
def nTrue : List Bool → Nat
  | [] => 0
  | b :: l => (if b = true then 1 else 0) + nTrue l
def rem (S : List Bool) (P : List (List UInt8)) : Nat := tot P + nTrue S
structure CR (Sb : List Bool) (Pb : List (List UInt8)) (Sc : List Bool) (Pc : List (List UInt8)) : Prop where
  x : Pb.length = Sb.length + 1
  y : Pc.length = Sc.length + 1
  r : rem Sb Pb = Sc.length
  n : Sb.length ≤ 1000
  m : Sc.length ≤ 1000
  py : tot Pc ≤ 1000
section
variable {Sb : List Bool} {Pb : List (List UInt8)} {Sc : List Bool} {Pc : List (List UInt8)} (h : CR Sb Pb Sc Pc)
include h
end
end Go.V.G

set_option linter.unusedVariables false
set_option linter.unusedSimpArgs false
set_option maxRecDepth 100000
namespace Go.V.G
open Go.V
structure PR (S : List Bool) (P : List (List UInt8)) : Prop where
  x : P.length = S.length + 1
  n : S.length ≤ 1000
  p : ∀ q ∈ P, q.length ≤ 1000
section
variable {Sb : List Bool} {Pb : List (List UInt8)} {Sc : List Bool} {Pc : List (List UInt8)} (h : CR Sb Pb Sc Pc)
include h
end
end Go.V.G

set_option linter.unusedVariables false
set_option linter.unusedSimpArgs false
set_option maxRecDepth 100000
namespace Go.V.G
open Go.V
abbrev Rn := Int × Int
def rsum : List Rn → Int
  | [] => 0
  | r :: l => r.2 + rsum l
def alt : Option Int → List Rn → Bool
  | _, [] => true
  | p, r :: l => !(decide (p = some r.1)) && alt (some r.1) l
def Pos (l : List Rn) : Prop := ∀ q ∈ l, 1 ≤ q.2
theorem Pos.nil : Pos [] := fun q h => by cases h
theorem Pos.tail {r : Rn} {l : List Rn} (h : Pos (r :: l)) : Pos l := fun q hq => h q (by simp [hq])
theorem rsum_nonneg : ∀ {l : List Rn}, Pos l → 0 ≤ rsum l
  | [], _ => Int.le_refl _
  | r :: l, h => by
    have := h r (by simp); have := rsum_nonneg h.tail
    simp only [rsum]; omega
theorem rlen_le : ∀ {l : List Rn}, Pos l → ((l.length : Nat) : Int) ≤ rsum l
  | [], _ => Int.le_refl _
  | r :: l, h => by
    have := h r (by simp); have := rlen_le h.tail
    simp only [rsum, List.length_cons]; omega
structure Rs (l : List Rn) (n : Int) : Prop where
  pos : Pos l
  sum : rsum l = n
  alt : alt none l = true
theorem Rs.nil : Rs [] 0 := ⟨Pos.nil, rfl, rfl⟩
def inRev (most : Int) (l : List Rn) : Bool := l.all fun r => decide (0 ≤ r.1 ∧ r.1 ≤ most)
def grn (most : Int) : Option Int → Int → List Rn → Bool
  | _, left, [] => decide (left = 0)
  | p, left, r :: l => (decide (0 ≤ r.1 ∧ r.1 ≤ most) && (decide (1 ≤ r.2 ∧ r.2 ≤ left) && !(decide (p = some r.1)))) && grn most (some r.1) (left - r.2) l
def goodRuns (l : List Rn) (many most : Int) : Bool := (decide (0 ≤ many ∧ many ≤ 120) && decide (0 ≤ most ∧ most ≤ 60)) && grn most none many l
theorem grn_iff (most : Int) : ∀ (l : List Rn) (p : Option Int) (left : Int), grn most p left l = true ↔ (inRev most l = true ∧ Pos l ∧ rsum l = left ∧ alt p l = true)
  | [], p, left => by
    simp only [grn, decide_eq_true_eq, inRev, List.all_nil, rsum, G.alt, true_and]
    exact ⟨fun h => ⟨Pos.nil, h.symm, trivial⟩, fun h => h.2.1.symm⟩
  | r :: l, p, left => by
    have ih := grn_iff most l (some r.1) (left - r.2)
    simp only [grn, Bool.and_eq_true, decide_eq_true_eq, ih, inRev, List.all_cons, rsum, G.alt]
    constructor
    · rintro ⟨⟨h1, h2, h3⟩, h4, h5, h6, h7⟩
      refine ⟨⟨h1, h4⟩, fun q hq => ?_, by omega, h3, h7⟩
      rcases List.mem_cons.1 hq with rfl | hq
      · exact h2.1
      · exact h5 q hq
    · rintro ⟨⟨h1, h4⟩, h5, h6, h3, h7⟩
      have h8 := h5 r (by simp)
      have h9 := rsum_nonneg h5.tail
      exact ⟨⟨h1, ⟨h8, by omega⟩, h3⟩, h4, h5.tail, by omega, h7⟩
theorem goodRuns_iff {l : List Rn} {many most : Int} : goodRuns l many most = true ↔ ((0 ≤ many ∧ many ≤ 120) ∧ (0 ≤ most ∧ most ≤ 60)) ∧ inRev most l = true ∧ Rs l many := by
  simp only [goodRuns, Bool.and_eq_true, decide_eq_true_eq, grn_iff]
  constructor
  · rintro ⟨h, h1, h2, h3, h4⟩; exact ⟨h, h1, h2, h3, h4⟩
  · rintro ⟨h, h1, h2⟩; exact ⟨h, h1, h2.pos, h2.sum, h2.alt⟩
end Go.V.G

set_option linter.unusedVariables false
set_option linter.unusedSimpArgs false
set_option maxRecDepth 100000
namespace Go.V.G
open Go.V
def chn : Int → List (List Prt) → Bool
  | _, [] => true
  | n, c :: cs => (good c && decide (src c = n)) && chn (tgt c) cs
theorem chn_cons {n : Int} {c : List Prt} {cs : List (List Prt)} (h : chn n (c :: cs) = true) : good c = true ∧ src c = n ∧ chn (tgt c) cs = true := by
  simp only [chn, Bool.and_eq_true, decide_eq_true_eq] at h
  exact ⟨h.1.1, h.1.2, h.2⟩
theorem chn_mem : ∀ {n : Int} {cs : List (List Prt)}, chn n cs = true → ∀ c ∈ cs, good c = true
  | n, c :: cs, h, x, hx => by
    obtain ⟨k1, k2, k3⟩ := chn_cons h
    rcases List.mem_cons.1 hx with rfl | hx
    · exact k1
    · exact chn_mem k3 x hx
structure GH (f : Int) (t : List UInt8) (r : List Rn) (cs : List (List Prt)) : Prop where
  hf : 0 ≤ f ∧ f ≤ 60
  ht : ((t.length : Nat) : Int) ≤ 120
  hr : goodRuns r ((t.length : Nat) : Int) f = true
  hn : ((cs.length : Nat) : Int) ≤ 60 - f
  hc : chn ((t.length : Nat) : Int) cs = true
structure HB (t : List UInt8) (r : List Rn) (cs : List (List Prt)) : Prop where
  ht : t.length ≤ 1099511627776
  hr : r.length ≤ 1099511627776
  hn : cs.length ≤ 1099511627776
  hc : ∀ c ∈ cs, Sm 1099511627776 c
theorem GH.hb {f : Int} {t : List UInt8} {r : List Rn} {cs : List (List Prt)} (h : GH f t r cs) : HB t r cs := by
  have h1 := h.ht; have h2 := h.hn; have h3 := h.hf
  obtain ⟨_, _, h6⟩ := goodRuns_iff.1 h.hr
  have := rlen_le h6.pos
  rw [h6.sum] at this
  exact ⟨by omega, by omega, by omega, fun c hc => (good_sm (chn_mem h.hc c hc)).mono (by omega)⟩
end Go.V.G

set_option linter.unusedVariables false
set_option linter.unusedSimpArgs false
set_option maxRecDepth 100000
namespace Go.V.G
open Go.V
section
variable {α : Type}
def wsum (w : α → Nat) : List α → Nat
  | [] => 0
  | x :: xs => w x + wsum w xs
end
end Go.V.G

set_option linter.unusedVariables false
set_option linter.unusedSimpArgs false
set_option maxRecDepth 100000
namespace Go.V.G
open Go.V
def fit_RunS (xs : List (Int × Int)) : Prop := xs.length ≤ maxLen
def w_RunS (xs : List (Int × Int)) : Nat := xs.length
def fit_PartS (xs : List (Int × (Int × List UInt8))) : Prop := xs.length ≤ maxLen ∧ ∀ x ∈ xs, x.2.2.length ≤ maxLen
def w_Part (x : Int × (Int × List UInt8)) : Nat := x.2.2.length
def w_PartS (xs : List (Int × (Int × List UInt8))) : Nat := xs.length + wsum w_Part xs
def fit_ChangeS (xs : List (List (Int × (Int × List UInt8)))) : Prop := xs.length ≤ maxLen ∧ ∀ x ∈ xs, fit_PartS x
def w_ChangeS (xs : List (List (Int × (Int × List UInt8)))) : Nat := xs.length + wsum w_PartS xs
end Go.V.G

set_option linter.unusedVariables false
set_option linter.unusedSimpArgs false
set_option maxRecDepth 100000
namespace Go.V.G
open Go.V
theorem n2 : ((2 : Nat) : Int) = 2 := rfl
theorem n3 : ((3 : Nat) : Int) = 3 := rfl
abbrev Hst := Int × (List UInt8 × (List (Int × Int) × List (List (Int × (Int × List UInt8)))))
def w_History (h : Hst) : Nat := h.2.1.length + w_RunS h.2.2.1 + w_ChangeS h.2.2.2
end Go.V.G

set_option linter.unusedVariables false
set_option linter.unusedSimpArgs false
set_option maxRecDepth 100000
namespace Go.V.G
open Go.V
structure FitP (c : List Prt) : Prop where
  l : fit_PartS c
  i : ∀ p ∈ c, I64 p.1 ∧ I64 p.2.1
structure FitH (t : List UInt8) (r : List Rn) (cs : List (List Prt)) : Prop where
  ht : t.length ≤ maxLen
  hr : fit_RunS r
  hc : fit_ChangeS cs
  hi : ∀ c ∈ cs, ∀ p ∈ c, I64 p.1 ∧ I64 p.2.1
theorem psum_w : ∀ c : List Prt, w_PartS c = c.length + psum c
  | [] => rfl
  | p :: c => by
    have ih := psum_w c
    simp only [w_PartS, wsum, w_Part, psum, List.length_cons] at ih ⊢
    omega
theorem wsum_le {α : Type} {w : α → Nat} {B : Nat} : ∀ {xs : List α}, (∀ x ∈ xs, w x ≤ B) → wsum w xs ≤ xs.length * B
  | [], _ => by simp [wsum]
  | x :: xs, h => by
    have ih := wsum_le (xs := xs) fun y hy => h y (by simp [hy])
    have := h x (by simp)
    simp only [wsum, List.length_cons, Nat.succ_mul]; omega
theorem w_good {c : List Prt} (h : good c = true) : w_PartS c ≤ 480 := by
  have := good_sm h
  have := this.len; have := (good_sm h).put
  rw [psum_w]; omega
theorem w_goods {cs : List (List Prt)} (h : ∀ c ∈ cs, good c = true) (hn : cs.length ≤ 1000) : w_ChangeS cs ≤ 1000000 := by
  have := wsum_le (w := w_PartS) (B := 480) fun c hc => w_good (h c hc)
  unfold w_ChangeS
  omega
theorem w_runs {l : List Rn} {n m : Int} (h : goodRuns l n m = true) : w_RunS l ≤ 120 := by
  obtain ⟨h1, _, h6⟩ := goodRuns_iff.1 h
  have := rlen_le h6.pos
  rw [h6.sum] at this
  unfold w_RunS
  omega
theorem GH.w {f : Int} {t : List UInt8} {r : List Rn} {cs : List (List Prt)} (g : GH f t r cs) : w_History (f, t, r, cs) ≤ 2000000 := by
  have := g.ht; have := g.hn; have := g.hf
  have h1 := w_goods (chn_mem g.hc) (by omega)
  have h2 := w_runs g.hr
  unfold w_History
  dsimp only
  omega
end Go.V.G
