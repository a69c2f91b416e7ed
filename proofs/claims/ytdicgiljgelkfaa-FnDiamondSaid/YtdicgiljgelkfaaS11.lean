/-
  S11: append.
-/
import Derived.Test.YtdicgiljgelkfaaS10
import Derived.Deep.Upon
namespace Go.V
open Go.RowKit

/-! ### nothing owned inside -/
theorem Rp.ro {w : World} {K : Nat → Prop} : ∀ (t : Ty) (x : t.D) {vs F}, t.ro = true → Rp w K t x vs F → F = []
  | .int _, _, _, _, _, h => by simp only [Rp] at h; exact h.2
  | .bool, _, _, _, _, h => by simp only [Rp] at h; exact h.2
  | .str, _, _, _, _, h => by simp only [Rp] at h; exact h.2
  | .unit, _, _, _, _, h => by simp only [Rp] at h; exact h.2
  | .pair a b, x, _, _, hr, h => by
    simp only [Rp] at h
    simp only [Ty.ro, Bool.and_eq_true] at hr
    obtain ⟨v1, v2, F1, F2, _, rfl, h1, h2⟩ := h
    rw [Rp.ro a _ hr.1 h1, Rp.ro b _ hr.2 h2]; rfl
  | .sl true _ _, _, _, _, hr, _ => by simp [Ty.ro] at hr
  | .sl false _ r, _, _, _, _, h => by simp only [Rp] at h; exact h.1
theorem RpL.ro {w : World} {K : Nat → Prop} {r : Ty} (hr : r.ro = true) : ∀ (xs : List r.D) {vs F}, RpL (Rp w K r) xs vs F → F = []
  | [], _, _, h => h.2
  | x :: xs, _, _, h => by
    obtain ⟨v1, v2, F1, F2, _, rfl, h1, h2⟩ := h
    rw [Rp.ro r x hr h1, RpL.ro hr xs h2]; rfl
theorem RpL.one {w : World} {K : Nat → Prop} {r : Ty} : ∀ (xs : List r.D) {vs F}, RpL (Rp w K r) xs vs F → ∀ u ∈ vs, u.oneCell' = true
  | [], _, _, h => by rw [h.1]; simp
  | x :: xs, _, _, h => by
    obtain ⟨v1, v2, F1, F2, rfl, _, h1, h2⟩ := h
    intro u hu
    rcases List.mem_append.1 hu with hu | hu
    · exact Rp.one r x h1 u hu
    · exact RpL.one xs h2 u hu

theorem bytes_rep {w : World} {K : Nat → Prop} : ∀ (s : List UInt8), RpL (Rp w K (.int .u8)) (bytesOf s) (byteCells ⟨s.toArray⟩) []
  | [] => ⟨rfl, rfl⟩
  | x :: s => by
    have ih := bytes_rep (w := w) (K := K) s
    simp only [byteCells, bytesOf, List.map_cons] at ih ⊢
    exact ⟨[_], _, [], [], rfl, rfl, by simp [Rp], ih⟩

section
variable {P : Program} {ti : TypeId → TI} {b : Base} {S : St} {c : Cc} {w : World}

theorem src_slice {size : Nat} {t2 e' : TypeId} {A : Option Addr} {n cap : Nat} {ws : List Value} (hk : P.underlying t2 = some (.slice e')) (hl : ws.length = n * size) (h1 : ∀ u ∈ ws, u.oneCell' = true)
    (hA : n = 0 ∨ ∃ ad, A = some ad ∧ ∀ j, j < ws.length → w.cell? (ad.add j) = ws[j]?) : Src P size t2 (.slice A n cap) n ws w := by
  cases A with
  | none =>
    rcases hA with rfl | ⟨ad, h, _⟩
    · obtain rfl : ws = [] := List.eq_nil_of_length_eq_zero (by omega)
      exact Src.ofNil w hk cap
    · cases h
  | some a =>
    refine Src.ofSlice w hk a n cap ws hl (fun j u hu => ?_) h1
    have hj := (List.getElem?_eq_some_iff.1 hu).1
    rcases hA with rfl | ⟨ad, h, h2⟩
    · omega
    · injection h with h; subst h; rw [h2 j hj]; exact hu

theorem more_ok (hT : TabOk P ti) (hi : Inv b S w c) {t2 e : TypeId} {r : Ty} {y : Leaf} {v : Value} {m : List r.D × List Nat} (hy : LeafOk S c w (Kok b S c) y v) (h : (moreT (ti t2) e r y).ev S = some m) :
    Ows S m.2 ∧ unlike m.2 = true ∧ ∃ news F, Src P r.size t2 v m.1.length news w ∧ RpL (Rp w (Kok b S c) r) m.1 news F ∧ F.Nodup ∧ Held c m.2 F := by
  have hn : Ows S [] ∧ unlike [] = true := ⟨fun k hk => (by cases hk), rfl⟩
  have hh : Held c [] [] := fun g hg => (by cases hg)
  unfold moreT at h
  split at h
  · rename_i s
    split at h
    · rename_i hc
      split at h
      · simp only [Tr.ev, Option.some.injEq] at h
        subst h
        obtain rfl := str_leaf hy
        refine ⟨hn.1, hn.2, byteCells ⟨s.toArray⟩, [], ?_, bytes_rep s, by simp, hh⟩
        have := Src.ofString (P := P) w (str_under hT hc) ⟨s.toArray⟩
        have hs : (ByteArray.mk s.toArray).size = (bytesOf s).length := by simp [ByteArray.size, bytesOf]
        rw [hs] at this
        exact this
      · simp [Tr.ev] at h
    · simp [Tr.ev] at h
  · split at h
    · rename_i hc
      obtain ⟨e', ie, hu, hie⟩ := sl_under' hT hc
      split at h
      · rename_i hro
        split at h
        · simp only [Tr.ev, Option.some.injEq] at h
          subst h
          obtain rfl : v = .slice none 0 0 := hy
          exact ⟨hn.1, hn.2, [], [], src_slice hu (by simp) (by simp) (.inl rfl), ⟨rfl, rfl⟩, by simp, hh⟩
        · simp only [ev_bind, Option.bind_eq_some_iff] at h
          obtain ⟨o, ho, h⟩ := h
          split at h
          · rename_i he
            obtain ⟨oe, or, oxs⟩ := o
            simp only [Ty.sl.injEq, true_and] at he
            obtain ⟨rfl, rfl⟩ := he
            simp only [Tr.ev, Option.some.injEq] at h
            subst h
            obtain ⟨A, cap, ws, F', rfl, hr, hx⟩ := data_read hi hy ho
            have hF := RpL.ro hro _ hr
            subst hF
            refine ⟨hn.1, hn.2, ws, [], src_slice hu (RpL.len (fun x vs F h => Rp.len or x h) hr) (RpL.one _ hr) ?_, hr, by simp, hh⟩
            rcases hx with hx | ⟨ad, h1, _, h2⟩
            · left; simp only at hx; rw [hx]; rfl
            · exact .inr ⟨ad, h1, h2⟩
          · simp [Tr.ev] at h
      · obtain ⟨k1, k2, G, k3, k4, k5⟩ := absorb_ok (t := .sl true e r) hi hy h
        refine ⟨k1, k2, ?_⟩
        simp only [Rp] at k3
        rcases k3 with ⟨h1, rfl, h2⟩ | ⟨g, off, cap, cs, fr, F0, h1, rfl, hg, hnf, hoff, hcp, hr⟩
        · injection h2 with h2
          subst h2
          rw [h1]
          exact ⟨[], [], src_slice hu (by simp) (by simp) (.inl rfl), ⟨rfl, rfl⟩, by simp, fun g hg => (by cases hg)⟩
        · injection h1 with h1
          subst h1
          refine ⟨_, F0, src_slice hu (RpL.len (fun x vs F h => Rp.len r x h) hr) (RpL.one _ hr) (.inr ⟨_, rfl, fun j hj => ?_⟩), hr, (List.nodup_cons.1 k4).2, fun g hg => k5 g (by simp [hg])⟩
          rw [add_blk, cell_blk hg]
          rw [List.length_take, List.length_drop, Array.length_toList] at hj
          rw [List.getElem?_take_of_lt (by omega), List.getElem?_drop, Array.getElem?_toList]
    · simp [Tr.ev] at h

/-! ### cells side by side, of a block -/
theorem setCells_blk {g : Nat} {e : TypeId} {fr : Nat × Nat} : ∀ (vs : List Value) (o : Nat) (w : World) (cs : Array Value), w.heap[g]? = some (.cells cs e fr) → o + vs.length ≤ cs.size →
    ∃ cs', (w.setCells g o vs).heap[g]? = some (.cells cs' e fr) ∧ cs'.size = cs.size ∧ ∀ i, cs'[i]? = if o ≤ i ∧ i < o + vs.length then vs[i - o]? else cs[i]?
  | [], o, w, cs, h, _ => ⟨cs, h, rfl, fun i => by rw [if_neg (by simp only [List.length_nil]; omega)]⟩
  | v :: vs, o, w, cs, h, hle => by
    simp only [List.length_cons] at hle
    obtain ⟨cs', h1, h2, h3⟩ := setCells_blk vs (o + 1) (w.setCell ⟨g, o, none⟩ v) _ (setCell_blk h o v) (by simp; omega)
    refine ⟨cs', h1, by rw [h2]; simp, fun i => ?_⟩
    rw [h3, List.length_cons]
    by_cases hi : o + 1 ≤ i ∧ i < o + 1 + vs.length
    · rw [if_pos hi, if_pos (by omega), show i - o = (i - (o + 1)) + 1 by omega, List.getElem?_cons_succ]
    · rw [if_neg hi]
      by_cases hio : i = o
      · subst hio
        rw [if_pos (by omega), Array.getElem?_setIfInBounds_self_of_lt (by omega)]; simp
      · rw [if_neg (by omega), Array.getElem?_setIfInBounds_ne (Ne.symm hio)]
theorem setCells_step {g : Nat} : ∀ (vs : List Value) (o : Nat) (w : World), Step w (w.setCells g o vs) (fun x => x = g) ∧ (w.setCells g o vs).heap.size = w.heap.size
  | [], _, w => ⟨Step.refl _ _, rfl⟩
  | v :: vs, o, w => by
    obtain ⟨h1, h2⟩ := setCells_step (g := g) vs (o + 1) (w.setCell ⟨g, o, none⟩ v)
    have h3 : (w.setCell ⟨g, o, none⟩ v).heap.size = w.heap.size := by simp [World.setCell]
    have h4 : Step w (w.setCell ⟨g, o, none⟩ v) (fun x => x = g) := ⟨rfl, rfl, rfl, by omega, fun x _ hx => Below.heap_setCell _ _ _ _ hx⟩
    exact ⟨h4.trans h1, by rw [← h3]; exact h2⟩

theorem not_held (hi : Inv b S w c) {ks ls : List Nat} {g : Nat} {G : List Nat} (ho : Ows S ks) (ho' : Ows S ls) (hu : unlike (ks ++ ls) = true) (hg : Held c ks [g]) (hG : Held c ls G) : g ∉ G := by
  intro hx
  obtain ⟨k, h1, h2⟩ := hg g (by simp)
  obtain ⟨l, h3, h4⟩ := hG g hx
  obtain ⟨_, _, h5⟩ := unlike_append hu
  have hne : k ≠ l := by rintro rfl; exact h5 k h1 h3
  exact hi.oo k l hne (ho k h1) (ho' l h3) g h2 h4

theorem held_lt (hi : Inv b S w c) {ks : List Nat} {G : List Nat} (ho : Ows S ks) (hG : Held c ks G) {g : Nat} (hg : g ∈ G) : g < w.heap.size := by
  obtain ⟨k, h1, h2⟩ := hG g hg
  exact (hi.fr g (.inr ⟨k, ho k h1, h2⟩)).1

theorem append_ok (hT : TabOk P ti) (hi : Inv b S w c) {t t2 ty : TypeId} {d : Nat} {x y : Leaf} {u v : Value} {out : Out} (hx : LeafOk S c w (Kok b S c) x u) (hy : LeafOk S c w (Kok b S c) y v)
    (h : (appendT (ti t) (ti t2) d x y).ev S = some out) : ∃ r w', (Builtin.append_ #[t, t2] ty #[u, v]).run P w = .ok r w' ∧ Did b S c w out r w' := by
  unfold appendT at h
  split at h
  · rename_i e ts bytes ht
    simp only [ev_bind, Option.bind_eq_some_iff] at h
    obtain ⟨⟨xs, ks⟩, hb0, ⟨ys, ls⟩, hm0, h⟩ := h
    replace h := ev_iff h
    obtain ⟨c1, h⟩ := h
    split at h
    · rename_i hun
      simp only [Tr.ev, Option.some.injEq] at h
      subst h
      simp only [roomFor, decide_eq_true_eq] at c1 hun
      obtain ⟨h1, _, hb, hpos, i, z, h2, h3, h4, h5, h6, h7⟩ := hT.slice ht
      have hsz : (rowTy ts).size = ts.length := rowTy_size ts fun t ht => (h7 t ht).1
      have hzs : z.cells.size = ts.length := by
        have := congrArg List.length h6
        simpa using this
      obtain ⟨k1, _, G, k3, k4, k5⟩ := absorb_ok hi hx hb0
      obtain ⟨m1, _, news, F2, m3, m4, m5, m6⟩ := more_ok hT hi hy hm0
      simp only at k1 k3 k5 m1 m3 m4 m6
      rw [hsz, ← h3] at m3
      generalize hr : rowTy ts = r at *
      have hnl := m3.newsLen
      rw [← h4] at c1
      have h63 : xs.length + ys.length ≤ 140737488355328 := Nat.le_trans (Nat.le_mul_of_pos_right _ (by omega)) c1
      have same2 : ∀ {w' : World} {T : Nat → Prop}, Step w w' T → ∀ {F : List Nat}, (∀ g, g ∈ F → g < w.heap.size) → (∀ g, g ∈ F → ¬ T g) → Same w w' F := fun hs F h1 h2 g hg => hs.same g (h1 g hg) (h2 g hg)
      have ho : Ows S (ks ++ ls) := ows_append k1 m1
      -- a new row
      have grow : ∀ (A : Option Addr) (cap : Nat) (olds : List Value) (F1 : List Nat), u = .slice A xs.length cap → cap < xs.length + ys.length → (Builtin.firstCells i.size xs.length (.slice A xs.length cap)).run P w.drew = .ok olds.toArray w.drew →
          RpL (Rp w (Kok b S c) r) xs olds F1 → F1.Nodup → Held c ks F1 → ∃ r' w', (Builtin.append_ #[t, t2] ty #[u, v]).run P w = .ok r' w' ∧ Did b S c w (ownOut (kd d 0) ⟨e, r, xs ++ ys⟩ (ks ++ ls)) r' w' := by
        rintro A cap olds F1 rfl hcap hold hro hnd hhe
        have hrun := run_append_grow_src (P := P) w t t2 ty e i z h1 h2 h5 A xs.length cap olds hold v ys.length news m3 hcap (by omega) (growslice_fits hcap c1)
        have hge := grownCap_ge w (xs.length + ys.length) cap e
        obtain ⟨q1, q2⟩ := held_append hi hhe m6 k1 m1 hun hnd m5
        have hol : olds.length = xs.length * r.size := RpL.len (fun x vs F h => Rp.len r x h) hro
        generalize grownCap w (xs.length + ys.length) cap e = gc at hrun hge
        generalize hcs : (olds ++ news).toArray ++ Builtin.zeroCells z.cells (gc - (xs.length + ys.length)) = cs at hrun
        generalize hw : w.drew.alloc (.cells cs e) = w' at hrun
        have hst : Step w w' (fun _ => False) := by
          subst hw
          exact ⟨rfl, rfl, rfl, (by show w.heap.size ≤ (w.heap.push _).size; simp), fun g hg _ => (by show (w.heap.push _)[g]? = _; simp [Array.getElem?_push, show ¬ (g = w.heap.size) by omega])⟩
        have hnew : w'.heap[w.heap.size]? = some (.cells cs e) := by subst hw; exact push_new w _
        have hws : w.heap.size < w'.heap.size := by subst hw; show w.heap.size < (w.heap.push _).size; simp
        refine ⟨_, _, hrun, ?_⟩
        refine ownOut_did hi (kd d 0) ⟨e, r, xs ++ ys⟩ (ks ++ ls) ho (F' := w.heap.size :: (F1 ++ F2)) (hst.mono fun _ h => h.elim) ?_ ?_ ?_
        · intro g hg
          rcases List.mem_cons.1 hg with rfl | hg
          · exact ⟨hws, .inr (Nat.le_refl _)⟩
          · exact ⟨Nat.lt_trans (held_lt hi ho q1 hg) hws, .inl (q1 g hg)⟩
        · rw [List.nodup_cons]
          exact ⟨fun hg => by have := held_lt hi ho q1 hg; omega, q2⟩
        · intro K' hK _
          simp only [Rp]
          refine .inr ⟨w.heap.size, 0, gc, cs, (0, 0), F1 ++ F2, by rw [List.length_append], rfl, hnew, by intro i _ hx; simp at hx, ?_, by rw [List.length_append]; exact hge, ?_⟩
          · rw [← hcs, Array.size_append, List.size_toArray, List.length_append, size_zeroCells, hol, hnl, hzs, h3, ← hsz, ← Nat.add_mul, ← Nat.add_mul, Nat.zero_add]
            exact Nat.mul_le_mul_right _ (by omega)
          · have htake : (cs.toList.drop 0).take ((xs ++ ys).length * r.size) = olds ++ news := by
              rw [← hcs, List.drop_zero, Array.toList_append, List.take_append_of_le_length (by simp [hol, hnl, h3, hsz, Nat.add_mul])]
              apply List.take_of_length_le
              simp [hol, hnl, h3, hsz, Nat.add_mul]
            rw [htake]
            exact RpL.append (RpL.frame hK _ _ _ _ (same2 hst (fun g hg => held_lt hi k1 hhe hg) (fun _ _ h => h)) hro) (RpL.frame hK _ _ _ _ (same2 hst (fun g hg => held_lt hi m1 m6 hg) (fun _ _ h => h)) m4)
      simp only [Rp] at k3
      rcases k3 with ⟨rfl, rfl, hu⟩ | ⟨g, off, cap, cs, fr, F0, hu, rfl, hg, hnf, hoff, hcp, hro⟩
      · injection hu with hu
        subst hu
        by_cases hk : ys.length = 0
        · obtain rfl : ys = [] := List.eq_nil_of_length_eq_zero hk
          obtain rfl : news = [] := List.eq_nil_of_length_eq_zero (by rw [hnl]; simp)
          refine ⟨_, _, run_append_nothing w t t2 ty e i h1 h2 none 0 0 (Nat.le_refl _) v m3, ?_⟩
          refine ownOut_did hi (kd d 0) ⟨e, r, [] ++ []⟩ (ks ++ ls) ho (F' := []) (Step.refl _ _) (by simp) (by simp) ?_
          intro K' _ _
          simp only [Rp]
          exact .inl ⟨rfl, trivial, trivial⟩
        · exact grow none 0 [] [] rfl (by simp; omega) (run_firstCells_none w.drew i.size 0 0 0) ⟨rfl, rfl⟩ (by simp) (fun g hg => (by cases hg))
      · injection hu with hu
        subst hu
        obtain ⟨n1, n2⟩ := List.nodup_cons.1 k4
        have hh0 : Held c ks F0 := fun x hx => k5 x (by simp [hx])
        have hhg : Held c ks [g] := fun x hx => k5 x (by simp only [List.mem_singleton] at hx; simp [hx])
        have hol : ((cs.toList.drop off).take (xs.length * r.size)).length = xs.length * r.size := RpL.len (fun x vs F h => Rp.len r x h) hro
        by_cases hcap : xs.length + ys.length ≤ cap
        · have hfit : off + xs.length * r.size + news.length ≤ cs.size := by
            rw [hnl, h3, ← hsz, Nat.add_assoc, ← Nat.add_mul]
            exact Nat.le_trans (Nat.add_le_add_left (Nat.mul_le_mul_right _ hcap) _) hoff
          have hrun := run_append_room_src (P := P) w t t2 ty e i h1 h2 g off xs.length cap v ys.length news m3 hcap
            (fun j hj => by rw [h3, ← hsz, cell_blk hg, Array.getElem?_eq_getElem (by omega)]; rfl)
            (fun j hj => by rw [h3, ← hsz]; exact frozen_blk hg hnf (by omega))
          rw [h3, ← hsz] at hrun
          obtain ⟨cs', s1, s2, s3⟩ := setCells_blk news (off + xs.length * r.size) w cs hg hfit
          obtain ⟨s4, s5⟩ := setCells_step (g := g) news (off + xs.length * r.size) w
          generalize w.setCells g (off + xs.length * r.size) news = w' at hrun s1 s4 s5
          obtain ⟨q1, q2⟩ := held_append hi k5 m6 k1 m1 hun k4 m5
          refine ⟨_, _, hrun, ?_⟩
          refine ownOut_did hi (kd d 0) ⟨e, r, xs ++ ys⟩ (ks ++ ls) ho (F' := g :: F0 ++ F2) (s4.mono ?_) ?_ q2 ?_
          · rintro x rfl
            exact q1 x (by simp)
          · intro x hx
            exact ⟨by rw [s5]; exact held_lt hi ho q1 hx, .inl (q1 x hx)⟩
          · intro K' hK _
            simp only [Rp]
            refine .inr ⟨g, off, cap, cs', fr, F0 ++ F2, by rw [List.length_append], rfl, s1, by rw [s2]; exact hnf, by rw [s2]; exact hoff, by rw [List.length_append]; exact hcap, ?_⟩
            have htake : (cs'.toList.drop off).take ((xs ++ ys).length * r.size) = (cs.toList.drop off).take (xs.length * r.size) ++ news := by
              have hn2 : news.length = ys.length * r.size := by rw [hnl, h3, hsz]
              apply List.ext_getElem?
              intro j
              rw [List.length_append, Nat.add_mul]
              by_cases hj : j < xs.length * r.size
              · rw [List.getElem?_append_left (by omega), List.getElem?_take_of_lt (by omega), List.getElem?_take_of_lt hj, List.getElem?_drop, List.getElem?_drop, Array.getElem?_toList, Array.getElem?_toList, s3, if_neg (by omega)]
              · rw [List.getElem?_append_right (by omega), hol]
                by_cases hj2 : j < xs.length * r.size + ys.length * r.size
                · rw [List.getElem?_take_of_lt hj2, List.getElem?_drop, Array.getElem?_toList, s3, if_pos (by omega)]
                  congr 1; omega
                · rw [List.getElem?_eq_none (by rw [List.length_take]; omega), List.getElem?_eq_none (by omega)]
            rw [htake]
            exact RpL.append (RpL.frame hK _ _ _ _ (same2 s4 (fun x hx => held_lt hi k1 hh0 hx) (fun x hx h => n1 (h ▸ hx))) hro)
              (RpL.frame hK _ _ _ _ (same2 s4 (fun x hx => held_lt hi m1 m6 hx) (fun x hx h => not_held hi k1 m1 hun hhg m6 (h ▸ hx))) m4)
        · refine grow (some ⟨g, off, none⟩) cap _ F0 rfl (by omega) (run_firstCells_some w.drew i.size xs.length ⟨g, off, none⟩ _ cap ((cs.toList.drop off).take (xs.length * r.size)) (by rw [hol, h3, hsz]) (fun j u hu => ?_)) hro n2 hh0
          have hj := (List.getElem?_eq_some_iff.1 hu).1
          rw [hol] at hj
          rw [List.getElem?_take_of_lt hj, List.getElem?_drop, Array.getElem?_toList] at hu
          have hg' : w.drew.heap[g]? = some (.cells cs e fr) := hg
          rw [add_blk, cell_blk hg']; exact hu
    · simp [Tr.ev] at h
  · simp [Tr.ev] at h

#print axioms append_ok
end
end Go.V
