/-
  S10: owners: literals, make, append, bytes of a text.
-/
import Derived.Test.YtdicgiljgelkfaaS9
import Derived.Great.BuildSlice
import Derived.Laws.MakeOwn
import Derived.Laws.AppendOwn
namespace Go.V
open Go.RowKit

/-- footprints that lie in given owners -/
def Held (c : Cc) (ks : List Nat) (G : List Nat) : Prop := ∀ g, g ∈ G → ∃ k, k ∈ ks ∧ g ∈ c.F k
def Ows (S : St) (ks : List Nat) : Prop := ∀ k, k ∈ ks → S.ow k ≠ none

section
variable {b : Base} {S : St} {c : Cc} {w : World}
theorem held_append {ks ls : List Nat} {G H : List Nat} (hi : Inv b S w c) (hg : Held c ks G) (hh : Held c ls H) (ho : Ows S ks) (ho' : Ows S ls) (hu : unlike (ks ++ ls) = true) (n1 : G.Nodup) (n2 : H.Nodup) :
    Held c (ks ++ ls) (G ++ H) ∧ (G ++ H).Nodup := by
  obtain ⟨_, _, h3⟩ := unlike_append hu
  refine ⟨?_, List.nodup_append.2 ⟨n1, n2, ?_⟩⟩
  · intro g hx
    rcases List.mem_append.1 hx with hx | hx
    · obtain ⟨k, h, h'⟩ := hg g hx; exact ⟨k, by simp [h], h'⟩
    · obtain ⟨k, h, h'⟩ := hh g hx; exact ⟨k, by simp [h], h'⟩
  · rintro g hx g' hx' rfl
    obtain ⟨k, h, h'⟩ := hg g hx
    obtain ⟨l, q, q'⟩ := hh g hx'
    have hne : k ≠ l := by rintro rfl; exact h3 k h q
    exact hi.oo k l hne (ho k h) (ho' l q) g h' q'
theorem ows_append {ks ls : List Nat} (h : Ows S ks) (h' : Ows S ls) : Ows S (ks ++ ls) := fun k hk => (List.mem_append.1 hk).elim (h k) (h' k)

/-- a new owner, of others that are given up and of new memory -/
theorem ownOut_did (hi : Inv b S w c) (key : Nat) (o : Own) (gs : List Nat) (hgs : Ows S gs) {w' : World} {h' : Value} {F' : List Nat} (hst : Step w w' (fun g => ∃ k, k ∈ gs ∧ g ∈ c.F k))
    (hF : ∀ g, g ∈ F' → g < w'.heap.size ∧ ((∃ k, k ∈ gs ∧ g ∈ c.F k) ∨ w.heap.size ≤ g)) (hnd : F'.Nodup)
    (hR : ∀ K', KSame w w' (Kok b S c) K' → (∀ g, w.heap.size ≤ g → g ∉ F' → K' g) → Rp w' K' (.sl true o.e o.r) o.xs [h'] F') : Did b S c w (ownOut key o gs) h' w' := by
  unfold Did
  show ∃ c', Inv b ((S.kp (.all key :: gone gs)).ups (goneU gs ++ [.ow key (some o)])) w' c' ∧ Stay S ((S.kp (.all key :: gone gs)).ups (goneU gs ++ [.ow key (some o)])) c c' w w' (Kok b S c) (Kok b ((S.kp (.all key :: gone gs)).ups (goneU gs ++ [.ow key (some o)])) c') (.all key :: gone gs) ∧
    SVOk ((S.kp (.all key :: gone gs)).ups (goneU gs ++ [.ow key (some o)])) c' w' (Kok b ((S.kp (.all key :: gone gs)).ups (goneU gs ++ [.ow key (some o)])) c') (.s (.one (.vw key [] none))) h'
  generalize hS : (S.kp (.all key :: gone gs)).ups (goneU gs ++ [.ow key (some o)]) = S'
  have hg := goneU_ow gs (S.kp (.all key :: gone gs))
  rw [ups_append] at hS
  have how : ∀ k, S'.ow k = if k = key then some o else if k ∈ gs then none else S.ow k := by
    intro k; rw [← hS]
    show (if k = key then some o else ((S.kp (.all key :: gone gs)).ups (goneU gs)).ow k) = _
    rw [hg.2.2, kp_ow]
  have hms : S'.ms = S.ms := by
    rw [← hS]; show ((S.kp (.all key :: gone gs)).ups (goneU gs)).ms = _; rw [hg.1, kp_ms]
  have hmc : ∀ k i, S'.mc k i = (S.mc k i).kp (.all key :: gone gs) := by
    intro k i; rw [← hS]; show ((S.kp (.all key :: gone gs)).ups (goneU gs)).mc k i = _; rw [hg.2.1, kp_mc]
  obtain ⟨c', _, e2, _, e4, e5, _⟩ := hi.setOwn (S' := S') (w' := w') key o gs (.all key :: gone gs) h' F' how hms hmc (fun k hk => by simp [gone, hk]) (fun _ _ => .inl (by simp))
    (hst.mono (by rintro g ⟨k, h, h'⟩; exact ⟨k, .inr h, hgs k h, h'⟩))
    (fun g hg => ⟨(hF g hg).1, (hF g hg).2.imp (by rintro ⟨k, h, h'⟩; exact ⟨k, .inr h, hgs k h, h'⟩) id⟩) hnd hR
  refine ⟨c', e4, e5, o, o.e, o.r, o.xs, h', by rw [how, if_pos rfl], rfl, by rw [e2]; rfl, rfl⟩

/-! ### rows of leaves -/
theorem absorbRow_0 (ls : List Leaf) : absorbRow [] ls = match ls with | [] => .ret ((), []) | _ :: _ => .fail := by cases ls <;> rfl
theorem absorbRow_1 (t : Ty) (l : Leaf) : absorbRow [t] [l] = absorb t l := rfl
theorem absorbRow_2 (t u : Ty) (ts : List Ty) (l : Leaf) (ls : List Leaf) : absorbRow (t :: u :: ts) (l :: ls) = (absorb t l).bind fun x => (absorbRow (u :: ts) ls).bind fun y => .ret ((x.1, y.1), x.2 ++ y.2) := rfl
theorem absorbRow_3 (t : Ty) (ts : List Ty) : absorbRow (t :: ts) [] = .fail := by cases ts <;> rfl
theorem absorbRow_4 (t : Ty) (l u : Leaf) (ls : List Leaf) : absorbRow [t] (l :: u :: ls) = .fail := rfl
theorem absorbRow_ok (hi : Inv b S w c) : ∀ (ts : List Ty) (ls : List Leaf) (vs : List Value) (z : (rowTy ts).D × List Nat), All2 (LeafOk S c w (Kok b S c)) ls vs → (absorbRow ts ls).ev S = some z → unlike z.2 = true →
    Ows S z.2 ∧ ∃ G, Rp w (Kok b S c) (rowTy ts) z.1 vs G ∧ G.Nodup ∧ Held c z.2 G := by
  intro ts
  induction ts with
  | nil =>
    intro ls vs z ha h _
    cases ls with
    | nil =>
      cases ha
      rw [absorbRow_0] at h
      replace h : some (((), []) : Unit × List Nat) = some z := h
      injection h with h
      subst h
      exact ⟨fun k hk => (by cases hk), [], by simp [rowTy, Rp], by simp, fun g hg => (by cases hg)⟩
    | cons l ls => rw [absorbRow_0] at h; cases h
  | cons t ts ih =>
    intro ls vs z ha h hu
    cases ts with
    | nil =>
      cases ls with
      | nil => rw [absorbRow_3] at h; cases h
      | cons l ls =>
        cases ls with
        | cons l2 ls => rw [absorbRow_4] at h; cases h
        | nil =>
          cases ha with
          | cons h1 h2 =>
            cases h2
            rw [absorbRow_1] at h
            obtain ⟨k1, _, G, k3, k4, k5⟩ := absorb_ok (t := t) (z := z) hi h1 h
            exact ⟨k1, G, k3, k4, k5⟩
    | cons u ts =>
      cases ls with
      | nil => rw [absorbRow_3] at h; cases h
      | cons l ls =>
        cases ha with
        | cons h1 h2 =>
          rw [absorbRow_2] at h
          obtain ⟨z1, hz1, h⟩ := Option.bind_eq_some_iff.1 ((ev_bind S _ _).symm.trans h)
          obtain ⟨z2, hz2, h⟩ := Option.bind_eq_some_iff.1 ((ev_bind S _ _).symm.trans h)
          injection h with h
          subst h
          simp only at hu
          obtain ⟨u1, u2, _⟩ := unlike_append hu
          obtain ⟨k1, _, G, k3, k4, k5⟩ := absorb_ok hi h1 hz1
          obtain ⟨m1, H, m3, m4, m5⟩ := ih ls _ z2 h2 hz2 u2
          obtain ⟨q1, q2⟩ := held_append hi k5 m5 k1 m1 hu k4 m4
          refine ⟨ows_append k1 m1, G ++ H, ?_, q2, q1⟩
          show Rp w (Kok b S c) (.pair t (rowTy (u :: ts))) (z1.1, z2.1) _ _
          rw [Rp]
          exact ⟨[_], _, G, H, rfl, rfl, k3, m3⟩

theorem absorbRow_len {S : St} : ∀ (ts : List Ty) (ls : List Leaf) (z : (rowTy ts).D × List Nat), (absorbRow ts ls).ev S = some z → ls.length = ts.length := by
  intro ts
  induction ts with
  | nil =>
    intro ls z h
    cases ls with
    | nil => rfl
    | cons l ls => rw [absorbRow_0] at h; cases h
  | cons t ts ih =>
    intro ls z h
    cases ts with
    | nil =>
      cases ls with
      | nil => rw [absorbRow_3] at h; cases h
      | cons l ls =>
        cases ls with
        | cons l2 ls => rw [absorbRow_4] at h; cases h
        | nil => rfl
    | cons u ts =>
      cases ls with
      | nil => rw [absorbRow_3] at h; cases h
      | cons l ls =>
        rw [absorbRow_2] at h
        obtain ⟨z1, hz1, h⟩ := Option.bind_eq_some_iff.1 ((ev_bind S _ _).symm.trans h)
        obtain ⟨z2, hz2, h⟩ := Option.bind_eq_some_iff.1 ((ev_bind S _ _).symm.trans h)
        have := ih ls z2 hz2
        simp only [List.length_cons] at this ⊢; omega

theorem rowsT_ok (hi : Inv b S w c) (ts : List Ty) : ∀ (ps : List (Nat × SV)) (us : List Value) (n : Nat) {z : List (rowTy ts).D × List Nat}, All2 (fun p u => SVOk S c w (Kok b S c) p.2 u) ps us → (rowsT ts ps n).ev S = some z → unlike z.2 = true →
    Ows S z.2 ∧ z.1.length = ps.length ∧ ps.map (·.1) = List.range' n ps.length ∧ (∀ u, u ∈ us → u.cells.size = ts.length) ∧ ∃ G, RpL (Rp w (Kok b S c) (rowTy ts)) z.1 (us.flatMap fun u => u.cells.toList) G ∧ G.Nodup ∧ Held c z.2 G
  | [], _, n, z, .nil, h, _ => by
    simp only [rowsT, Tr.ev, Option.some.injEq] at h
    subst h
    refine ⟨fun k hk => (by cases hk), rfl, rfl, by simp, [], ?_, by simp, fun g hg => (by cases hg)⟩
    exact ⟨rfl, rfl⟩
  | (i, x) :: ps, _, n, z, .cons (b := v) (bs := vs) h1 h2, h, hu => by
    simp only [rowsT] at h
    split at h
    · rename_i hin
      subst hin
      split at h
      · rename_i ls hls
        simp only [ev_bind, Option.bind_eq_some_iff, Tr.ev, Option.some.injEq] at h
        obtain ⟨z1, hz1, z2, hz2, rfl⟩ := h
        simp only at hu
        obtain ⟨u1, u2, _⟩ := unlike_append hu
        obtain ⟨cs, e1, e2, _⟩ := leaves_ok hi h1 hls
        obtain ⟨k1, G, k3, k4, k5⟩ := absorbRow_ok hi ts ls cs z1 e2 hz1 u1
        obtain ⟨m1, m2, m3, m4, H, m5, m6, m7⟩ := rowsT_ok hi ts ps vs (i + 1) h2 hz2 u2
        obtain ⟨q1, q2⟩ := held_append hi k5 m7 k1 m1 hu k4 m6
        have hlen := absorbRow_len ts ls z1 hz1
        refine ⟨ows_append k1 m1, by simp [m2], ?_, ?_, G ++ H, ?_, q2, q1⟩
        · simp only [List.map_cons, List.length_cons, List.range'_succ, m3]
        · intro u hu
          rcases List.mem_cons.1 hu with rfl | hu
          · rw [e1, List.size_toArray, ← e2.len, hlen]
          · exact m4 u hu
        · refine ⟨cs, _, G, H, ?_, rfl, k3, m5⟩
          simp [e1]
      · simp [Tr.ev] at h
    · simp [Tr.ev] at h

/-! ### zeros -/
theorem zero_row {K : Nat → Prop} : ∀ (ts : List Ty), (∀ t ∈ ts, t.size = 1 ∧ ∀ a b, t ≠ .pair a b) → Rp w K (rowTy ts) (rowTy ts).zero (ts.map zeroV) []
  | [], _ => by simp [rowTy, Rp]
  | [t], h => zero1 t (h t (by simp))
  | t :: u :: ts, h => by
    simp only [rowTy, Rp, Ty.zero]
    exact ⟨[zeroV t], (u :: ts).map zeroV, [], [], rfl, rfl, zero1 t (h t (by simp)), zero_row (u :: ts) fun x hx => h x (by simp [hx])⟩
where
  zero1 (t : Ty) (h : t.size = 1 ∧ ∀ a b, t ≠ .pair a b) : Rp w K t t.zero [zeroV t] [] := by
    cases t with
    | pair a b => exact absurd rfl (h.2 a b)
    | unit => simp [Ty.size] at h
    | int k => simp [zeroV, Rp, Ty.zero]
    | bool => simp [zeroV, Rp, Ty.zero]
    | str => simp [zeroV, Rp, Ty.zero]
    | sl o e r =>
      cases o with
      | true => simp only [Rp, Ty.zero, zeroV]; exact .inl ⟨trivial, trivial, trivial⟩
      | false => simp only [Rp, Ty.zero, zeroV]; exact ⟨trivial, none, 0, [], rfl, Nat.le_refl _, ⟨rfl, rfl⟩, .inl trivial⟩

theorem made_rows (z : Array Value) (hz : 0 < z.size) : ∀ m, (List.range (m * z.size)).map (fun i => z[i % z.size]!) = (List.replicate m z.toList).flatten
  | 0 => by simp
  | m + 1 => by
    have h1 : (m + 1) * z.size = z.size + m * z.size := by rw [Nat.succ_mul]; omega
    rw [h1, List.range_add, List.map_append, List.map_map, List.replicate_succ, List.flatten_cons, ← made_rows z hz m]
    congr 1
    · apply List.ext_getElem?
      intro j
      by_cases hj : j < z.size
      · simp [hj, Nat.mod_eq_of_lt hj]
      · simp [hj]
    · apply List.map_congr_left
      intro j _
      simp
theorem made_take (z : Array Value) (hz : 0 < z.size) (m n : Nat) (h : m ≤ n) : (madeCells z (n * z.size)).toList.take (m * z.size) = (List.replicate m z.toList).flatten := by
  have hmn : m * z.size ≤ n * z.size := Nat.mul_le_mul_right _ h
  rw [← made_rows z hz m, madeCells, Array.toList_map, Array.toList_range, ← List.map_take, List.take_range, Nat.min_eq_left hmn]
theorem zero_rows {K : Nat → Prop} {ts : List Ty} (h : ∀ t ∈ ts, t.size = 1 ∧ ∀ a b, t ≠ .pair a b) : ∀ m, RpL (Rp w K (rowTy ts)) (List.replicate m (rowTy ts).zero) (List.replicate m (ts.map zeroV)).flatten []
  | 0 => ⟨rfl, rfl⟩
  | m + 1 => ⟨ts.map zeroV, _, [], [], by simp [List.replicate_succ], rfl, zero_row ts h, zero_rows h m⟩
end

section
variable {P : Program} {ti : TypeId → TI} {b : Base} {S : St} {c : Cc} {w : World}

theorem Step.push (w : World) (o : Obj) : Step w { w with heap := w.heap.push o } (fun _ => False) :=
  ⟨rfl, rfl, rfl, by simp, fun g hg _ => by simp [Array.getElem?_push, show ¬ (g = w.heap.size) by omega]⟩
theorem push_new (w : World) (o : Obj) : (w.heap.push o)[w.heap.size]? = some o := by simp

theorem zip_range : ∀ (us : List Value) (n : Nat), (List.range' n us.length).zip us = (us.zipIdx n).map fun x => (x.2, x.1)
  | [], _ => rfl
  | u :: us, n => by simp [List.range'_succ, zip_range us (n + 1)]

/-- a slice literal -/
theorem buildSlice_ok (hT : TabOk P ti) (hi : Inv b S w c) {t : TypeId} {d len : Nat} {ps : List (Nat × SV)} {us : List Value} {is : List (Nat × Value)} {out : Out} (hps : All2 (fun p u => SVOk S c w (Kok b S c) p.2 u) ps us)
    (his : is = (ps.map (·.1)).zip us) (h : (buildSliceT (ti t) d len ps).ev S = some out) : ∃ v w', (Instr.buildSlice t len is.toArray).run P w = .ok v w' ∧ Did b S c w out v w' := by
  unfold buildSliceT at h
  split at h
  · rename_i e ts bytes ht
    simp only [ev_bind, Option.bind_eq_some_iff] at h
    obtain ⟨r, hr, h⟩ := h
    split at h
    · rename_i hc
      simp only [Bool.and_eq_true, decide_eq_true_eq] at hc
      obtain ⟨⟨hu, hl⟩, hsmall⟩ := hc
      simp only [Tr.ev, Option.some.injEq] at h
      subst h
      obtain ⟨h1, _, _, hpos, i, z, h2, h3, h4, h5, h6, h7⟩ := hT.slice ht
      obtain ⟨k1, k2, k3, k4, G, k5, k6, k7⟩ := rowsT_ok hi ts ps us 0 hps hr hu
      have hsz : (rowTy ts).size = ts.length := rowTy_size ts fun t ht => (h7 t ht).1
      have hzs : z.cells.size = ts.length := by
        have := congrArg List.length h6
        simpa using this
      have hlus : us.length = len := by rw [← hps.len, hl]
      have hflat : (us.flatMap fun u => u.cells.toList).length = len * ts.length := by
        have := RpL.len (fun x vs F h => Rp.len (rowTy ts) x h) k5
        rw [this, k2, hl, hsz]
      rcases Nat.eq_zero_or_pos len with hz | hp
      · -- nothing in it
        have hus : us = [] := List.eq_nil_of_length_eq_zero (by omega)
        have hps0 : ps = [] := List.eq_nil_of_length_eq_zero (by omega)
        subst hus hps0 hz
        simp only [List.map_nil, List.zip_nil_left] at his
        subst his
        have hr1 : r.1 = [] := List.eq_nil_of_length_eq_zero (by rw [k2]; rfl)
        refine ⟨.slice (some ⟨w.heap.size, 0, none⟩) 0 0, { w with heap := w.heap.push (.cells #[] e) }, ?_, ?_⟩
        · simp [Instr.buildSlice, run_underlying h1, sizeOf, typeInfo, h2, Instr.fill, newRow, Array.range_zero']
        · refine ownOut_did hi (kd d 0) ⟨e, rowTy ts, r.1⟩ r.2 k1 (F' := [w.heap.size]) ((Step.push w _).mono fun _ h => h.elim) ?_ (by simp) ?_
          · intro g hg
            simp only [List.mem_singleton] at hg
            subst hg
            exact ⟨by simp, .inr (Nat.le_refl _)⟩
          · intro K' hK _
            simp only [Rp, hr1]
            exact .inr ⟨w.heap.size, 0, 0, #[], (0, 0), [], rfl, rfl, push_new w _, by intro i hi; simp at hi, by simp, Nat.le_refl _, by simp [RpL]⟩
      · have hfill := Great.fill_whole (s := ts.length) hpos us ((Array.range (len * i.size)).map (z.cells[· % z.cells.size]!)) k4 (by simp [h3, hlus])
        have his' : is.toArray.toList = (us.zipIdx 0).map fun x => (x.2, x.1) := by
          rw [his, k3, ← zip_range us 0, hps.len]
        have hrun := run_buildSlice (P := P) w t e len is.toArray (us.flatMap fun u => u.cells.toList).toArray i z h1 h2 h5 (by rw [h3, ← hsz]; omega) (by rw [h3]; have := Nat.mul_pos hp hpos; omega)
          (by rw [his', h3]; rw [h3] at hfill; exact hfill)
        refine ⟨_, _, hrun, ?_⟩
        refine ownOut_did hi (kd d 0) ⟨e, rowTy ts, r.1⟩ r.2 k1 (F' := w.heap.size :: G) ((Step.push w _).mono fun _ h => h.elim) ?_ ?_ ?_
        · intro g hg
          rcases List.mem_cons.1 hg with rfl | hg
          · exact ⟨by simp, .inr (Nat.le_refl _)⟩
          · obtain ⟨k, q, q'⟩ := k7 g hg
            have := (hi.fr g (.inr ⟨k, k1 k q, q'⟩)).1
            exact ⟨by simp; omega, .inl ⟨k, q, q'⟩⟩
        · rw [List.nodup_cons]
          refine ⟨fun hg => ?_, k6⟩
          obtain ⟨k, q, q'⟩ := k7 _ hg
          have := (hi.fr _ (.inr ⟨k, k1 k q, q'⟩)).1
          omega
        · intro K' hK _
          simp only [Rp]
          refine .inr ⟨w.heap.size, 0, len, _, (0, 0), G, by rw [k2, hl], rfl, push_new w _, by intro i _ hx; simp at hx, ?_, by rw [k2, hl]; exact Nat.le_refl _, ?_⟩
          · rw [hsz, List.size_toArray, hflat]; simp
          · rw [List.drop_zero, k2, hl, hsz, ← hflat, List.take_length]
            exact RpL.frame hK _ _ _ _ (fun g hg => by
              obtain ⟨k, q, q'⟩ := k7 g hg
              exact (Step.push w _).same g (hi.fr g (.inr ⟨k, k1 k q, q'⟩)).1 (fun h => h)) k5
    · simp [Tr.ev] at h
  · simp [Tr.ev] at h

theorem makeSlice_ok (hT : TabOk P ti) (hi : Inv b S w c) {t : TypeId} {d : Nat} {l m : SV} {u v : Value} {out : Out} (hl : SVOk S c w (Kok b S c) l u) (hm : SVOk S c w (Kok b S c) m v)
    (h : (makeSliceT (ti t) d l m).ev S = some out) : ∃ r w', (Instr.makeSlice t u v).run P w = .ok r w' ∧ Did b S c w out r w' := by
  unfold makeSliceT at h
  split at h
  · rename_i e ts bytes l m ht
    obtain rfl := int_leaf (leaf_sv hl)
    obtain rfl := int_leaf (leaf_sv hm)
    replace h := ev_iff h
    obtain ⟨c1, h⟩ := h
    replace h := ev_iff h
    obtain ⟨c2, h⟩ := h
    replace h := ev_iff h
    obtain ⟨c3, h⟩ := h
    simp only [decide_eq_true_eq, roomFor] at c1 c2 c3
    simp only [Tr.ev, Option.some.injEq] at h
    subst h
    obtain ⟨h1, _, hb, hpos, i, z, h2, h3, h4, h5, h6, h7⟩ := hT.slice ht
    have hsz : (rowTy ts).size = ts.length := rowTy_size ts fun t ht => (h7 t ht).1
    have hzs : z.cells.size = ts.length := by
      have := congrArg List.length h6
      simpa using this
    obtain ⟨l', rfl⟩ := Int.eq_ofNat_of_zero_le c1
    obtain ⟨m', rfl⟩ := Int.eq_ofNat_of_zero_le (Int.le_trans c1 c2)
    simp only [Int.toNat_natCast] at c3 ⊢
    have c2' : l' ≤ m' := Int.ofNat_le.1 c2
    have hm' : m' ≤ 140737488355328 := Nat.le_trans (Nat.le_mul_of_pos_right _ hb) c3
    have hrun := run_make (P := P) w t e i z h1 h2 h5 .i64 .i64 l' m' c1 c2 (by rw [h4, ← Int.natCast_mul, Nat.mul_comm]; omega) (by omega)
    refine ⟨_, _, hrun, ?_⟩
    refine ownOut_did hi (kd d 0) ⟨e, rowTy ts, List.replicate l' (rowTy ts).zero⟩ [] (fun k hk => by cases hk) (F' := [w.heap.size]) ((Step.push w _).mono fun _ h => h.elim) ?_ (by simp) ?_
    · intro g hg
      simp only [List.mem_singleton] at hg
      subst hg
      exact ⟨by simp, .inr (Nat.le_refl _)⟩
    · intro K' hK _
      simp only [Rp]
      refine .inr ⟨w.heap.size, 0, m', madeCells z.cells (m' * i.size), (0, 0), [], by simp, rfl, push_new w _, by intro i _ hx; simp at hx, ?_, by simp; omega, ?_⟩
      · rw [hsz, size_madeCells, h3]; omega
      · rw [List.drop_zero, List.length_replicate, hsz, h3, ← hzs, made_take z.cells (by omega) l' m' (by omega), h6]
        exact zero_rows h7 l'
  · simp [Tr.ev] at h
end

#print axioms ownOut_did
#print axioms buildSlice_ok
#print axioms makeSlice_ok
end Go.V
