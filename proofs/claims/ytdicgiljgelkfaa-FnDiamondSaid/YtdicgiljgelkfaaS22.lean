/-
  S22: functions are sound.
-/
import Derived.Test.YtdicgiljgelkfaaS21
namespace Go.V
open Go.RowKit

/-! ### what goes out -/
section
variable {P : Program} {E : Env} {b : Base} {S : St} {c : Cc} {w : World}

theorem outLeaf_ok (hi : Inv b S w c) {t : Ty} {l : Leaf} {v : Value} {y : ALeaf × List Nat} (hl : LeafOk S c w (Kok b S c) l v) (h : (outLeaf t l).ev S = some y) :
    Ows S y.2 ∧ ∃ G, ALOk w (Kok b S c) y.1 v G ∧ G.Nodup ∧ Held c y.2 G := by
  have hn : Ows S [] := fun k hk => (by cases hk)
  have hh : Held c [] [] := fun g hg => (by cases hg)
  unfold outLeaf at h
  split at h
  · simp only [Tr.ev, Option.some.injEq] at h
    subst h
    exact ⟨hn, [], ⟨hl, fun _ => rfl⟩, by simp, hh⟩
  · obtain rfl : v = .slice none 0 0 := hl
    split at h
    · simp only [Tr.ev, Option.some.injEq] at h
      subst h
      refine ⟨hn, [], ⟨?_, fun _ => rfl⟩, by simp, hh⟩
      simp only [Rp]; exact .inl ⟨trivial, trivial, trivial⟩
    · simp [Tr.ev] at h
  · rename_i k win
    simp only [ev_bind, Option.bind_eq_some_iff, Tr.ev, Option.some.injEq] at h
    obtain ⟨o, ho, h⟩ := h
    subst h
    obtain ⟨h1, F', h2, h3, h4⟩ := view_own hi hl ho
    exact ⟨fun k' hk' => (by simp only [List.mem_singleton] at hk'; subst hk'; exact h1), F', ⟨h2, fun h => (by simp [Ty.own] at h)⟩, h4, fun g hg => ⟨k, by simp, h3 g hg⟩⟩
  · simp [Tr.ev] at h

/-- what goes out, with its blocks -/
def Outs (S : St) (c : Cc) (gv G : List Nat) : Prop := Ows S gv ∧ (unlike gv = true → G.Nodup) ∧ Held c gv G
theorem Outs.nil : Outs S c [] [] := ⟨fun k hk => (by cases hk), fun _ => by simp, fun g hg => (by cases hg)⟩
theorem Outs.append (hi : Inv b S w c) {k l G H : List Nat} (h1 : Outs S c k G) (h2 : Outs S c l H) : Outs S c (k ++ l) (G ++ H) := by
  refine ⟨ows_append h1.1 h2.1, fun hu => ?_, fun g hg => ?_⟩
  · obtain ⟨u1, u2, _⟩ := unlike_append hu
    exact (held_append hi h1.2.2 h2.2.2 h1.1 h2.1 hu (h1.2.1 u1) (h2.2.1 u2)).2
  · rcases List.mem_append.1 hg with hg | hg
    · obtain ⟨k, h, h'⟩ := h1.2.2 g hg; exact ⟨k, by simp [h], h'⟩
    · obtain ⟨k, h, h'⟩ := h2.2.2 g hg; exact ⟨k, by simp [h], h'⟩

theorem outLeaves_ok (hi : Inv b S w c) : ∀ {ls : List Leaf} {ts : List Ty} {vs : List Value} {y : List ALeaf × List Nat}, All2 (LeafOk S c w (Kok b S c)) ls vs → (outLeaves ts ls).ev S = some y →
    ∃ G, FL (ALOk w (Kok b S c)) y.1 vs G ∧ Outs S c y.2 G
  | [], [], _, y, .nil, h => by
    rw [outLeaves] at h
    simp only [Tr.ev, Option.some.injEq] at h
    subst h
    exact ⟨[], ⟨rfl, rfl⟩, Outs.nil⟩
  | l :: ls, t :: ts, _, y, .cons (b := v) (bs := vs) h1 h2, h => by
    rw [outLeaves] at h
    simp only [ev_bind, Option.bind_eq_some_iff, Tr.ev, Option.some.injEq] at h
    obtain ⟨y1, hy1, y2, hy2, rfl⟩ := h
    obtain ⟨k1, G, k2, k3, k4⟩ := outLeaf_ok hi h1 hy1
    obtain ⟨H, m2, m3⟩ := outLeaves_ok hi h2 hy2
    exact ⟨G ++ H, ⟨v, vs, G, H, rfl, rfl, k2, m2⟩, Outs.append hi ⟨k1, fun _ => k3, k4⟩ m3⟩
  | [], _ :: _, _, _, _, h => by simp [outLeaves, Tr.ev] at h
  | _ :: _, [], _, _, _, h => by simp [outLeaves, Tr.ev] at h

theorem outVal_ok (hi : Inv b S w c) {N M : Nat} (hN : b.n1 = N + 1) (hM : b.ms.length = M) {t : TypeId} {x : SV} {v : Value} {y : A1 × List Nat} (hx : SVOk S c w (Kok b S c) x v) (h : (outVal E N M t x).ev S = some y) :
    ∃ G, A1Ok w (Kok b S c) b.ms y.1 v G ∧ Outs S c y.2 G := by
  unfold outVal at h
  split at h
  · simp only [ev_bind, Option.bind_eq_some_iff, Tr.ev, Option.some.injEq] at h
    obtain ⟨z, hz, h⟩ := h
    subst h
    obtain ⟨k1, G, k2, k3, k4⟩ := outLeaf_ok hi (leaf_sv hx) hz
    exact ⟨G, k2, k1, fun _ => k3, k4⟩
  · simp only [ev_bind, Option.bind_eq_some_iff, Tr.ev, Option.some.injEq] at h
    obtain ⟨z, hz, h⟩ := h
    subst h
    obtain ⟨vs, rfl, hx⟩ := hx
    obtain ⟨G, k1, k2⟩ := outLeaves_ok hi hx hz
    exact ⟨G, ⟨vs, rfl, k1⟩, k2⟩
  · rename_i k off
    split at h
    · rename_i hk
      simp only [Tr.ev, Option.some.injEq] at h
      subst h
      obtain ⟨n, hn, rfl⟩ := hx
      have hlt : k - (N + 1) < b.ms.length := by omega
      have han := hi.an (k - (N + 1)) _ (List.getElem?_eq_getElem hlt)
      rw [hN, show N + 1 + (k - (N + 1)) = k by omega] at han
      exact ⟨[], ⟨rfl, _, List.getElem?_eq_getElem hlt, by rw [han]⟩, Outs.nil⟩
    · simp [Tr.ev] at h
  · simp [Tr.ev] at h

theorem loadAt_addr {t : TypeId} {v u : Value} {w' : World} (h : (Instr.loadAt t v).run P w = .ok u w') : (do loadVar t (← asAddr v) : Sem Value).run P w = .ok u w' := by
  unfold Instr.loadAt at h
  cases v with
  | pointer o =>
    cases o with
    | some a => simpa [asAddr, Instr.sureAddr] using h
    | none => simp [Instr.sureAddr] at h
  | _ => simp [Instr.sureAddr] at h

/-- what the results are read by -/
def readRes (tmps : Array Value) : ResultVar → Sem Value
  | .tmp t => pure (tmps.getD t undef)
  | .cell a t => do loadVar t (← asAddr (tmps.getD a undef))

theorem outVals_ok (hT : TabOk P E.ti) {N M : Nat} (hN : b.n1 = N + 1) (hM : b.ms.length = M) {a : Act} (hi : Inv b S w c) (hs : Slots N S c w (Kok b S c) a) : ∀ (rs : List ResultVar) (ts : List TypeId) {y : List A1 × List Nat}, (outVals E N M S rs ts).ev S = some y →
    ∃ vs G, (rs.mapM (readRes a.tmps)).run P w = .ok vs w ∧ FL (A1Ok w (Kok b S c) b.ms) y.1 vs G ∧ Outs S c y.2 G
  | [], [], y, h => by
    rw [outVals] at h
    simp only [Tr.ev, Option.some.injEq] at h
    subst h
    exact ⟨[], [], by simp, ⟨rfl, rfl⟩, Outs.nil⟩
  | .tmp s :: rs, t :: ts, y, h => by
    rw [outVals] at h
    simp only [ev_bind, Option.bind_eq_some_iff, Tr.ev, Option.some.injEq] at h
    obtain ⟨y1, hy1, y2, hy2, rfl⟩ := h
    obtain ⟨G, k1, k2⟩ := outVal_ok hi hN hM (hs.ok s) hy1
    obtain ⟨vs, H, m1, m2, m3⟩ := outVals_ok hT hN hM hi hs rs ts hy2
    refine ⟨_ :: vs, G ++ H, ?_, ⟨_, vs, G, H, rfl, rfl, k1, m2⟩, Outs.append hi k2 m3⟩
    simp only [List.mapM_cons, readRes, Sem.run_bind, Sem.run_pure, Result.andThen_ok, m1]
  | .cell s t' :: rs, t :: ts, y, h => by
    rw [outVals] at h
    split at h
    · rename_i a1 cs ha hcs
      split at h
      · simp [Tr.ev] at h
      · rename_i hne
        rw [ev_bind, Option.bind_eq_some_iff] at h
        obtain ⟨x, hx, h⟩ := h
        simp only [ev_bind, Option.bind_eq_some_iff, Tr.ev, Option.some.injEq] at h
        obtain ⟨y1, hy1, y2, hy2, rfl⟩ := h
        have hv := hs.ok s
        rw [ha] at hv
        have hpos : 0 < cs.length := by
          cases cs with
          | nil => simp at hne
          | cons _ _ => simp
        obtain ⟨u, k0, k1⟩ := load_ok (P := P) hT hi hv hcs hx hpos
        obtain ⟨G, k2, k3⟩ := outVal_ok hi hN hM k1 hy1
        obtain ⟨vs, H, m1, m2, m3⟩ := outVals_ok hT hN hM hi hs rs ts hy2
        refine ⟨u :: vs, G ++ H, ?_, ⟨u, vs, G, H, rfl, rfl, k2, m2⟩, Outs.append hi k3 m3⟩
        have hl := loadAt_addr k0
        rw [List.mapM_cons, Sem.run_bind]
        show ((do loadVar t' (← asAddr (a.tmps.getD s undef)) : Sem Value).run P w).andThen _ = _
        rw [hl]
        simp only [Result.andThen_ok, Sem.run_bind, m1, Sem.run_pure]
    · simp [Tr.ev] at h
  | [], _ :: _, _, h => by simp [outVals, Tr.ev] at h
  | _ :: _, [], _, h => by
    rename_i r _ _
    cases r <;> simp [outVals, Tr.ev] at h

theorem outRow_ok (hi : Inv b S w c) (k : Nat) : ∀ (row : List ALeaf) (i : Nat) (vs : List Value) {y : List ALeaf × List Nat}, vs.length = row.length → (∀ j v, vs[j]? = some v → LeafOk S c w (Kok b S c) (S.mc k (i + j)) v) → (outRow k row i).ev S = some y →
    ∃ G, FL (ALOk w (Kok b S c)) y.1 vs G ∧ Outs S c y.2 G
  | [], i, vs, y, hl, _, h => by
    rw [outRow] at h
    simp only [Tr.ev, Option.some.injEq] at h
    subst h
    obtain rfl : vs = [] := List.eq_nil_of_length_eq_zero hl
    exact ⟨[], ⟨rfl, rfl⟩, Outs.nil⟩
  | r :: row, i, [], y, hl, _, _ => by simp at hl
  | r :: row, i, v :: vs, y, hl, hc, h => by
    rw [outRow] at h
    simp only [Tr.ev, ev_bind, Option.bind_eq_some_iff, Option.some.injEq] at h
    obtain ⟨y1, hy1, y2, hy2, rfl⟩ := h
    obtain ⟨k1, G, k2, k3, k4⟩ := outLeaf_ok hi (hc 0 v rfl) hy1
    obtain ⟨H, m1, m2⟩ := outRow_ok hi k row (i + 1) vs (by simpa using hl) (fun j v hv => by
      have := hc (j + 1) v (by simpa using hv)
      rwa [show i + (j + 1) = i + 1 + j by omega] at this) hy2
    exact ⟨G ++ H, ⟨v, vs, G, H, rfl, rfl, k2, m1⟩, Outs.append hi ⟨k1, fun _ => k3, k4⟩ m2⟩

theorem outRows_ok (hi : Inv b S w c) {N : Nat} (hN : b.n1 = N + 1) : ∀ (rows : List (List ALeaf)) (m : Nat) (gs : List Nat) {y : List (List ALeaf) × List Nat}, gs.length = rows.length → (∀ j g, gs[j]? = some g → b.ms[m + j]? = some g) → (outRows N rows m).ev S = some y →
    (∀ j, j < rows.length → S.ms (N + 1 + m + j) ≠ none) ∧ ∃ G, RowsOk w (Kok b S c) gs y.1 G ∧ Outs S c y.2 G
  | [], m, gs, y, hl, _, h => by
    rw [outRows] at h
    simp only [Tr.ev, Option.some.injEq] at h
    subst h
    obtain rfl : gs = [] := List.eq_nil_of_length_eq_zero hl
    exact ⟨fun j hj => by simp at hj, [], ⟨rfl, rfl⟩, Outs.nil⟩
  | r :: rows, m, [], y, hl, _, _ => by simp at hl
  | r :: rows, m, g :: gs, y, hl, hg, h => by
    rw [outRows] at h
    simp only [Tr.ev] at h
    split at h
    · rename_i hn
      simp only [Tr.ev, ev_bind, Option.bind_eq_some_iff, Option.some.injEq] at h
      obtain ⟨y1, hy1, y2, hy2, rfl⟩ := h
      obtain ⟨cs, e, fr, h1, h2, h3, h4⟩ := hi.ms _ _ hn
      have hgm : c.mb (N + 1 + m) = g := by rw [← hN]; exact hi.an m g (by have := hg 0 g rfl; simpa using this)
      obtain ⟨G, k1, k2⟩ := outRow_ok hi (N + 1 + m) r 0 cs.toList (by simpa using h2) (fun j v hv => by rw [Nat.zero_add]; exact h4 j v (by simpa using hv)) hy1
      obtain ⟨q1, H, m1, m2⟩ := outRows_ok hi hN rows (m + 1) gs (by simpa using hl) (fun j g' hg' => by
        have := hg (j + 1) g' (by simpa using hg')
        rwa [show m + (j + 1) = m + 1 + j by omega] at this) hy2
      refine ⟨fun j hj => ?_, G ++ H, ⟨y1.1, y2.1, cs, e, fr, G, H, rfl, rfl, by rw [← hgm]; exact h1, h3, k1, m1⟩, Outs.append hi k2 m2⟩
      cases j with
      | zero => rw [Nat.add_zero, hn]; simp
      | succ j =>
        have := q1 j (by simpa using hj)
        rwa [show N + 1 + (m + 1) + j = N + 1 + m + (j + 1) by omega] at this
    · simp [Tr.ev] at h
end

/-! ### the beginning -/
theorem msU_at : ∀ (l : List (Nat × List Leaf)) (S : St), (l.map (·.1)).Nodup → (S.ups (l.map fun p => .ms p.1 p.2)).ow = S.ow ∧ (S.ups (l.map fun p => .ms p.1 p.2)).sl = S.sl ∧
    (∀ k, (S.ups (l.map fun p => .ms p.1 p.2)).ms k = match find l k with | some r => some r.length | none => S.ms k) ∧ ∀ k i, (S.ups (l.map fun p => .ms p.1 p.2)).mc k i = match find l k with | some r => r.getD i .no | none => S.mc k i
  | [], S, _ => ⟨rfl, rfl, fun _ => rfl, fun _ _ => rfl⟩
  | p :: l, S, h => by
    rw [List.map_cons, List.nodup_cons] at h
    obtain ⟨h1, h2, h3, h4⟩ := msU_at l (S.up (.ms p.1 p.2)) h.2
    obtain ⟨i0, row⟩ := p
    refine ⟨h1, h2, fun k => ?_, fun k i => ?_⟩
    · show ((S.up (.ms i0 row)).ups (l.map fun p => .ms p.1 p.2)).ms k = _
      rw [h3]
      simp only [find]
      by_cases hk : k = i0
      · subst hk; rw [find_none h.1, if_pos rfl]; simp [St.up]
      · rw [if_neg hk]
        have : (S.up (.ms i0 row)).ms k = S.ms k := by show (if k = i0 then _ else S.ms k) = _; rw [if_neg hk]
        rw [this]
    · show ((S.up (.ms i0 row)).ups (l.map fun p => .ms p.1 p.2)).mc k i = _
      rw [h4]
      simp only [find]
      by_cases hk : k = i0
      · subst hk; rw [find_none h.1, if_pos rfl]; simp [St.up]
      · rw [if_neg hk]
        have : (S.up (.ms i0 row)).mc k i = S.mc k i := by show (if k = i0 then _ else S.mc k i) = _; rw [if_neg hk]
        rw [this]
theorem putSlots_at : ∀ (xs : List S1) (n : Nat) (S : St), (putSlots xs n S).ow = S.ow ∧ (putSlots xs n S).ms = S.ms ∧ (putSlots xs n S).mc = S.mc ∧
    ∀ i, (putSlots xs n S).sl i = if n ≤ i then (match xs[i - n]? with | some x => .s x | none => S.sl i) else S.sl i
  | [], n, S => ⟨rfl, rfl, rfl, fun i => by split <;> rfl⟩
  | x :: xs, n, S => by
    obtain ⟨h1, h2, h3, h4⟩ := putSlots_at xs (n + 1) (S.put n (.s x))
    refine ⟨h1, h2, h3, fun i => ?_⟩
    show (putSlots xs (n + 1) (S.put n (.s x))).sl i = _
    rw [h4]
    by_cases hi : n + 1 ≤ i
    · rw [if_pos hi, if_pos (by omega), show i - n = (i - (n + 1)) + 1 by omega, List.getElem?_cons_succ]
      have : (S.put n (.s x)).sl i = S.sl i := by show (if i = n then _ else S.sl i) = _; rw [if_neg (by omega)]
      rw [this]
    · rw [if_neg hi]
      by_cases hin : i = n
      · subst hin
        rw [if_pos (Nat.le_refl _), Nat.sub_self]
        show (if i = i then SV.s x else S.sl i) = _
        rw [if_pos rfl]; rfl
      · rw [if_neg (by omega)]
        show (if i = n then _ else S.sl i) = _
        rw [if_neg hin]

theorem RowsOk.len {w : World} {K : Nat → Prop} : ∀ {ms : List Nat} {rs F}, RowsOk w K ms rs F → rs.length = ms.length
  | [], _, _, h => by rw [h.1]; rfl
  | _ :: _, _, _, ⟨_, _, _, _, _, _, _, e1, _, _, _, _, h⟩ => by rw [e1]; simp [RowsOk.len h]

theorem All2.map_right {α β : Type} {p : α → β → Prop} {as bs} (h : All2 p as bs) {i : Nat} {x : β} (hx : bs[i]? = some x) : ∃ a, as[i]? = some a ∧ p a x := by
  have hlt : i < as.length := by rw [h.len]; exact (List.getElem?_eq_some_iff.1 hx).1
  obtain ⟨y, hy, hp⟩ := h.get (List.getElem?_eq_getElem hlt)
  rw [hx] at hy
  injection hy with hy
  subst hy
  exact ⟨_, List.getElem?_eq_getElem hlt, hp⟩

/-- a function begins in its state -/
theorem start_ok {N : Nat} {as : List A1} {rows : List (List ALeaf)} {S : St} (h : start N as rows = some S) {w : World} {vals : List Value} {Ro : Nat → Prop} {ms F1 F2 : List Nat} (hA : FL (A1Ok w Ro ms) as vals F1) (hR : RowsOk w Ro ms rows F2)
    (hnd : (ms ++ (F1 ++ F2)).Nodup) (hlt : ∀ g, g ∈ ms ++ (F1 ++ F2) → g < w.heap.size ∧ ¬ Ro g) (hN : vals.length ≤ N) :
    Sim ⟨w, Ro, fun g => g ∈ ms ++ (F1 ++ F2), N + 1, ms⟩ N S ⟨vals.toArray ++ Array.replicate (N - vals.length) undef, []⟩ w := by
  unfold start at h
  split at h
  · rename_i vs rs hv hr
    split at h
    · rename_i hu
      injection h with h
      have hlen := hR.len
      generalize hK : (List.range rows.length).map (N + 1 + ·) = K at hv hr
      let mb : Nat → Nat := fun κ => ms.getD (κ - (N + 1)) 0
      have hmb : K.map mb = ms := by
        rw [← hK, List.map_map, hlen]
        apply List.ext_getElem?
        intro i
        rw [List.getElem?_map]
        by_cases hi : i < ms.length
        · rw [List.getElem?_range hi]
          simp only [Option.map_some, Function.comp, mb]
          rw [Nat.add_sub_cancel_left, List.getD_eq_getElem?_getD, List.getElem?_eq_getElem hi]; rfl
        · rw [List.getElem?_eq_none (by simpa using Nat.le_of_not_lt hi), List.getElem?_eq_none (by omega)]; rfl
      have hKn : K.Nodup := by
        rw [← hK]
        exact List.Pairwise.map _ (fun a b h => by omega) List.nodup_range
      rw [← hmb] at hA hR
      obtain ⟨n1, a1, a2⟩ := backVals_ok K mb as _ hA hv
      obtain ⟨b1, b2, n2, b3, b4⟩ := backRows_ok mb K rows _ hR hr
      rw [hmb] at hA hR
      have hall := a1.append b3
      have hnl : n1.length = vs.2.length := a1.len
      have hkeys := unlike_nodup hu
      have hFn : (F1 ++ F2).Nodup := (List.nodup_append.1 hnd).2.1
      generalize hl : vs.2 ++ rs.2 = l at *
      generalize hns : n1 ++ n2 = ns at *
      let news : Nat → Option New := fun k => find ((l.map (·.1)).zip ns) k
      let c : Cc := ⟨mb, fun k => match news k with | some n => n.h | none => undef, fun k => match news k with | some n => n.F | none => []⟩
      obtain ⟨o1, o2, o3, o4⟩ := ownsU_at l blank hkeys
      obtain ⟨m1, m2, m3, m4⟩ := msU_at rs.1 (blank.ups (ownsU l)) (by rw [b1]; exact hKn)
      obtain ⟨p1, p2, p3, p4⟩ := putSlots_at vs.1 0 ((blank.ups (ownsU l)).ups (rs.1.map fun p => .ms p.1 p.2))
      have how : ∀ k, S.ow k = match news k with | some n => some n.o | none => none := by
        intro k
        rw [← h, p1, m1, o4]
        have := news_find hall k
        refine Eq.trans ?_ this.symm
        cases find l k <;> rfl
      have hms : ∀ k, S.ms k = match find rs.1 k with | some r => some r.length | none => none := by
        intro k
        rw [← h, p2, m3, o1]; rfl
      have hmc : ∀ k i, S.mc k i = match find rs.1 k with | some r => r.getD i .no | none => .no := by
        intro k i
        rw [← h, p3, m4, o2]; rfl
      have hsl : ∀ i, S.sl i = match vs.1[i]? with | some x => .s x | none => .no := by
        intro i
        rw [← h, p4, if_pos (Nat.zero_le _), Nat.sub_zero, m2, o3]; rfl
      have hHv : Hv S c l ns := by
        intro k n hk
        have hf : news k = some n := find_mem (by rw [List.map_fst_zip (by rw [hall.len]; simp)]; exact hkeys) hk
        refine ⟨by rw [how, hf], ?_⟩
        show (match news k with | some n => n.h | none => undef) = _
        rw [hf]
      have hmsK : ∀ k, k ∈ K ↔ S.ms k ≠ none := by
        intro k
        rw [hms]
        constructor
        · intro hk
          rw [← b1] at hk
          obtain ⟨p, hp, rfl⟩ := List.mem_map.1 hk
          rw [find_mem (by rw [b1]; exact hKn) hp]; simp
        · intro hk
          cases hf : find rs.1 k with
          | none => rw [hf] at hk; exact absurd rfl hk
          | some r => rw [← b1]; exact List.mem_map.2 ⟨_, find_some_mem hf, rfl⟩
      have hnw : ∀ k, S.ow k ≠ none → ∃ n, news k = some n ∧ S.ow k = some n.o ∧ c.hv k = n.h ∧ c.F k = n.F := by
        intro k hk
        rw [how] at hk
        cases hf : news k with
        | none => rw [hf] at hk; exact absurd rfl hk
        | some n => exact ⟨n, rfl, by rw [how, hf], by show (match news k with | some n => n.h | none => undef) = _; rw [hf], by show (match news k with | some n => n.F | none => []) = _; rw [hf]⟩
      have hmbms : ∀ k, S.ms k ≠ none → c.mb k ∈ ms := fun k hk => by rw [← hmb]; exact List.mem_map.2 ⟨k, (hmsK k).2 hk, rfl⟩
      have hOw : ∀ g, Owned S c g → g ∈ ms ++ (F1 ++ F2) := by
        rintro g (⟨k, hk, rfl⟩ | ⟨k, hk, hg⟩)
        · exact List.mem_append.2 (.inl (hmbms k hk))
        · obtain ⟨n, k1, k2, k3, k4⟩ := hnw k hk
          rw [k4] at hg
          exact List.mem_append.2 (.inr ((news_in hall k n k1).2.1 g hg))
      have hKok : ∀ g, g < w.heap.size → Ro g → Kok ⟨w, Ro, fun g => g ∈ ms ++ (F1 ++ F2), N + 1, ms⟩ S c g := fun g _ hg => ⟨.inl hg, fun ho => (hlt g (hOw g ho)).2 hg⟩
      have hmsN := (List.nodup_append.1 hnd).1
      have hdis := (List.nodup_append.1 hnd).2.2
      refine ⟨c, ⟨?_, ?_, ?_, ?_, ?_, ?_, ?_, fun _ _ _ => rfl, rfl, rfl, rfl, Nat.le_refl _, ?_⟩, ⟨fun i => ?_, ?_, rfl⟩⟩
      · intro k n hn
        have hk : S.ms k ≠ none := by rw [hn]; simp
        rw [hms] at hn
        cases hf : find rs.1 k with
        | none => rw [hf] at hn; cases hn
        | some row =>
          rw [hf] at hn
          simp only [Option.some.injEq] at hn
          have hb := hHv
          rw [← hl, ← hns] at hb
          obtain ⟨cs, e, fr, h1, h2, h3⟩ := b4 S c (Hv.right hnl hb) (k, row) (find_some_mem hf)
          refine ⟨cs, e, fr, h1, by rw [← hn, h3.len]; simp, h2, fun i u hu => ?_⟩
          obtain ⟨lf, q1, q2⟩ := All2.map_right h3 (by rw [Array.getElem?_toList]; exact hu)
          rw [hmc, hf]
          simp only
          rw [List.getD_eq_getElem?_getD, q1]
          exact LeafOk.mono hKok q2
      · intro k o ho
        obtain ⟨n, k1, k2, k3, k4⟩ := hnw k (by rw [ho]; simp)
        rw [ho] at k2
        injection k2 with k2
        subst k2
        rw [k3, k4]
        exact Rp.mono hKok _ _ (news_in hall k n k1).2.2.2
      · intro k hk
        obtain ⟨n, k1, k2, k3, k4⟩ := hnw k hk
        rw [k4]; exact (news_in hall k n k1).2.2.1 hFn
      · intro k k' hne h1 h2 g hg
        obtain ⟨n, k1, _, _, k4⟩ := hnw k h1
        obtain ⟨n', q1, _, _, q4⟩ := hnw k' h2
        rw [k4] at hg
        rw [q4]
        exact news_dis hall hFn k n k' n' hne k1 q1 g hg
      · intro k k' hne h1 h2 he
        have h1' := (hmsK k).2 h1
        have h2' := (hmsK k').2 h2
        rw [← hK] at h1' h2'
        obtain ⟨m, hm, rfl⟩ := List.mem_map.1 h1'
        obtain ⟨m', hm', rfl⟩ := List.mem_map.1 h2'
        have hm := List.mem_range.1 hm
        have hm' := List.mem_range.1 hm'
        have he' : ms.getD (N + 1 + m - (N + 1)) 0 = ms.getD (N + 1 + m' - (N + 1)) 0 := he
        rw [Nat.add_sub_cancel_left, Nat.add_sub_cancel_left, List.getD_eq_getElem?_getD, List.getD_eq_getElem?_getD, List.getElem?_eq_getElem (by omega), List.getElem?_eq_getElem (by omega)] at he'
        simp only [Option.getD_some] at he'
        have hpw := List.pairwise_iff_getElem.1 hmsN
        rcases Nat.lt_trichotomy m m' with h | h | h
        · exact hpw m m' (by omega) (by omega) h he'
        · exact hne (by rw [h])
        · exact hpw m' m (by omega) (by omega) h he'.symm
      · intro k k' h1 h2 hg
        obtain ⟨n, k1, _, _, k4⟩ := hnw k' h2
        rw [k4] at hg
        exact hdis _ (hmbms k h1) _ ((news_in hall k' n k1).2.1 _ hg) rfl
      · intro g hg
        have := hOw g hg
        exact ⟨(hlt g this).1, .inr this⟩
      · intro m g hg
        show ms.getD (N + 1 + m - (N + 1)) 0 = g
        rw [Nat.add_sub_cancel_left, List.getD_eq_getElem?_getD, hg]; rfl
      · have hb := hHv
        rw [← hl, ← hns] at hb
        have hsv := a2 S c (Hv.left hnl hb) (fun k hk => (hmsK k).1 hk) (fun _ _ => rfl)
        rw [hsl]
        cases hx : vs.1[i]? with
        | none => trivial
        | some x =>
          obtain ⟨v, hv1, hv2⟩ := hsv.get hx
          have hlt' : i < vals.length := (List.getElem?_eq_some_iff.1 hv1).1
          have : (vals.toArray ++ Array.replicate (N - vals.length) undef).getD i undef = v := by
            rw [Array.getD_eq_getD_getElem?, Array.getElem?_append_left (by simpa using hlt'), List.getElem?_toArray, hv1]; rfl
          rw [this]
          exact S1Ok.mono hKok hv2
      · simp only [Array.size_append, List.size_toArray, Array.size_replicate]; omega
    · cases h
  · cases h

/-- a function that answers in V answers so in the model -/
theorem vfun_ok {P : Program} {E : Env} (hE : EnvOk P E) {f : FuncId} {fn : Func} {J : Joins} {ann : Ann} {as : List A1} {rows : List (List ALeaf)} {r : Res} (hf : P.funcs[f]? = some fn) (hname : (fn.name == "runtime.NumGoroutine") = false)
    (h : (vfun E fn J ann as rows).run = some r) : CallSound P f as rows r := by
  unfold vfun at h
  split at h
  · rename_i c hb
    split at h
    · rename_i hlen
      split at h
      · rename_i S hS
        rw [run_bind, Option.bind_eq_some_iff] at h
        obtain ⟨⟨e, S1⟩, h1, h2⟩ := h
        refine ⟨⟨fn, hf, hname, by rw [hb]; rfl⟩, ?_⟩
        intro w vals Ro ms F1 F2 hA hR hnd hlt
        have hvl := hA.len
        have hsim := start_ok hS hA hR hnd hlt (by omega)
        have hml := hR.len
        have hfin : ∀ a' w', Sim ⟨w, Ro, fun g => g ∈ ms ++ (F1 ++ F2), fn.ntmps + 1, ms⟩ fn.ntmps S1 a' w' → (finish E fn.ntmps fn rows S1).run = some r →
            a'.defers = [] ∧ ∃ v, (results fn a'.tmps).run P w' = .ok v w' ∧ ∃ v', Ending.returned v = .returned v' ∧ CallPost w Ro ms (F1 ++ F2) r v' w' := by
          rintro a' w' ⟨c', hi, hsl⟩ hfi
          refine ⟨hsl.d, ?_⟩
          unfold finish at hfi
          rw [run_bind, Option.bind_eq_some_iff] at hfi
          obtain ⟨⟨⟨y1, y2⟩, lg⟩, g1, g2⟩ := hfi
          split at g2
          · rename_i hu
            simp only [Tr.run, Option.some.injEq] at g2
            subst g2
            have g3 := at_ev S1 _ [] g1
            rw [ev_bind, Option.bind_eq_some_iff] at g3
            obtain ⟨z1, hz1, g3⟩ := g3
            rw [ev_bind, Option.bind_eq_some_iff] at g3
            obtain ⟨z2, hz2, g3⟩ := g3
            simp only [Tr.ev, Option.some.injEq, Prod.mk.injEq] at g3
            obtain ⟨e1, e2⟩ := g3
            subst e1 e2
            obtain ⟨vs, G1, k1, k2, k3⟩ := outVals_ok (P := P) hE.ti rfl hml.symm hi hsl _ _ hz1
            obtain ⟨q0, G2, q1, q2⟩ := outRows_ok hi rfl rows 0 ms hml.symm (fun j g hg => by rw [Nat.zero_add]; exact hg) hz2
            have hout := Outs.append hi k3 q2
            have hmsO : ∀ g, g ∈ ms → ∃ k, S1.ms k ≠ none ∧ c'.mb k = g := by
              intro g hg
              obtain ⟨m, hm, hmg⟩ := List.getElem_of_mem hg
              have h3 : ms[m]? = some g := by rw [List.getElem?_eq_getElem hm, hmg]
              refine ⟨fn.ntmps + 1 + m, ?_, hi.an m g h3⟩
              have := q0 m (by omega)
              rwa [Nat.add_zero] at this
            have hGO : ∀ g, g ∈ G1 ++ G2 → ∃ k, S1.ow k ≠ none ∧ g ∈ c'.F k := by
              intro g hg
              obtain ⟨k, h3, h4⟩ := hout.2.2 g hg
              exact ⟨k, hout.1 k h3, h4⟩
            have hKK : ∀ g, g < w'.heap.size → Kok ⟨w, Ro, fun g => g ∈ ms ++ (F1 ++ F2), fn.ntmps + 1, ms⟩ S1 c' g → ((Ro g ∨ w.heap.size ≤ g) ∧ g ∉ ms ++ (G1 ++ G2)) := by
              rintro g _ ⟨h3, h4⟩
              refine ⟨h3, fun hg => ?_⟩
              rcases List.mem_append.1 hg with hg | hg
              · obtain ⟨k, h5, h6⟩ := hmsO g hg
                exact h4 (.inl ⟨k, h5, h6⟩)
              · obtain ⟨k, h5, h6⟩ := hGO g hg
                exact h4 (.inr ⟨k, h5, h6⟩)
            have hres : (results fn a'.tmps).run P w' = .ok (tupledV vs) w' := by
              have he : results fn a'.tmps = (do let vs ← fn.results.mapM (readRes a'.tmps); pure (if h : vs.size = 1 then vs[0] else .tuple vs)) := rfl
              have hm : (fn.results.mapM (readRes a'.tmps)).run P w' = .ok vs.toArray w' := by
                rw [Array.mapM_eq_mapM_toList]
                simp [k1]
              rw [he]
              rw [Sem.run_bind, hm]
              simp only [Result.andThen_ok, Sem.run_pure]
              congr 1
              match vs with
              | [] => rfl
              | [v] => rfl
              | _ :: _ :: _ => rfl
            refine ⟨_, hres, _, rfl, vs, G1, G2, rfl, k2.mono fun _ _ _ h => A1Ok.mono hKK h, RowsOk.mono hKK q1, ?_, ?_, ?_⟩
            · refine List.nodup_append.2 ⟨(List.nodup_append.1 hnd).1, hout.2.1 hu, ?_⟩
              rintro g hg g' hg' rfl
              obtain ⟨k, h5, h6⟩ := hmsO g hg
              obtain ⟨k', h7, h8⟩ := hGO g hg'
              exact hi.mo k k' h5 h7 (by rw [h6]; exact h8)
            · intro g hg
              obtain ⟨k, h5, h6⟩ := hGO g hg
              obtain ⟨h7, h8⟩ := hi.fr g (.inr ⟨k, h5, h6⟩)
              refine ⟨h7, ?_⟩
              rcases h8 with h8 | h8
              · exact .inr h8
              · rcases List.mem_append.1 h8 with h8 | h8
                · obtain ⟨k', h9, h10⟩ := hmsO g h8
                  exact absurd h6 (h10 ▸ hi.mo k' k h9 h5)
                · exact .inl h8
            · exact ⟨hi.os, hi.tape, hi.output, hi.size, fun g hg hn => hi.fix g hg hn⟩
          · simp [Tr.run] at g2
        refine calls_of_wp hf hb ?_
        rw [List.size_toArray]
        obtain ⟨S0, h0, hw⟩ := joined_ok (b := ⟨w, Ro, fun g => g ∈ ms ++ (F1 ++ F2), fn.ntmps + 1, ms⟩) (N := fn.ntmps) h1
        refine vcode_ok hE (b := ⟨w, Ro, fun g => g ∈ ms ++ (F1 ++ F2), fn.ntmps + 1, ms⟩) (Nat.lt_succ_self _) c h0 hsim fun a' w' hs'' => ?_
        have hs' := hw hs''
        cases e with
        | n => exact hfin a' w' hs' h2
        | r => exact hfin a' w' hs' h2
        | x id => simp [Tr.run] at h2
      · simp [Tr.run] at h
    · simp [Tr.run] at h
  · simp [Tr.run] at h

#print axioms vfun_ok
end Go.V
