/-
  S16: calls.
-/
import Derived.Test.YtdicgiljgelkfaaS15
namespace Go.V
open Go.RowKit

/-! ### looking up -/
theorem find_some_mem {β : Type} : ∀ {l : List (Nat × β)} {k : Nat} {x : β}, find l k = some x → (k, x) ∈ l
  | [], _, _, h => by simp [find] at h
  | (i, y) :: l, k, x, h => by
    simp only [find] at h
    split at h
    · rename_i hk; subst hk; injection h with h; subst h; simp
    · exact List.mem_cons_of_mem _ (find_some_mem h)
theorem find_mem {β : Type} : ∀ {l : List (Nat × β)} {k : Nat} {x : β}, (l.map (·.1)).Nodup → (k, x) ∈ l → find l k = some x
  | [], _, _, _, h => by cases h
  | (i, y) :: l, k, x, hn, h => by
    rw [List.map_cons, List.nodup_cons] at hn
    simp only [find]
    rcases List.mem_cons.1 h with h' | h'
    · injection h' with h1 h2; subst h1 h2; simp
    · have hne : ¬ k = i := by
        rintro rfl
        exact hn.1 (List.mem_map.2 ⟨(k, x), h', rfl⟩)
      rw [if_neg hne]; exact find_mem hn.2 h'
theorem find_none {β : Type} : ∀ {l : List (Nat × β)} {k : Nat}, k ∉ l.map (·.1) → find l k = none
  | [], _, _ => rfl
  | (i, y) :: l, k, h => by
    simp only [List.map_cons, List.mem_cons, not_or] at h
    simp only [find, if_neg h.1]; exact find_none h.2
theorem unlike_nodup : ∀ {l : List Nat}, unlike l = true → l.Nodup
  | [], _ => by simp
  | k :: l, h => by
    obtain ⟨h1, h2⟩ := unlike_cons h
    exact List.nodup_cons.2 ⟨h1, unlike_nodup h2⟩

/-! ### what is written -/
theorem ownsU_at : ∀ (l : List (Nat × Own)) (S : St), (l.map (·.1)).Nodup → (S.ups (ownsU l)).ms = S.ms ∧ (S.ups (ownsU l)).mc = S.mc ∧ (S.ups (ownsU l)).sl = S.sl ∧ ∀ k, (S.ups (ownsU l)).ow k = match find l k with | some o => some o | none => S.ow k
  | [], S, _ => ⟨rfl, rfl, rfl, fun _ => rfl⟩
  | p :: l, S, h => by
    rw [List.map_cons, List.nodup_cons] at h
    obtain ⟨h1, h2, h3, h4⟩ := ownsU_at l (S.up (.ow p.1 (some p.2))) h.2
    refine ⟨h1, h2, h3, fun k => ?_⟩
    show ((S.up (.ow p.1 (some p.2))).ups (ownsU l)).ow k = _
    rw [h4]
    obtain ⟨i, o⟩ := p
    simp only [find]
    by_cases hk : k = i
    · subst hk
      rw [find_none h.1]; simp [St.up]
    · simp only [if_neg hk]
      have : (S.up (.ow i (some o))).ow k = S.ow k := by show (if k = i then some o else S.ow k) = _; rw [if_neg hk]
      rw [this]
theorem stPls_at (k : Nat) : ∀ (ls : List Leaf) (off : Nat) (S : St), (S.ups (stPls k ls off)).ms = S.ms ∧ (S.ups (stPls k ls off)).ow = S.ow ∧ (S.ups (stPls k ls off)).sl = S.sl ∧
    ∀ k' i, (S.ups (stPls k ls off)).mc k' i = if k' = k ∧ off ≤ i ∧ i < off + ls.length then ls.getD (i - off) .no else S.mc k' i
  | [], off, S => ⟨rfl, rfl, rfl, fun k' i => by rw [if_neg (by simp only [List.length_nil]; omega)]; rfl⟩
  | l :: ls, off, S => by
    obtain ⟨h1, h2, h3, h4⟩ := stPls_at k ls (off + 1) (S.up (.mc k off l))
    refine ⟨h1, h2, h3, fun k' i => ?_⟩
    show ((S.up (.mc k off l)).ups (stPls k ls (off + 1))).mc k' i = _
    rw [h4]
    by_cases hk : k' = k
    · subst hk
      by_cases h5 : off + 1 ≤ i ∧ i < off + 1 + ls.length
      · rw [if_pos ⟨rfl, h5⟩, if_pos ⟨rfl, by simp only [List.length_cons]; omega⟩, show i - off = (i - (off + 1)) + 1 by omega, List.getD_cons_succ]
      · rw [if_neg (by rintro ⟨_, h⟩; exact h5 h)]
        show (if k' = k' then (if i = off then l else S.mc k' i) else S.mc k' i) = _
        rw [if_pos rfl]
        by_cases hio : i = off
        · subst hio
          rw [if_pos rfl, if_pos ⟨rfl, by simp only [List.length_cons]; omega⟩, Nat.sub_self]; rfl
        · rw [if_neg hio, if_neg (by simp only [List.length_cons]; omega)]
    · rw [if_neg (by rintro ⟨h, _⟩; exact hk h), if_neg (by rintro ⟨h, _⟩; exact hk h)]
      show (if k' = k then _ else S.mc k' i) = _
      rw [if_neg hk]
theorem rowsU_at : ∀ (l : List (Nat × List Leaf)) (S : St), (l.map (·.1)).Nodup → (S.ups (rowsU l)).ms = S.ms ∧ (S.ups (rowsU l)).ow = S.ow ∧ (S.ups (rowsU l)).sl = S.sl ∧
    (∀ k i, k ∉ l.map (·.1) → (S.ups (rowsU l)).mc k i = S.mc k i) ∧ ∀ p, p ∈ l → ∀ i, i < p.2.length → (S.ups (rowsU l)).mc p.1 i = p.2.getD i .no
  | [], S, _ => ⟨rfl, rfl, rfl, fun _ _ _ => rfl, fun _ h => by cases h⟩
  | p :: l, S, h => by
    rw [List.map_cons, List.nodup_cons] at h
    obtain ⟨a1, a2, a3, a4⟩ := stPls_at p.1 p.2 0 S
    obtain ⟨h1, h2, h3, h4, h5⟩ := rowsU_at l (S.ups (stPls p.1 p.2 0)) h.2
    have e : S.ups (rowsU (p :: l)) = (S.ups (stPls p.1 p.2 0)).ups (rowsU l) := ups_append _ _ _
    rw [e]
    refine ⟨h1.trans a1, h2.trans a2, h3.trans a3, fun k i hk => ?_, fun q hq i hi => ?_⟩
    · simp only [List.map_cons, List.mem_cons, not_or] at hk
      rw [h4 k i hk.2, a4, if_neg (by rintro ⟨h, _⟩; exact hk.1 h)]
    · rcases List.mem_cons.1 hq with rfl | hq
      · rw [h4 _ i h.1, a4, if_pos ⟨rfl, by omega⟩, Nat.sub_zero]
      · exact h5 q hq i hi

/-! ### what comes back -/
def NwOk (w : World) (K : Nat → Prop) (p : Nat × Own) (n : New) (F : List Nat) : Prop := n.o = p.2 ∧ F = n.F ∧ Rp w K (.sl true n.o.e n.o.r) n.o.xs [n.h] n.F
/-- the keys stand for these owners -/
def Hv (S : St) (c : Cc) (l : List (Nat × Own)) (ns : List New) : Prop := ∀ k n, (k, n) ∈ (l.map (·.1)).zip ns → S.ow k = some n.o ∧ c.hv k = n.h

section
variable {w : World} {K : Nat → Prop}
theorem Hv.left {S : St} {c : Cc} {l l' : List (Nat × Own)} {ns ns' : List New} (hl : ns.length = l.length) (h : Hv S c (l ++ l') (ns ++ ns')) : Hv S c l ns := fun k n hk => h k n (by
  rw [List.map_append, List.zip_append (by simp [hl])]; exact List.mem_append.2 (.inl hk))
theorem Hv.right {S : St} {c : Cc} {l l' : List (Nat × Own)} {ns ns' : List New} (hl : ns.length = l.length) (h : Hv S c (l ++ l') (ns ++ ns')) : Hv S c l' ns' := fun k n hk => h k n (by
  rw [List.map_append, List.zip_append (by simp [hl])]; exact List.mem_append.2 (.inr hk))

theorem backLeaf_ok (key : Nat) {l : ALeaf} {v : Value} {F : List Nat} (h : ALOk w K l v F) : ∃ ns, FL (NwOk w K) (backLeaf key l).2 ns F ∧ ∀ S c, Hv S c (backLeaf key l).2 ns → LeafOk S c w K (backLeaf key l).1 v := by
  obtain ⟨t, x⟩ := l
  have other : backLeaf key ⟨t, x⟩ = (.v t x, []) → t.own = false → ∃ ns, FL (NwOk w K) (backLeaf key ⟨t, x⟩).2 ns F ∧ ∀ S c, Hv S c (backLeaf key ⟨t, x⟩).2 ns → LeafOk S c w K (backLeaf key ⟨t, x⟩).1 v := by
    intro e ho
    have hF := h.2 ho
    subst hF
    rw [e]
    exact ⟨[], ⟨rfl, rfl⟩, fun _ _ _ => h.1⟩
  cases t with
  | sl o e r =>
    cases o with
    | true =>
      refine ⟨[⟨⟨e, r, x⟩, v, F⟩], ⟨_, [], F, [], rfl, by simp, ⟨rfl, rfl, h.1⟩, rfl, rfl⟩, fun S c hv => ?_⟩
      obtain ⟨h1, h2⟩ := hv key ⟨⟨e, r, x⟩, v, F⟩ (by simp [backLeaf])
      exact ⟨_, e, r, x, v, h1, rfl, by rw [h2]; rfl, rfl⟩
    | false => exact other rfl rfl
  | _ => exact other rfl rfl

theorem backLeaves_ok : ∀ (ls : List ALeaf) (key : Nat) {vs : List Value} {F : List Nat}, FL (ALOk w K) ls vs F →
    ∃ ns, FL (NwOk w K) (backLeaves key ls).2 ns F ∧ ∀ S c, Hv S c (backLeaves key ls).2 ns → All2 (LeafOk S c w K) (backLeaves key ls).1 vs
  | [], key, _, _, h => by
    obtain ⟨rfl, rfl⟩ := h
    exact ⟨[], ⟨rfl, rfl⟩, fun _ _ _ => .nil⟩
  | l :: ls, key, _, _, h => by
    obtain ⟨v, vs, F1, F2, rfl, rfl, h1, h2⟩ := h
    obtain ⟨n1, k1, k2⟩ := backLeaf_ok key h1
    obtain ⟨n2, k3, k4⟩ := backLeaves_ok ls (key + 1) h2
    exact ⟨n1 ++ n2, k1.append k3, fun S c hv => .cons (k2 S c (Hv.left k1.len hv)) (k4 S c (Hv.right k1.len hv))⟩

theorem back1_ok (msK : List Nat) (mb : Nat → Nat) (key : Nat) {a : A1} {v : Value} {F : List Nat} {x : S1 × List (Nat × Own)} (h : A1Ok w K (msK.map mb) a v F) (hb : back1 msK key a = some x) :
    ∃ ns, FL (NwOk w K) x.2 ns F ∧ ∀ S c, Hv S c x.2 ns → (∀ k, k ∈ msK → S.ms k ≠ none) → (∀ k, k ∈ msK → c.mb k = mb k) → S1Ok S c w K x.1 v := by
  cases a with
  | one l =>
    simp only [back1, Option.some.injEq] at hb
    subst hb
    obtain ⟨ns, h1, h2⟩ := backLeaf_ok key h
    exact ⟨ns, h1, fun S c hv _ _ => h2 S c hv⟩
  | ag ls =>
    simp only [back1, Option.some.injEq] at hb
    subst hb
    obtain ⟨vs, rfl, h⟩ := h
    obtain ⟨ns, h1, h2⟩ := backLeaves_ok ls key h
    exact ⟨ns, h1, fun S c hv _ _ => ⟨vs, rfl, h2 S c hv⟩⟩
  | pl m off =>
    simp only [back1] at hb
    split at hb
    · rename_i k hk
      simp only [Option.some.injEq] at hb
      subst hb
      obtain ⟨rfl, g, hg, rfl⟩ := h
      rw [List.getElem?_map, hk] at hg
      simp only [Option.map_some, Option.some.injEq] at hg
      subst hg
      refine ⟨[], ⟨rfl, rfl⟩, fun S c _ h1 h2 => ?_⟩
      have hm := List.mem_of_getElem? hk
      obtain ⟨n, hn⟩ := Option.ne_none_iff_exists'.1 (h1 k hm)
      exact ⟨n, hn, by rw [h2 k hm]⟩
    · cases hb
  | rp t y off =>
    simp only [back1, Option.some.injEq] at hb
    subst hb
    obtain ⟨rfl, h⟩ := h
    exact ⟨[], ⟨rfl, rfl⟩, fun S c _ _ _ => h⟩

theorem backVals_ok (msK : List Nat) (mb : Nat → Nat) : ∀ (as : List A1) (key : Nat) {vs : List Value} {F : List Nat} {x : List S1 × List (Nat × Own)}, FL (A1Ok w K (msK.map mb)) as vs F → backVals msK key as = some x →
    ∃ ns, FL (NwOk w K) x.2 ns F ∧ ∀ S c, Hv S c x.2 ns → (∀ k, k ∈ msK → S.ms k ≠ none) → (∀ k, k ∈ msK → c.mb k = mb k) → All2 (S1Ok S c w K) x.1 vs
  | [], key, _, _, x, h, hb => by
    obtain ⟨rfl, rfl⟩ := h
    simp only [backVals, Option.some.injEq] at hb
    subst hb
    exact ⟨[], ⟨rfl, rfl⟩, fun _ _ _ _ _ => .nil⟩
  | a :: as, key, _, _, x, h, hb => by
    obtain ⟨v, vs, F1, F2, rfl, rfl, h1, h2⟩ := h
    simp only [backVals] at hb
    split at hb
    · rename_i x1 x2 e1 e2
      simp only [Option.some.injEq] at hb
      subst hb
      obtain ⟨n1, k1, k2⟩ := back1_ok msK mb key h1 e1
      obtain ⟨n2, k3, k4⟩ := backVals_ok msK mb as (key + 64) h2 e2
      exact ⟨n1 ++ n2, k1.append k3, fun S c hv g1 g2 => .cons (k2 S c (Hv.left k1.len hv) g1 g2) (k4 S c (Hv.right k1.len hv) g1 g2)⟩
    · cases hb

theorem backLeaves_len : ∀ (ls : List ALeaf) (key : Nat), (backLeaves key ls).1.length = ls.length
  | [], _ => rfl
  | l :: ls, key => by simp [backLeaves, backLeaves_len ls (key + 1)]

theorem backRows_ok (mb : Nat → Nat) : ∀ (msK : List Nat) (rs : List (List ALeaf)) (key : Nat) {F : List Nat} {x : List (Nat × List Leaf) × List (Nat × Own)}, RowsOk w K (msK.map mb) rs F → backRows key msK rs = some x →
    x.1.map (·.1) = msK ∧ x.1.map (·.2.length) = rs.map List.length ∧
    ∃ ns, FL (NwOk w K) x.2 ns F ∧ ∀ S c, Hv S c x.2 ns → ∀ p, p ∈ x.1 → ∃ cs e fr, w.heap[mb p.1]? = some (.cells cs e fr) ∧ NF fr cs.size ∧ All2 (LeafOk S c w K) p.2 cs.toList
  | [], [], key, F, x, h, hb => by
    simp only [backRows, Option.some.injEq] at hb
    subst hb
    exact ⟨rfl, rfl, [], ⟨rfl, h.2⟩, fun _ _ _ p hp => by cases hp⟩
  | k :: ms, r :: rs, key, F, x, h, hb => by
    obtain ⟨r', rs', cs, e, fr, F1, F2, e1, rfl, h1, h2, h3, h4⟩ := h
    injection e1 with e1 e2
    subst e1 e2
    simp only [backRows] at hb
    split at hb
    · rename_i y hy
      simp only [Option.some.injEq] at hb
      subst hb
      obtain ⟨n1, k1, k2⟩ := backLeaves_ok r key h3
      obtain ⟨g1, g2, n2, k3, k4⟩ := backRows_ok mb ms rs (key + 64) h4 hy
      refine ⟨by simp [g1], by simp [g2, backLeaves_len], n1 ++ n2, k1.append k3, fun S c hv p hp => ?_⟩
      rcases List.mem_cons.1 hp with rfl | hp
      · exact ⟨cs, e, fr, h1, h2, k2 S c (Hv.left k1.len hv)⟩
      · exact k4 S c (Hv.right k1.len hv) p hp
    · cases hb
  | [], r :: rs, key, F, x, h, hb => by simp [backRows] at hb
  | k :: ms, [], key, F, x, h, hb => by simp [backRows] at hb

theorem tupled_ok {S : St} {c : Cc} : ∀ {xs : List S1} {vs : List Value}, All2 (S1Ok S c w K) xs vs → SVOk S c w K (tupled xs) (tupledV vs)
  | [], _, .nil => ⟨[], rfl, .nil⟩
  | [_], _, .cons h .nil => h
  | _ :: _ :: _, _, .cons (b := v) h (.cons (b := u) (bs := vs) h1 h2) => ⟨v :: u :: vs, rfl, .cons h (.cons h1 h2)⟩

/-! ### the owners that come -/
theorem news_find : ∀ {l : List (Nat × Own)} {ns : List New} {F : List Nat}, FL (NwOk w K) l ns F → ∀ k, (match find ((l.map (·.1)).zip ns) k with | some n => some n.o | none => none) = find l k
  | [], _, _, h, k => by rw [h.1]; rfl
  | (i, o) :: l, _, _, ⟨n, ns, F1, F2, e1, _, h1, h2⟩, k => by
    subst e1
    simp only [List.map_cons, List.zip_cons_cons, find]
    by_cases hk : k = i
    · rw [if_pos hk, if_pos hk]; simp [h1.1]
    · rw [if_neg hk, if_neg hk]; exact news_find h2 k
theorem news_in : ∀ {l : List (Nat × Own)} {ns : List New} {F : List Nat}, FL (NwOk w K) l ns F → ∀ k n, find ((l.map (·.1)).zip ns) k = some n → k ∈ l.map (·.1) ∧ (∀ g, g ∈ n.F → g ∈ F) ∧ (F.Nodup → n.F.Nodup) ∧ Rp w K (.sl true n.o.e n.o.r) n.o.xs [n.h] n.F
  | [], _, _, h, k, n, hf => by simp [find] at hf
  | (i, o) :: l, _, _, ⟨n', ns, F1, F2, e1, e2, ⟨h1, h1', h1''⟩, h2⟩, k, n, hf => by
    subst e1 e2
    simp only [List.map_cons, List.zip_cons_cons, find] at hf
    split at hf
    · rename_i hk
      injection hf with hf
      subst hf h1'
      exact ⟨by simp [hk], fun g hg => by simp [hg], fun hn => (List.nodup_append.1 hn).1, h1''⟩
    · obtain ⟨a1, a2, a3, a4⟩ := news_in h2 k n hf
      exact ⟨List.mem_cons_of_mem _ a1, fun g hg => by simp [a2 g hg], fun hn => a3 (List.nodup_append.1 hn).2.1, a4⟩
theorem news_dis : ∀ {l : List (Nat × Own)} {ns : List New} {F : List Nat}, FL (NwOk w K) l ns F → F.Nodup → ∀ k n k' n', k ≠ k' → find ((l.map (·.1)).zip ns) k = some n → find ((l.map (·.1)).zip ns) k' = some n' → ∀ g, g ∈ n.F → g ∉ n'.F
  | [], _, _, h, _, k, n, _, _, _, hf, _ => by simp [find] at hf
  | (i, o) :: l, _, _, ⟨m, ns, F1, F2, e1, e2, ⟨h1, h1', h1''⟩, h2⟩, hn, k, n, k', n', hne, hf, hf' => by
    subst e1 e2
    obtain ⟨d1, d2, d3⟩ := List.nodup_append.1 hn
    simp only [List.map_cons, List.zip_cons_cons, find] at hf hf'
    intro g hg hg'
    split at hf
    · rename_i hk
      injection hf with hf
      subst hf h1'
      rw [if_neg (fun h => hne (hk.trans h.symm))] at hf'
      exact d3 g hg g ((news_in h2 k' n' hf').2.1 g hg') rfl
    · split at hf'
      · injection hf' with hf'
        subst hf' h1'
        exact d3 g hg' g ((news_in h2 k n hf).2.1 g hg) rfl
      · exact news_dis h2 d2 k n k' n' hne hf hf' g hg hg'
end

theorem LeafOk.mono {S : St} {c : Cc} {w : World} {K K' : Nat → Prop} (hK : ∀ g, g < w.heap.size → K g → K' g) {l : Leaf} {v : Value} (h : LeafOk S c w K l v) : LeafOk S c w K' l v := by
  cases l with
  | v t x => exact Rp.mono hK _ _ h
  | _ => exact h
theorem S1Ok.mono {S : St} {c : Cc} {w : World} {K K' : Nat → Prop} (hK : ∀ g, g < w.heap.size → K g → K' g) {x : S1} {v : Value} (h : S1Ok S c w K x v) : S1Ok S c w K' x v := by
  cases x with
  | one l => exact LeafOk.mono hK h
  | ag ls => obtain ⟨vs, e, h⟩ := h; exact ⟨vs, e, h.mono fun _ _ h => LeafOk.mono hK h⟩
  | rp t x off => obtain ⟨a, vs, h1, h2, h3, h4, h5⟩ := h; exact ⟨a, vs, h1, Rp.mono hK _ _ h2, hK _ h4 h3, h4, h5⟩
  | _ => exact h

/-! ### a call -/
section
variable {P : Program} {E : Env} {b : Base} {S : St} {c : Cc} {w : World}

theorem kp_sl_ms (S : St) (ks : List Kl) : (S.kp ks).ms = S.ms ∧ (S.kp ks).ow = S.ow ∧ ∀ k i, (S.kp ks).mc k i = (S.mc k i).kp ks :=
  ⟨kp_ms S ks, kp_ow S ks, fun k i => kp_mc S ks k i⟩

theorem call_did (hi : Inv b S w c) {C : AC} {us : List Value} {F1 : List Nat} (hA : AInv b S c w C us F1) {rows : List (List ALeaf) × List Nat} {r : Res}
    (hro : C.bw = [] ∨ (r.val.any A1.hasRo = false ∧ (r.rows.any fun l => l.any fun x => x.1.hasRo) = false)) {d : Nat} {vs : List S1 × List (Nat × Own)} {rs : List (Nat × List Leaf) × List (Nat × Own)}
    (hv : backVals (C.ms.map (·.1)) (kd d 0) r.val = some vs) (hr : backRows (kd d 512) (C.ms.map (·.1)) r.rows = some rs) (hu2 : unlike ((vs.2 ++ rs.2).map (·.1)) = true) (hlen : r.rows.map List.length = C.ms.map fun m => m.2.length)
    {F2 : List Nat} (hF2 : Held c rows.2 F2) (hgv2 : Ows S rows.2) {v : Value} {w' : World} (hp : CallPost w (KB b S c C.bw) (C.ms.map fun p => c.mb p.1) (F1 ++ F2) r v w') :
    Did b S c w ⟨tupled vs.1, gone (C.gv ++ rows.2) ++ gone ((vs.2 ++ rs.2).map (·.1)), goneU (C.gv ++ rows.2) ++ (ownsU (vs.2 ++ rs.2) ++ rowsU rs.1)⟩ v w' := by
  obtain ⟨vals, G1, G2, rfl, p1, p2, p3, p4, p5⟩ := hp
  have hmap : (C.ms.map fun p => c.mb p.1) = (C.ms.map (·.1)).map c.mb := by rw [List.map_map]; rfl
  rw [hmap] at p1 p2 p3 p5
  generalize hms : C.ms.map (·.1) = msK at *
  let K2 : Nat → Prop := fun g => (Kok b S c g ∧ g < w.heap.size) ∨ (w.heap.size ≤ g ∧ g ∉ G1 ++ G2)
  have q12 : FL (A1Ok w' K2 (msK.map c.mb)) r.val vals G1 ∧ RowsOk w' K2 (msK.map c.mb) r.rows G2 := by
    rcases hro with hb | ⟨h1, h2⟩
    · have hK : ∀ g, g < w'.heap.size → ((KB b S c C.bw g ∨ w.heap.size ≤ g) ∧ g ∉ msK.map c.mb ++ (G1 ++ G2)) → K2 g := by
        rintro g _ ⟨h1, h2⟩
        by_cases hg : g < w.heap.size
        · rcases h1 with h1 | h1
          · rcases h1 with h1 | ⟨k, hk, _⟩
            · exact .inl ⟨h1, hg⟩
            · rw [hb] at hk; cases hk
          · omega
        · exact .inr ⟨by omega, fun h => h2 (by simp only [List.mem_append] at h ⊢; exact .inr h)⟩
      exact ⟨p1.mono fun _ _ _ h => A1Ok.mono hK h, RowsOk.mono hK p2⟩
    · rw [List.any_eq_false] at h1
      exact ⟨FL.mono' (fun x hx v F _ h => A1Ok.noRo (by simpa using h1 x hx) h) p1, RowsOk.noRo h2 p2⟩
  obtain ⟨q1, q2⟩ := q12
  obtain ⟨n1, a1, a2⟩ := backVals_ok msK c.mb r.val (kd d 0) q1 hv
  obtain ⟨b1, b2, n2, b3, b4⟩ := backRows_ok c.mb msK r.rows (kd d 512) q2 hr
  generalize hgs : C.gv ++ rows.2 = gs at *
  have hgo : Ows S gs := by rw [← hgs]; exact ows_append hA.gv hgv2
  have hFh : Held c gs (F1 ++ F2) := by
    intro g hg
    rw [← hgs]
    rcases List.mem_append.1 hg with hg | hg
    · obtain ⟨k, h, h'⟩ := hA.held g hg; exact ⟨k, by simp [h], h'⟩
    · obtain ⟨k, h, h'⟩ := hF2 g hg; exact ⟨k, by simp [h], h'⟩
  have hall : FL (NwOk w' K2) (vs.2 ++ rs.2) (n1 ++ n2) (G1 ++ G2) := a1.append b3
  have hnl : n1.length = vs.2.length := a1.len
  have hkeys := unlike_nodup hu2
  have hnd : (G1 ++ G2).Nodup := (List.nodup_append.1 p3).2.1
  have hmsK : ∀ k, k ∈ msK → S.ms k ≠ none := by
    intro k hk
    rw [← hms] at hk
    obtain ⟨p, hp, rfl⟩ := List.mem_map.1 hk
    rw [hA.ms p hp]; simp
  have hmsN : msK.Nodup := by rw [← hms]; exact hA.un
  generalize hl : vs.2 ++ rs.2 = l at *
  generalize hns : n1 ++ n2 = ns at *
  generalize hks : gone gs ++ gone (l.map (·.1)) = ks
  generalize hS : (S.kp ks).ups (goneU gs ++ (ownsU l ++ rowsU rs.1)) = S'
  have hg := goneU_ow gs (S.kp ks)
  obtain ⟨o1, o2, _, o4⟩ := ownsU_at l ((S.kp ks).ups (goneU gs)) hkeys
  obtain ⟨r1, r2, _, r4, r5⟩ := rowsU_at rs.1 (((S.kp ks).ups (goneU gs)).ups (ownsU l)) (by rw [b1]; exact hmsN)
  rw [ups_append, ups_append] at hS
  obtain ⟨e1, e2, e3⟩ := kp_sl_ms S ks
  let news : Nat → Option New := fun k => find ((l.map (·.1)).zip ns) k
  have how : ∀ k, S'.ow k = match news k with | some n => some n.o | none => if k ∈ gs then none else S.ow k := by
    intro k
    rw [← hS, r2, o4, hg.2.2, e2]
    have := news_find hall k
    show _ = match find ((l.map (·.1)).zip ns) k with | some n => some n.o | none => if k ∈ gs then none else S.ow k
    cases hf : find ((l.map (·.1)).zip ns) k with
    | none => rw [hf] at this; simp only at this; rw [← this]
    | some n => rw [hf] at this; simp only at this; rw [← this]
  have hms' : S'.ms = S.ms := by rw [← hS, r1, o1, hg.1, e1]
  have hmc : ∀ k i, k ∉ msK → S'.mc k i = (S.mc k i).kp ks := by
    intro k i hk
    rw [← hS, r4 k i (by rw [b1]; exact hk), o2, hg.2.1, e3]
  have hrowmc : ∀ p, p ∈ rs.1 → ∀ i, i < p.2.length → S'.mc p.1 i = p.2.getD i .no := by
    intro p hp i hi'
    rw [← hS]; exact r5 p hp i hi'
  have hHv : ∀ c', (∀ k n, news k = some n → c'.hv k = n.h) → Hv S' c' l ns := by
    intro c' hc' k n hk
    have hf : find ((l.map (·.1)).zip ns) k = some n := find_mem (by
      rw [List.map_fst_zip (by rw [hall.len]; simp)]; exact hkeys) hk
    exact ⟨by rw [how, show news k = some n from hf], hc' k n hf⟩
  have hK2 : ∀ K', KSame w w' (Kok b S c) K' → (∀ g, w.heap.size ≤ g → (∀ k n, news k = some n → g ∉ n.F) → K' g) → ∀ g, g < w'.heap.size → K2 g → K' g := by
    rintro K' hK hfr g _ (⟨h1, h2⟩ | ⟨h1, h2⟩)
    · exact (hK.2 g h1 h2).2
    · exact hfr g h1 fun k n hk hg => h2 ((news_in hall k n hk).2.1 g hg)
  have hmany := hi.many (S' := S') (w' := w') news gs msK ks how hms' hmc (fun k hk => by rw [← hks]; simp [gone, hk])
    (fun k n hk => by rw [← hks]; refine List.mem_append.2 (.inr ?_); exact List.mem_map.2 ⟨k, (news_in hall k n hk).1, rfl⟩)
    (p5.mono (by
      intro g hg
      rcases List.mem_append.1 hg with hg | hg
      · obtain ⟨k, hk, rfl⟩ := List.mem_map.1 hg
        exact .inr ⟨k, hk, hmsK k hk, rfl⟩
      · obtain ⟨k, h, h'⟩ := hFh g hg
        exact .inl ⟨k, h, hgo k h, h'⟩))
    (fun k n hk g hg => by
      have := p4 g ((news_in hall k n hk).2.1 g hg)
      refine ⟨this.1, this.2.imp (fun h => ?_) id⟩
      obtain ⟨k, h, h'⟩ := hFh g h
      exact ⟨k, h, hgo k h, h'⟩)
    (fun k n hk => (news_in hall k n hk).2.2.1 hnd) (fun k n k' n' hne hk hk' => news_dis hall hnd k n k' n' hne hk hk')
    (fun K' hK hfr k n hk => Rp.mono (hK2 K' hK hfr) _ _ (news_in hall k n hk).2.2.2)
    (fun K' c' hK hfr hhv k n hk hn => by
      have hb := hHv c' hhv
      rw [← hl, ← hns] at hb
      rw [← b1] at hk
      obtain ⟨p, hp, rfl⟩ := List.mem_map.1 hk
      obtain ⟨cs, e, fr, h1, h2, h3⟩ := b4 S' c' (Hv.right hnl hb) p hp
      have hsz : p.2.length = n := by
        obtain ⟨i, hi', hpi⟩ := List.getElem_of_mem hp
        have q1 : (rs.1.map (·.1))[i]? = some p.1 := by rw [List.getElem?_map, List.getElem?_eq_getElem hi', hpi]; rfl
        have q2 : (rs.1.map (·.2.length))[i]? = some p.2.length := by rw [List.getElem?_map, List.getElem?_eq_getElem hi', hpi]; rfl
        rw [b1, ← hms, List.getElem?_map, Option.map_eq_some_iff] at q1
        obtain ⟨m, hm, hm1⟩ := q1
        rw [b2, hlen, List.getElem?_map, hm] at q2
        injection q2 with q2
        have := hA.ms m (List.mem_of_getElem? hm)
        rw [hm1, hn] at this
        injection this with this
        rw [this, ← q2]
      refine ⟨cs, e, fr, h1, by rw [← hsz, h3.len]; simp, h2, fun i u hu => ?_⟩
      have hlt : i < p.2.length := by rw [h3.len]; simpa using (Array.getElem?_eq_some_iff.1 hu).1
      obtain ⟨u', hu1, hu2⟩ := h3.get (List.getElem?_eq_getElem hlt)
      rw [hrowmc p hp i hlt, List.getD_eq_getElem?_getD, List.getElem?_eq_getElem hlt, Option.getD_some]
      have : u' = u := by
        rw [Array.getElem?_toList, hu] at hu1
        injection hu1 with hu1; exact hu1.symm
      subst this
      exact LeafOk.mono (hK2 K' hK hfr) hu2)
  obtain ⟨c', m1, m2, m3, m4, m5⟩ := hmany
  have hS' : (S.kp ks).ups (goneU gs ++ (ownsU l ++ rowsU rs.1)) = S' := by rw [ups_append, ups_append]; exact hS
  unfold Did
  simp only
  rw [hS']
  refine ⟨c', m3, m4, ?_⟩
  have hb := hHv c' fun k n hk => (m2 k n hk).1
  rw [← hl, ← hns] at hb
  refine tupled_ok ?_
  have := a2 S' c' (Hv.left hnl hb) (fun k hk => by rw [hms']; exact hmsK k hk) (fun k _ => by rw [m1])
  exact this.mono fun _ _ h => S1Ok.mono (hK2 _ m4.kk m5) h

theorem zip_all {p : SV → Value → Prop} : ∀ {xs : List SV} {us : List Value} {ts : List TypeId}, All2 p xs us → xs.length = ts.length → All2 (fun (x : SV × TypeId) u => p x.1 u) (xs.zip ts) us
  | [], _, [], .nil, _ => .nil
  | _ :: _, _, _ :: _, .cons h1 h2, h => .cons h1 (zip_all h2 (by simpa using h))
  | [], _, _ :: _, _, h => by simp at h
  | _ :: _, _, [], _, h => by simp at h

theorem callT_ok (hE : EnvOk P E) {N : Nat} {a : Act} (hi : Inv b S w c) (hs : Slots N S c w (Kok b S c) a) {o : Oper} {f : FuncId} {args : Array Operand} {ts : Array TypeId} {d : Nat} {out : Out} (ho : o.op = .call ⟨.value (.func f), args, ts⟩)
    (hsz : args.size = ts.size) (h : (callT E d f ((args.toList.map (opnd S)).zip ts.toList)).ev S = some out) : Goes P o a w fun v w' => Did b S c w out v w' := by
  unfold callT at h
  simp only [ev_bind, Option.bind_eq_some_iff] at h
  obtain ⟨C, hC, rows, hrows, h⟩ := h
  split at h
  · rename_i hun
    simp only [Bool.and_eq_true, List.all_eq_true, Bool.not_eq_true'] at hun
    obtain ⟨hun, hbw⟩ := hun
    simp only [ev_bind, Option.bind_eq_some_iff] at h
    obtain ⟨r, hr, h⟩ := h
    split at h
    · rename_i hro
      split at h
      · rename_i vs rs hv hrs
        split at h
        · rename_i hu
          simp only [Bool.and_eq_true, decide_eq_true_eq] at hu
          obtain ⟨hu2, hlen⟩ := hu
          simp only [Tr.ev, Option.some.injEq] at h
          subst h
          have hall := zip_all (args_all hs args.toList) (by simpa using hsz : (args.toList.map (opnd S)).length = ts.toList.length)
          obtain ⟨F1, hA⟩ := argsT_ok hi _ _ _ {} [] [] hall ⟨fun _ _ => ⟨rfl, rfl⟩, fun g hg => (by cases hg), fun k hk => (by cases hk), fun k hk => (by cases hk), fun _ => by simp, fun p hp => (by cases hp), by simp⟩ hC
          rw [List.nil_append] at hA
          obtain ⟨hgv2, F2, hR, hnd2, hF2⟩ := rowsOf_ok hi C.ms hA.ms hrows
          obtain ⟨u1, u2, u3⟩ := unlike_append hun
          have hFn := held_append hi hA.held hF2 hA.gv hgv2 hun (hA.nd u1) (hnd2 u2)
          obtain ⟨hFh, hFnd⟩ := hFn
          have hgo := ows_append hA.gv hgv2
          obtain ⟨⟨fn, hf, hname, hbody⟩, hcs⟩ := hE.ca f C.as rows.1 S r hr
          have hfl := hA.fl [] []
          rw [List.append_nil, List.append_nil] at hfl
          have hmsO : ∀ g, g ∈ C.ms.map (fun p => c.mb p.1) → ∃ k, S.ms k ≠ none ∧ c.mb k = g := by
            intro g hg
            obtain ⟨p, hp, rfl⟩ := List.mem_map.1 hg
            exact ⟨p.1, by rw [hA.ms p hp]; simp, rfl⟩
          have hmsN : (C.ms.map fun p => c.mb p.1).Nodup := by
            have h1 : (C.ms.map fun p => c.mb p.1) = (C.ms.map (·.1)).map c.mb := by rw [List.map_map]; rfl
            have h2 : ∀ k, k ∈ C.ms.map (·.1) → S.ms k ≠ none := by
              intro k hk
              obtain ⟨p, hp, rfl⟩ := List.mem_map.1 hk
              rw [hA.ms p hp]; simp
            rw [h1]
            have h3 := hA.un
            revert h2 h3
            generalize C.ms.map (·.1) = l
            intro h2 h3
            induction l with
            | nil => simp
            | cons k l ih =>
              obtain ⟨g1, g2⟩ := List.nodup_cons.1 h3
              rw [List.map_cons, List.nodup_cons]
              refine ⟨fun hm => ?_, ih (fun k hk => h2 k (List.mem_cons_of_mem _ hk)) g2⟩
              obtain ⟨k', hk', he⟩ := List.mem_map.1 hm
              have hne : k' ≠ k := by rintro rfl; exact g1 hk'
              exact hi.mm k' k hne (h2 k' (List.mem_cons_of_mem _ hk')) (h2 k (by simp)) he
          have hcall := hcs w (args.toList.map a.eval) (KB b S c C.bw) (C.ms.map fun p => c.mb p.1) F1 F2 hfl (hR C.bw) (by
            refine List.nodup_append.2 ⟨hmsN, hFnd, ?_⟩
            rintro g hg g' hg' rfl
            obtain ⟨k, hk, rfl⟩ := hmsO g hg
            obtain ⟨k', hk', hgk⟩ := hFh _ hg'
            exact hi.mo k k' hk (hgo k' hk') hgk) (by
            intro g hg
            rcases List.mem_append.1 hg with hg | hg
            · obtain ⟨k, hk, rfl⟩ := hmsO g hg
              have hO : Owned S c (c.mb k) := .inl ⟨k, hk, rfl⟩
              refine ⟨(hi.fr _ hO).1, ?_⟩
              rintro (h | ⟨k', hk', hgk⟩)
              · exact h.2 hO
              · exact hi.mo k k' hk (hA.bw k' hk') hgk
            · obtain ⟨k, hk, hgk⟩ := hFh g hg
              have hO : Owned S c g := .inr ⟨k, hgo k hk, hgk⟩
              refine ⟨(hi.fr _ hO).1, ?_⟩
              rintro (h | ⟨k', hk', hgk'⟩)
              · exact h.2 hO
              · have hne : k ≠ k' := by
                  rintro rfl
                  have := hbw k hk'
                  simp only [List.contains_eq_mem, decide_eq_false_iff_not] at this
                  exact this hk
                exact hi.oo k k' hne (hgo k hk) (hA.bw k' hk') g hgk hgk')
          intro next Q hnext
          have hargs : args.map a.eval = (args.toList.map a.eval).toArray := by apply Array.ext'; simp
          unfold Oper.wp
          have hrun : (execOp a.eval o).run P w = .ok (.enter f (args.toList.map a.eval).toArray) w := by
            rw [← hargs]
            have hname' : ¬ fn.name = "runtime.NumGoroutine" := by simpa using hname
            have hbody' : ¬ fn.body = none := by
              intro hb
              rw [hb] at hbody
              cases hbody
            simp [execOp, ho, resolve, Deferred.ofValue, Act.eval, invoke, callFunc, hf, hname', hbody']
          rw [hrun]
          refine Calls.mono hcall ?_
          rintro e w' ⟨v, rfl, hp⟩
          refine hnext v w' (call_did hi hA ?_ hv hrs hu2 hlen hF2 hgv2 hp)
          simp only [Bool.or_eq_true, Bool.not_eq_true', Bool.or_eq_false_iff, List.isEmpty_iff] at hro
          exact hro
        · simp [Tr.ev] at h
      · simp [Tr.ev] at h
    · simp [Tr.ev] at h
  · simp [Tr.ev] at h
end

#print axioms callT_ok
#print axioms call_did
end Go.V
