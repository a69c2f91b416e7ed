/-
  S17: templates: what is forgotten and named anew is still so.
-/
import Derived.Test.YtdicgiljgelkfaaS16
namespace Go.V
open Go.RowKit

/-! ### tuples -/
theorem tuple_0 (vs : List (Nat × ALeaf)) (i : Nat) : tuple vs [] i = some () := rfl
theorem tuple_1 (vs : List (Nat × ALeaf)) (t : Ty) (i : Nat) : tuple vs [t] i = match find vs i with
    | some ⟨u, x⟩ => if h : u = t then some (h ▸ x) else none
    | none => none := rfl
theorem tuple_2 (vs : List (Nat × ALeaf)) (t u : Ty) (ts : List Ty) (i : Nat) : tuple vs (t :: u :: ts) i = match find vs i with
    | some ⟨u', x⟩ => if h : u' = t then match tuple vs (u :: ts) (i + 1) with
      | some y => some (h ▸ x, y)
      | none => none
      else none
    | none => none := rfl
theorem split_1 (t : Ty) (x : t.D) : split [t] x = [⟨t, x⟩] := rfl
theorem split_2 (t u : Ty) (ts : List Ty) (x : t.D × (rowTy (u :: ts)).D) : split (t :: u :: ts) x = ⟨t, x.1⟩ :: split (u :: ts) x.2 := rfl

theorem tuple_split (vs : List (Nat × ALeaf)) : ∀ (ts : List Ty) (i : Nat) (x : (rowTy ts).D), tuple vs ts i = some x → ∀ j, j < ts.length → find vs (i + j) = (split ts x)[j]? := by
  intro ts
  induction ts with
  | nil => intro i x _ j hj; simp at hj
  | cons t ts ih =>
    intro i x h j hj
    cases ts with
    | nil =>
      obtain rfl : j = 0 := by simp at hj; exact hj
      rw [tuple_1] at h
      show find vs (i + 0) = [(⟨t, x⟩ : ALeaf)][0]?
      split at h
      · rename_i u y hf
        split at h
        · rename_i hu
          subst hu
          injection h with h
          subst h
          exact hf
        · cases h
      · cases h
    | cons u ts =>
      rw [tuple_2] at h
      split at h
      · rename_i u' y hf
        split at h
        · rename_i hu
          subst hu
          split at h
          · rename_i z hz
            injection h with h
            subst h
            show find vs (i + j) = ((⟨_, y⟩ : ALeaf) :: split (u :: ts) z)[j]?
            cases j with
            | zero => exact hf
            | succ j =>
              have := ih (i + 1) z hz j (by simpa using hj)
              rw [List.getElem?_cons_succ, ← this]
              congr 1; omega
          · cases h
        · cases h
      · cases h

/-! ### matching -/
structure Le (m m' : Mt) : Prop where
  ro : ∀ x, x ∈ m.ro → x ∈ m'.ro
  rm : ∀ x, x ∈ m.rm → x ∈ m'.rm
  nl : ∀ x, x ∈ m.nl → x ∈ m'.nl
  vs : ∀ x, x ∈ m.vs → x ∈ m'.vs
theorem Le.refl (m : Mt) : Le m m := ⟨fun _ h => h, fun _ h => h, fun _ h => h, fun _ h => h⟩
theorem Le.trans {a b c : Mt} (h : Le a b) (k : Le b c) : Le a c := ⟨fun x hx => k.ro x (h.ro x hx), fun x hx => k.rm x (h.rm x hx), fun x hx => k.nl x (h.nl x hx), fun x hx => k.vs x (h.vs x hx)⟩

theorem addKey_ok {l l' : List (Nat × Nat)} {a b : Nat} (h : addKey l a b = some l') : (a, b) ∈ l' ∧ ∀ x, x ∈ l → x ∈ l' := by
  unfold addKey at h
  split at h
  · rename_i c hc
    split at h
    · rename_i hcb
      subst hcb
      injection h with h
      subst h
      exact ⟨find_some_mem hc, fun _ h => h⟩
    · cases h
  · injection h with h
    subst h
    exact ⟨by simp, fun x hx => by simp [hx]⟩

section
variable {holes : List Ty} {S S0 : St} {c c0 : Cc} {w : World} {K K0 : Nat → Prop}

/-- what the last word of a matching says -/
structure Fin (hs : List ALeaf) (m : Mt) (S S0 : St) (c c0 : Cc) (w : World) (K K0 : Nat → Prop) : Prop where
  k : ∀ g, g < w.heap.size → K g → K0 g
  vs : ∀ i x, (i, x) ∈ m.vs → hs[i]? = some x
  ro : ∀ κ k, (κ, k) ∈ m.ro → S0.ow κ = S.ow k ∧ c0.hv κ = c.hv k
  nl : ∀ κ, κ ∈ m.nl → (∃ e r, S0.ow κ = some ⟨e, r, []⟩) ∧ c0.hv κ = .slice none 0 0
  rm : ∀ κ k, (κ, k) ∈ m.rm → (S.ms k ≠ none → S0.ms κ ≠ none) ∧ c0.mb κ = c.mb k

theorem mtL_ok {hs : List ALeaf} {mf : Mt} {m m' : Mt} {t : TL} {l : Leaf} (h : t.mt holes m l = some m') : Le m m' ∧ (Le m' mf → Fin hs mf S S0 c c0 w K K0 → ∀ v, LeafOk S c w K l v → LeafOk S0 c0 w K0 (t.inj hs) v) := by
  unfold TL.mt at h
  split at h
  · rename_i i t x
    injection h with h
    subst h
    refine ⟨⟨fun _ h => h, fun _ h => h, fun _ h => h, fun x hx => by simp [hx]⟩, fun hl hf v hv => ?_⟩
    have := hf.vs i ⟨t, x⟩ (hl.vs _ (by simp))
    simp only [TL.inj, this]
    exact LeafOk.mono hf.k hv
  · rename_i i
    split at h
    · rename_i e r _
      injection h with h
      subst h
      refine ⟨⟨fun _ h => h, fun _ h => h, fun _ h => h, fun x hx => by simp [hx]⟩, fun hl hf v hv => ?_⟩
      have := hf.vs i ⟨.sl false e r, []⟩ (hl.vs _ (by simp))
      simp only [TL.inj, this]
      obtain rfl : v = .slice none 0 0 := hv
      show Rp w K0 (.sl false e r) [] _ _
      rw [Rp]
      exact ⟨rfl, none, 0, [], rfl, Nat.le_refl _, ⟨rfl, rfl⟩, .inl rfl⟩
    · cases h
  · rename_i κ k
    split at h
    · rename_i l hl
      injection h with h
      subst h
      obtain ⟨h1, h2⟩ := addKey_ok hl
      refine ⟨⟨h2, fun _ h => h, fun _ h => h, fun _ h => h⟩, fun hle hf v hv => ?_⟩
      obtain ⟨h3, h4⟩ := hf.ro κ k (hle.ro _ h1)
      obtain ⟨o, e, r, ys, hd, q1, q2, q3, q4⟩ := hv
      exact ⟨o, e, r, ys, hd, by rw [h3]; exact q1, q2, by rw [h4]; exact q3, q4⟩
    · cases h
  · rename_i κ
    injection h with h
    subst h
    refine ⟨⟨fun _ h => h, fun _ h => h, fun x hx => by simp [hx], fun _ h => h⟩, fun hle hf v hv => ?_⟩
    obtain ⟨⟨e, r, h3⟩, h4⟩ := hf.nl κ (hle.nl _ (by simp))
    obtain rfl : v = .slice none 0 0 := hv
    exact ⟨_, e, r, [], .slice none 0 0, h3, rfl, by rw [h4]; rfl, rfl⟩
  · injection h with h
    subst h
    exact ⟨Le.refl _, fun _ _ v hv => hv⟩
  · injection h with h
    subst h
    exact ⟨Le.refl _, fun _ _ v _ => trivial⟩
  · cases h

theorem mtsL_ok {hs : List ALeaf} {mf : Mt} : ∀ (ts : List TL) (ls : List Leaf) {m m' : Mt}, TL.mts holes m ts ls = some m' → Le m m' ∧ (Le m' mf → Fin hs mf S S0 c c0 w K K0 → ∀ vs, All2 (LeafOk S c w K) ls vs → All2 (LeafOk S0 c0 w K0) (ts.map (TL.inj hs)) vs)
  | [], [], m, m', h => by
    rw [TL.mts] at h
    injection h with h
    subst h
    exact ⟨Le.refl _, fun _ _ vs hv => by cases hv; exact .nil⟩
  | t :: ts, l :: ls, m, m', h => by
    rw [TL.mts] at h
    split at h
    · rename_i m1 h1
      obtain ⟨q1, q2⟩ := mtL_ok (hs := hs) (mf := mf) (S := S) (S0 := S0) (c := c) (c0 := c0) (w := w) (K := K) (K0 := K0) h1
      obtain ⟨q3, q4⟩ := mtsL_ok ts ls h
      refine ⟨q1.trans q3, fun hle hf vs hv => ?_⟩
      cases hv with
      | cons a1 a2 => exact .cons (q2 (q3.trans hle) hf _ a1) (q4 hle hf _ a2)
    · cases h
  | [], _ :: _, _, _, h => by simp [TL.mts] at h
  | _ :: _, [], _, _, h => by simp [TL.mts] at h

theorem mtS_ok {hs : List ALeaf} {mf : Mt} {m m' : Mt} {t : TS} {x : SV} (h : t.mt holes m x = some m') : Le m m' ∧ (Le m' mf → Fin hs mf S S0 c c0 w K K0 → ∀ v, SVOk S c w K x v → SVOk S0 c0 w K0 (.s (t.inj hs)) v) := by
  unfold TS.mt at h
  split at h
  · obtain ⟨q1, q2⟩ := mtL_ok (hs := hs) (mf := mf) (S := S) (S0 := S0) (c := c) (c0 := c0) (w := w) (K := K) (K0 := K0) h
    exact ⟨q1, fun hle hf v hv => q2 hle hf v hv⟩
  · obtain ⟨q1, q2⟩ := mtsL_ok (hs := hs) (mf := mf) (S := S) (S0 := S0) (c := c) (c0 := c0) (w := w) (K := K) (K0 := K0) _ _ h
    refine ⟨q1, fun hle hf v hv => ?_⟩
    obtain ⟨vs, rfl, hv⟩ := hv
    exact ⟨vs, rfl, q2 hle hf vs hv⟩
  · rename_i κ off k off'
    split at h
    · rename_i ho
      subst ho
      split at h
      · rename_i l hl
        injection h with h
        subst h
        obtain ⟨h1, h2⟩ := addKey_ok hl
        refine ⟨⟨fun _ h => h, h2, fun _ h => h, fun _ h => h⟩, fun hle hf v hv => ?_⟩
        obtain ⟨h3, h4⟩ := hf.rm κ k (hle.rm _ h1)
        obtain ⟨n, hn, rfl⟩ := hv
        obtain ⟨n', hn'⟩ := Option.ne_none_iff_exists'.1 (h3 (by rw [hn]; simp))
        exact ⟨n', hn', by rw [h4]⟩
      · cases h
    · cases h
  · cases h

theorem mtSlots_ok {hs : List ALeaf} {mf : Mt} : ∀ (l : List (Nat × TS)) {m m' : Mt}, mtSlots holes S l m = some m' → Le m m' ∧ (Le m' mf → Fin hs mf S S0 c c0 w K K0 → ∀ i t, (i, t) ∈ l → ∀ v, SVOk S c w K (S.sl i) v → SVOk S0 c0 w K0 (.s (t.inj hs)) v)
  | [], m, m', h => by
    rw [mtSlots] at h
    injection h with h
    subst h
    exact ⟨Le.refl _, fun _ _ i t hm => by cases hm⟩
  | (i, t) :: l, m, m', h => by
    rw [mtSlots] at h
    split at h
    · rename_i m1 h1
      obtain ⟨q1, q2⟩ := mtS_ok (hs := hs) (mf := mf) (S := S) (S0 := S0) (c := c) (c0 := c0) (w := w) (K := K) (K0 := K0) h1
      obtain ⟨q3, q4⟩ := mtSlots_ok l h
      refine ⟨q1.trans q3, fun hle hf j u hm v hv => ?_⟩
      rcases List.mem_cons.1 hm with hm | hm
      · injection hm with e1 e2
        subst e1 e2
        exact q2 (q3.trans hle) hf v hv
      · exact q4 hle hf j u hm v hv
    · cases h

theorem mtRow_ok {hs : List ALeaf} {mf : Mt} (k : Nat) : ∀ (ts : List TL) (i : Nat) {m m' : Mt}, mtRow holes S k ts i m = some m' →
    Le m m' ∧ (Le m' mf → Fin hs mf S S0 c c0 w K K0 → ∀ j t, ts[j]? = some t → ∀ v, LeafOk S c w K (S.mc k (i + j)) v → LeafOk S0 c0 w K0 (t.inj hs) v)
  | [], i, m, m', h => by
    rw [mtRow] at h
    injection h with h
    subst h
    exact ⟨Le.refl _, fun _ _ j t hm => by simp at hm⟩
  | t :: ts, i, m, m', h => by
    rw [mtRow] at h
    split at h
    · rename_i m1 h1
      obtain ⟨q1, q2⟩ := mtL_ok (hs := hs) (mf := mf) (S := S) (S0 := S0) (c := c) (c0 := c0) (w := w) (K := K) (K0 := K0) h1
      obtain ⟨q3, q4⟩ := mtRow_ok k ts (i + 1) h
      refine ⟨q1.trans q3, fun hle hf j u hm v hv => ?_⟩
      cases j with
      | zero =>
        simp only [List.getElem?_cons_zero, Option.some.injEq] at hm
        subst hm
        exact q2 (q3.trans hle) hf v hv
      | succ j => exact q4 hle hf j u (by simpa using hm) v (by rwa [show i + (j + 1) = i + 1 + j by omega] at hv)
    · cases h

theorem mtMems_ok {hs : List ALeaf} {mf : Mt} : ∀ (l : List (Nat × List TL)) {m m' : Mt}, mtMems holes S l m = some m' →
    Le m m' ∧ (Le m' mf → ∀ κ row, (κ, row) ∈ l → ∃ k, (κ, k) ∈ mf.rm ∧ S.ms k = some row.length ∧ (Fin hs mf S S0 c c0 w K K0 → ∀ j t, row[j]? = some t → ∀ v, LeafOk S c w K (S.mc k j) v → LeafOk S0 c0 w K0 (t.inj hs) v))
  | [], m, m', h => by
    rw [mtMems] at h
    injection h with h
    subst h
    exact ⟨Le.refl _, fun _ i t hm => by cases hm⟩
  | (κ, row) :: l, m, m', h => by
    rw [mtMems] at h
    split at h
    · rename_i k hk
      split at h
      · rename_i hn
        split at h
        · rename_i m1 h1
          obtain ⟨q1, q2⟩ := mtRow_ok (hs := hs) (mf := mf) (S := S) (S0 := S0) (c := c) (c0 := c0) (w := w) (K := K) (K0 := K0) k row 0 h1
          obtain ⟨q3, q4⟩ := mtMems_ok l h
          refine ⟨q1.trans q3, fun hle κ' row' hm => ?_⟩
          rcases List.mem_cons.1 hm with hm | hm
          · injection hm with e1 e2
            subst e1 e2
            exact ⟨k, (q1.trans (q3.trans hle)).rm _ (find_some_mem hk), hn, fun hf j t ht v hv => q2 (q3.trans hle) hf j t ht v (by rwa [Nat.zero_add])⟩
          · exact q4 hle κ' row' hm
        · cases h
      · cases h
    · cases h

theorem mtOwns_ok : ∀ (l : List (Nat × Nat)) {m m' : Mt}, mtOwns holes S l m = some m' →
    Le m m' ∧ m'.ro = m.ro ∧ m'.nl = m.nl ∧ ∀ κ h, (κ, h) ∈ l → (∃ k o, (κ, k) ∈ m.ro ∧ S.ow k = some o ∧ (h, (⟨.sl true o.e o.r, o.xs⟩ : ALeaf)) ∈ m'.vs) ∨ (κ ∈ m.nl ∧ ∃ e r, (h, (⟨.sl true e r, []⟩ : ALeaf)) ∈ m'.vs)
  | [], m, m', h => by
    rw [mtOwns] at h
    injection h with h
    subst h
    exact ⟨Le.refl _, rfl, rfl, fun _ _ hm => by cases hm⟩
  | (κ, hh) :: l, m, m', h => by
    rw [mtOwns] at h
    have add : ∀ (x : ALeaf), Le m { m with vs := (hh, x) :: m.vs } := fun x => ⟨fun _ h => h, fun _ h => h, fun _ h => h, fun y hy => by simp [hy]⟩
    split at h
    · rename_i k hk
      split at h
      · rename_i o ho
        obtain ⟨q1, q2, q3, q4⟩ := mtOwns_ok l h
        refine ⟨(add _).trans q1, q2, q3, fun κ' h' hm => ?_⟩
        rcases List.mem_cons.1 hm with hm | hm
        · injection hm with e1 e2
          subst e1 e2
          exact .inl ⟨k, o, find_some_mem hk, ho, q1.vs _ (by simp)⟩
        · exact q4 κ' h' hm
      · cases h
    · split at h
      · rename_i hc
        split at h
        · rename_i e r _
          obtain ⟨q1, q2, q3, q4⟩ := mtOwns_ok l h
          refine ⟨(add _).trans q1, q2, q3, fun κ' h' hm => ?_⟩
          rcases List.mem_cons.1 hm with hm | hm
          · injection hm with e1 e2
            subst e1 e2
            exact .inr ⟨by simpa using hc, e, r, q1.vs _ (by simp)⟩
          · exact q4 κ' h' hm
        · cases h
      · cases h
end

theorem snd_inj : ∀ {l : List (Nat × Nat)} {a b k : Nat}, (l.map (·.2)).Nodup → (a, k) ∈ l → (b, k) ∈ l → a = b
  | [], _, _, _, _, h, _ => by cases h
  | (i, j) :: l, a, b, k, hn, h1, h2 => by
    rw [List.map_cons, List.nodup_cons] at hn
    rcases List.mem_cons.1 h1 with e1 | h1'
    · injection e1 with e1 e1'
      subst e1 e1'
      rcases List.mem_cons.1 h2 with e2 | h2'
      · injection e2 with e2 _; exact e2.symm
      · exact absurd (List.mem_map.2 ⟨(b, k), h2', rfl⟩) hn.1
    · rcases List.mem_cons.1 h2 with e2 | h2'
      · injection e2 with e2 e2'
        subst e2 e2'
        exact absurd (List.mem_map.2 ⟨(a, k), h1', rfl⟩) hn.1
      · exact snd_inj hn.2 h1' h2'

/-- what is forgotten and named anew is still so -/
theorem Tpl.ok {b : Base} {N : Nat} {S : St} {a : Act} {w : World} (t : Tpl) {x : t.D} (h : t.prj S = some x) (hs : Sim b N S a w) : Sim b N (t.inj x) a w := by
  unfold Tpl.prj at h
  split at h
  · rename_i m hm
    split at h
    · rename_i hfine
      simp only [Mt.fine, Bool.and_eq_true, List.all_eq_true, decide_eq_true_eq, Bool.not_eq_true', beq_iff_eq] at hfine
      obtain ⟨⟨⟨⟨⟨⟨⟨⟨⟨f1, f2⟩, f3⟩, f4⟩, f5⟩, f6⟩, f7⟩, f8⟩, f9⟩, f10⟩ := hfine
      obtain ⟨c, hi, hsl⟩ := hs
      unfold Tpl.mt at hm
      split at hm
      · rename_i m1 hm1
        split at hm
        · rename_i m2 hm2
          obtain ⟨w1, w2, w3, w4⟩ := mtOwns_ok t.owns hm
          generalize hhs : split t.holes x = hs
          have hinj : t.inj x = t.injH hs := by rw [← hhs]; rfl
          rw [hinj]
          have hvs : ∀ i y, (i, y) ∈ m.vs → hs[i]? = some y := by
            intro i y hy
            have := tuple_split m.vs t.holes 0 x h i (f2 _ hy)
            rw [Nat.zero_add, hhs] at this
            rw [← this]
            exact find_mem (unlike_nodup f1) hy
          let c0 : Cc := ⟨c.mb, fun κ => match find m.ro κ with | some k => c.hv k | none => .slice none 0 0, fun κ => match find m.ro κ with | some k => c.F k | none => []⟩
          -- each owner of the template
          have how : ∀ κ, (t.injH hs).ow κ ≠ none → (∃ k o, find m.ro κ = some k ∧ S.ow k = some o ∧ (t.injH hs).ow κ = some o) ∨ (find m.ro κ = none ∧ ∃ e r, (t.injH hs).ow κ = some ⟨e, r, []⟩) := by
            intro κ hκ
            simp only [Tpl.injH] at hκ ⊢
            split at hκ
            · rename_i hh hfo
              rcases w4 κ hh (find_some_mem hfo) with ⟨k, o, k1, k2, k3⟩ | ⟨k1, e, r, k3⟩
              · rw [← w2] at k1
                refine .inl ⟨k, o, find_mem (unlike_nodup f3) k1, k2, ?_⟩
                rw [hvs _ _ k3]; rfl
              · rw [← w3] at k1
                have := (f7 κ k1).1
                refine .inr ⟨find_none (by simpa using this), e, r, ?_⟩
                rw [hvs _ _ k3]; rfl
            · exact absurd rfl hκ
          have hroO : ∀ κ k, (κ, k) ∈ m.ro → (t.injH hs).ow κ = S.ow k ∧ S.ow k ≠ none := by
            intro κ k hk
            have h8 := f8 _ hk
            obtain ⟨hh, hho⟩ := Option.isSome_iff_exists.1 h8
            rcases w4 κ hh (find_some_mem hho) with ⟨k', o, k1, k2, k3⟩ | ⟨k1, e, r, k3⟩
            · rw [← w2] at k1
              have e1 := find_mem (unlike_nodup f3) k1
              have e2 := find_mem (unlike_nodup f3) hk
              rw [e1] at e2
              injection e2 with e2
              subst e2
              refine ⟨?_, by rw [k2]; simp⟩
              simp only [Tpl.injH, hho, hvs _ _ k3, k2]; rfl
            · rw [← w3] at k1
              have := (f7 κ k1).1
              simp only [List.contains_eq_mem, decide_eq_false_iff_not] at this
              exact absurd (List.mem_map.2 ⟨(κ, k), hk, rfl⟩) this
          have hrm : ∀ κ, (t.injH hs).ms κ ≠ none → ∃ row, find t.mems κ = some row ∧ (t.injH hs).ms κ = some row.length := by
            intro κ hκ
            simp only [Tpl.injH] at hκ ⊢
            cases hfm : find t.mems κ with
            | none => rw [hfm] at hκ; exact absurd rfl hκ
            | some row => exact ⟨row, rfl, rfl⟩
          have hrmf : ∀ κ k, (κ, k) ∈ m.rm → find m.rm κ = some k := fun κ k hk => find_mem (unlike_nodup f5) hk
          have hcmb : ∀ κ k, find m.rm κ = some k → c0.mb κ = c.mb k := fun κ k hk => by show c.mb κ = _; rw [show κ = k from f10 _ (find_some_mem hk)]
          have hchv : ∀ κ k, find m.ro κ = some k → c0.hv κ = c.hv k ∧ c0.F κ = c.F k := fun κ k hk => ⟨by show (match find m.ro κ with | some k => c.hv k | none => .slice none 0 0) = _; rw [hk], by show (match find m.ro κ with | some k => c.F k | none => []) = _; rw [hk]⟩
          have hcno : ∀ κ, find m.ro κ = none → c0.hv κ = .slice none 0 0 ∧ c0.F κ = [] := fun κ hk => ⟨by show (match find m.ro κ with | some k => c.hv k | none => .slice none 0 0) = _; rw [hk], by show (match find m.ro κ with | some k => c.F k | none => []) = _; rw [hk]⟩
          -- the variables of the template are variables
          have hmem : ∀ κ row, find t.mems κ = some row → ∃ k, find m.rm κ = some k ∧ S.ms k = some row.length := by
            intro κ row hrow
            obtain ⟨_, q2⟩ := mtMems_ok (hs := hs) (mf := m) (S := S) (S0 := S) (c := c) (c0 := c) (w := w) (K := Kok b S c) (K0 := Kok b S c) t.mems hm2
            obtain ⟨k, k1, k2, _⟩ := q2 w1 κ row (find_some_mem hrow)
            exact ⟨k, hrmf κ k k1, k2⟩
          have hK : ∀ g, g < w.heap.size → Kok b S c g → Kok b (t.injH hs) c0 g := by
            rintro g _ ⟨h1, h2⟩
            refine ⟨h1, ?_⟩
            rintro (⟨κ, hκ, rfl⟩ | ⟨κ, hκ, hg⟩)
            · obtain ⟨row, hrow, _⟩ := hrm κ hκ
              obtain ⟨k, hk, hn⟩ := hmem κ row hrow
              exact h2 (.inl ⟨k, by rw [hn]; simp, (hcmb κ k hk).symm⟩)
            · rcases how κ hκ with ⟨k, o, k1, k2, k3⟩ | ⟨k1, _⟩
              · rw [(hchv κ k k1).2] at hg
                exact h2 (.inr ⟨k, by rw [k2]; simp, hg⟩)
              · rw [(hcno κ k1).2] at hg; cases hg
          have hfin : Fin hs m S (t.injH hs) c c0 w (Kok b S c) (Kok b (t.injH hs) c0) := by
            refine ⟨hK, hvs, ?_, ?_, ?_⟩
            · intro κ k hk
              exact ⟨(hroO κ k hk).1, (hchv κ k (find_mem (unlike_nodup f3) hk)).1⟩
            · intro κ hκ
              have h7 := f7 κ hκ
              have hno : find m.ro κ = none := find_none (by simpa using h7.1)
              refine ⟨?_, (hcno κ hno).1⟩
              obtain ⟨hh, hho⟩ := Option.isSome_iff_exists.1 h7.2
              rcases w4 κ hh (find_some_mem hho) with ⟨k', o, k1, k2, k3⟩ | ⟨k1, e, r, k3⟩
              · rw [← w2] at k1
                rw [find_mem (unlike_nodup f3) k1] at hno; cases hno
              · refine ⟨e, r, ?_⟩
                simp only [Tpl.injH, hho, hvs _ _ k3]; rfl
            · intro κ k hk
              refine ⟨fun _ => ?_, hcmb κ k (hrmf κ k hk)⟩
              obtain ⟨row, hrow⟩ := Option.isSome_iff_exists.1 (f9 _ hk)
              simp only [Tpl.injH, hrow]; simp
          obtain ⟨l1, g1⟩ := mtSlots_ok (hs := hs) (mf := m) (S := S) (S0 := t.injH hs) (c := c) (c0 := c0) (w := w) (K := Kok b S c) (K0 := Kok b (t.injH hs) c0) t.slots hm1
          obtain ⟨l2, g2⟩ := mtMems_ok (hs := hs) (mf := m) (S := S) (S0 := t.injH hs) (c := c) (c0 := c0) (w := w) (K := Kok b S c) (K0 := Kok b (t.injH hs) c0) t.mems hm2
          have hinjr : ∀ κ κ' k, find m.ro κ = some k → find m.ro κ' = some k → κ = κ' := by
            intro κ κ' k h1 h2
            exact snd_inj (unlike_nodup f4) (find_some_mem h1) (find_some_mem h2)
          have hinjm : ∀ κ κ' k, find m.rm κ = some k → find m.rm κ' = some k → κ = κ' := by
            intro κ κ' k h1 h2
            exact snd_inj (unlike_nodup f6) (find_some_mem h1) (find_some_mem h2)
          have hmk : ∀ κ n, (t.injH hs).ms κ = some n → ∃ row k, find t.mems κ = some row ∧ n = row.length ∧ find m.rm κ = some k ∧ S.ms k = some n := by
            intro κ n hn
            obtain ⟨row, h1, h2⟩ := hrm κ (by rw [hn]; simp)
            obtain ⟨k, k1, k2⟩ := hmem κ row h1
            rw [hn] at h2
            injection h2 with h2
            exact ⟨row, k, h1, h2, k1, by rw [k2, h2]⟩
          refine ⟨c0, ⟨?_, ?_, ?_, ?_, ?_, ?_, ?_, hi.fix, hi.os, hi.tape, hi.output, hi.size, hi.an⟩, ⟨?_, hsl.n, hsl.d⟩⟩
          · intro κ n hn
            obtain ⟨row, k, h1, rfl, h2, h3⟩ := hmk κ n hn
            obtain ⟨cs, e, fr, p1, p2, p3, p4⟩ := hi.ms k _ h3
            refine ⟨cs, e, fr, by rw [hcmb κ k h2]; exact p1, p2, p3, fun i v hv => ?_⟩
            have hlt : i < row.length := by rw [← p2]; exact (Array.getElem?_eq_some_iff.1 hv).1
            obtain ⟨k', k1, _, k3⟩ := g2 w1 κ row (find_some_mem h1)
            have : k' = k := by
              have := hrmf κ k' k1
              rw [h2] at this
              injection this with this; exact this.symm
            subst this
            have hrow : row[i]? = some row[i] := List.getElem?_eq_getElem hlt
            have hmc : (t.injH hs).mc κ i = (row[i]).inj hs := by simp only [Tpl.injH, h1, hrow]
            rw [hmc]
            exact k3 hfin i _ hrow v (p4 i v hv)
          · intro κ o ho
            rcases how κ (by rw [ho]; simp) with ⟨k, o', k1, k2, k3⟩ | ⟨k1, e, r, k3⟩
            · rw [ho] at k3
              injection k3 with k3
              subst k3
              rw [(hchv κ k k1).1, (hchv κ k k1).2]
              exact Rp.mono hK _ _ (hi.ow k o k2)
            · rw [ho] at k3
              injection k3 with k3
              subst k3
              rw [(hcno κ k1).1, (hcno κ k1).2]
              simp only [Rp]
              exact .inl ⟨trivial, trivial, trivial⟩
          · intro κ hκ
            rcases how κ hκ with ⟨k, o', k1, k2, k3⟩ | ⟨k1, _⟩
            · rw [(hchv κ k k1).2]; exact hi.nd k (by rw [k2]; simp)
            · rw [(hcno κ k1).2]; simp
          · intro κ κ' hne h1 h2 g hg
            rcases how κ h1 with ⟨k, o1, k1, k2, k3⟩ | ⟨k1, _⟩
            · rw [(hchv κ k k1).2] at hg
              rcases how κ' h2 with ⟨k', o2, q1, q2, q3⟩ | ⟨q1, _⟩
              · rw [(hchv κ' k' q1).2]
                have hne' : k ≠ k' := by rintro rfl; exact hne (hinjr κ κ' k k1 q1)
                exact hi.oo k k' hne' (by rw [k2]; simp) (by rw [q2]; simp) g hg
              · rw [(hcno κ' q1).2]; simp
            · rw [(hcno κ k1).2] at hg; cases hg
          · intro κ κ' hne h1 h2
            obtain ⟨n, hn⟩ := Option.ne_none_iff_exists'.1 h1
            obtain ⟨n', hn'⟩ := Option.ne_none_iff_exists'.1 h2
            obtain ⟨_, k, _, _, a1, a2⟩ := hmk κ n hn
            obtain ⟨_, k', _, _, b1, b2⟩ := hmk κ' n' hn'
            rw [hcmb κ k a1, hcmb κ' k' b1]
            have hne' : k ≠ k' := by rintro rfl; exact hne (hinjm κ κ' k a1 b1)
            exact hi.mm k k' hne' (by rw [a2]; simp) (by rw [b2]; simp)
          · intro κ κ' h1 h2
            obtain ⟨n, hn⟩ := Option.ne_none_iff_exists'.1 h1
            obtain ⟨_, k, _, _, a1, a2⟩ := hmk κ n hn
            rw [hcmb κ k a1]
            rcases how κ' h2 with ⟨k', o2, q1, q2, q3⟩ | ⟨q1, _⟩
            · rw [(hchv κ' k' q1).2]
              exact hi.mo k k' (by rw [a2]; simp) (by rw [q2]; simp)
            · rw [(hcno κ' q1).2]; simp
          · rintro g (⟨κ, hκ, rfl⟩ | ⟨κ, hκ, hg⟩)
            · obtain ⟨n, hn⟩ := Option.ne_none_iff_exists'.1 hκ
              obtain ⟨_, k, _, _, a1, a2⟩ := hmk κ n hn
              rw [hcmb κ k a1]
              exact hi.fr _ (.inl ⟨k, by rw [a2]; simp, rfl⟩)
            · rcases how κ hκ with ⟨k, o, k1, k2, k3⟩ | ⟨k1, _⟩
              · rw [(hchv κ k k1).2] at hg
                exact hi.fr g (.inr ⟨k, by rw [k2]; simp, hg⟩)
              · rw [(hcno κ k1).2] at hg; cases hg
          · intro i
            have := g1 (l2.trans w1) hfin
            cases hfs : find t.slots i with
            | none =>
              have : (t.injH hs).sl i = .no := by simp only [Tpl.injH, hfs]
              rw [this]; trivial
            | some s =>
              have h1 : (t.injH hs).sl i = .s (s.inj hs) := by simp only [Tpl.injH, hfs]
              rw [h1]
              exact this i s (find_some_mem hfs) _ (hsl.ok i)
        · cases hm
      · cases hm
    · cases h
  · cases h

#print axioms Tpl.ok
end Go.V
