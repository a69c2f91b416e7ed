/-
  P9: lists of parts and their bytes: what is normal is told by its bytes alone.
-/
import Derived.Test.YtdicgiljgelkfaaP8
set_option linter.unusedVariables false
set_option linter.unusedSimpArgs false
set_option maxRecDepth 100000
namespace Go.V.G
open Go.V

/-- a part that may be laid behind: of some kind, or nothing -/
def Fine (p : Prt) : Prop := p = (0, 0, []) ∨ kd p ≠ 0
theorem Fine.put (s : List UInt8) : Fine (0, 0, s) := by
  by_cases h : s = []
  · subst h; exact .inl rfl
  · exact .inr (by simp [kd, h])
theorem Fine.keep {n : Int} (h : 0 ≤ n) : Fine (n, 0, []) := by
  by_cases h0 : n = 0
  · subst h0; exact .inl rfl
  · have : 0 < n := by omega
    exact .inr (by simp [kd, this])
theorem Fine.drop {n : Int} (h : 0 ≤ n) : Fine (0, n, []) := by
  by_cases h0 : n = 0
  · subst h0; exact .inl rfl
  · have : 0 < n := by omega
    exact .inr (by simp [kd, this])
theorem pa_zero : pa (0, 0, []) = [] := by simp [pa]
theorem pa_put (s : List UInt8) : pa (0, 0, s) = s.map Atom.ins := by simp [pa]
theorem pa_keep {n : Int} (h : 0 ≤ n) : pa (n, 0, []) = List.replicate n.toNat .keep := by
  by_cases h0 : n = 0
  · subst h0; rfl
  · have : 0 < n := by omega
    simp [pa, this, mk]
theorem pa_drop {n : Int} (h : 0 ≤ n) : pa (0, n, []) = List.replicate n.toNat .drop := by simp [pa, mk]

def lastk (k : Int) (l : List Prt) : Int := match l.getLast? with
  | some q => kd q
  | none => k
theorem okk_append (k : Int) : ∀ (a b : List Prt), okk k (a ++ b) = (okk k a && okk (lastk k a) b)
  | [], b => by simp [okk, lastk]
  | p :: a, b => by
    have this : lastk (kd p) a = lastk k (p :: a) := by
      unfold lastk
      cases a with
      | nil => rfl
      | cons q a =>
        rw [List.getLast?_cons_cons]
        cases h : (q :: a).getLast? with
        | none => simp at h
        | some x => rfl
    show (_ && okk (kd p) (a ++ b)) = ((_ && okk (kd p) a) && okk _ b)
    rw [okk_append (kd p) a b, this]
    simp only [Bool.and_assoc]

/-- so far no number is too great -/
def Small (l : List Prt) : Prop := src l ≤ 1000000000 ∧ tgt l ≤ 1000000000
theorem same_kind {q p : Prt} (hq : kd q ≠ 0) (h : kd q = kd p) (b1 : q.1 + p.1 ≤ 1000000000) (b2 : q.2.1 + p.2.1 ≤ 1000000000) :
    kd (IntKind.wrap .i64 (q.1 + p.1), IntKind.wrap .i64 (q.2.1 + p.2.1), q.2.2 ++ p.2.2) = kd q ∧ pa (IntKind.wrap .i64 (q.1 + p.1), IntKind.wrap .i64 (q.2.1 + p.2.1), q.2.2 ++ p.2.2) = pa q ++ pa p := by
  have hp : kd p ≠ 0 := by rw [← h]; exact hq
  rcases kd_cases hq with ⟨a, ha, e, k1⟩ | ⟨a, ha, e, k1⟩ | ⟨a, ha, e, k1⟩ <;> rcases kd_cases hp with ⟨b, hb, e', k2⟩ | ⟨b, hb, e', k2⟩ | ⟨b, hb, e', k2⟩ <;> try (rw [k1, k2] at h; omega)
  · subst e e'
    dsimp only at b1 b2 ⊢
    rw [w64 (n := a + b) (by omega) (by omega), show IntKind.wrap .i64 ((0 : Int) + 0) = 0 from w64 (by omega) (by omega)]
    have : 0 < a + b := by omega
    refine ⟨by simp [kd, this, ha], ?_⟩
    rw [List.append_nil, pa_keep (by omega), pa_keep (by omega), pa_keep (by omega), List.replicate_append_replicate]
    congr 1; omega
  · subst e e'
    dsimp only at b1 b2 ⊢
    rw [w64 (n := a + b) (by omega) (by omega), show IntKind.wrap .i64 ((0 : Int) + 0) = 0 from w64 (by omega) (by omega)]
    have : 0 < a + b := by omega
    refine ⟨by simp [kd, this, ha], ?_⟩
    rw [List.append_nil, pa_drop (by omega), pa_drop (by omega), pa_drop (by omega), List.replicate_append_replicate]
    congr 1; omega
  · subst e e'
    dsimp only at b1 b2 ⊢
    rw [show IntKind.wrap .i64 ((0 : Int) + 0) = 0 from w64 (by omega) (by omega)]
    refine ⟨by simp [kd, ha], ?_⟩
    rw [pa_put, pa_put, pa_put, List.map_append]

theorem addp_norm {l : List Prt} {p : Prt} (hl : okk 0 l = true) (hp : Fine p) (hb : Small (l ++ [p])) : okk 0 (addp l p) = true ∧ atoms (addp l p) = atoms l ++ pa p ∧ src (addp l p) = src l + (p.1 + p.2.1) ∧ tgt (addp l p) = tgt l + (p.1 + p.2.2.length) := by
  unfold addp
  rcases hp with rfl | hp
  · simp [hl, pa_zero]
  · have h0 : p ≠ (0, 0, []) := fun h => hp (by rw [h]; exact kd_zero)
    rw [if_neg h0]
    have hs := okk_some hl
    have sp := some1_of hp
    have k0 := sp.k; have d0 := sp.d
    cases hq : l.getLast? with
    | none =>
      obtain rfl : l = [] := by simpa using hq
      simp [okk, hp, atoms, src, tgt]
    | some q =>
      obtain ⟨l', rfl⟩ := List.getLast?_eq_some_iff.1 hq
      have sq := hs q (by simp)
      have k1 := sq.k; have d1 := sq.d
      have n1 := src_nonneg (l := l') fun p h => hs p (by simp [h])
      have n2 := tgt_nonneg (l := l') fun p h => hs p (by simp [h])
      have b1 := hb.1
      have b2 := hb.2
      simp only [src_append, tgt_append, src, tgt] at b1 b2
      rw [okk_append] at hl
      simp only [Bool.and_eq_true] at hl
      obtain ⟨hl1, hl2⟩ := hl
      simp only
      split
      · rename_i hk
        obtain ⟨e1, e2⟩ := same_kind sq.ne hk (by omega) (by omega)
        rw [List.dropLast_concat]
        refine ⟨?_, ?_, ?_, ?_⟩
        · rw [okk_append, hl1, Bool.true_and]
          simp only [okk, e1] at hl2 ⊢
          exact hl2
        · rw [atoms_append, atoms_append, List.append_assoc]
          congr 1
          show pa _ ++ [] = (pa q ++ []) ++ pa p
          rw [e2, List.append_nil, List.append_nil]
        · rw [src_append, src_append]
          simp only [src]
          rw [w64 (n := q.1 + p.1) (by omega) (by omega), w64 (n := q.2.1 + p.2.1) (by omega) (by omega)]
          omega
        · rw [tgt_append, tgt_append]
          simp only [tgt, List.length_append]
          rw [w64 (n := q.1 + p.1) (by omega) (by omega)]
          omega
      · rename_i hk
        refine ⟨?_, ?_, ?_, ?_⟩
        · rw [okk_append, okk_append, hl1, hl2]
          simp only [okk, lastk, List.getLast?_append, List.getLast?_singleton, Option.some_or, Bool.and_true, Bool.true_and, Bool.and_eq_true, Bool.not_eq_true', decide_eq_false_iff_not]
          exact ⟨hp, fun h => hk h.symm⟩
        · rw [atoms_append]; simp [atoms]
        · rw [src_append]; simp [src]
        · rw [tgt_append]; simp [tgt]

theorem fine_nonneg {p : Prt} (h : Fine p) : 0 ≤ p.1 ∧ 0 ≤ p.2.1 := by
  rcases h with rfl | h
  · simp
  · exact ⟨(some1_of h).k, (some1_of h).d⟩
theorem fines_nonneg : ∀ {l : List Prt}, (∀ p ∈ l, Fine p) → 0 ≤ src l ∧ 0 ≤ tgt l
  | [], _ => by simp [src, tgt]
  | p :: l, h => by
    have h1 := fine_nonneg (h p (by simp))
    have h2 := fines_nonneg (l := l) fun q hq => h q (by simp [hq])
    simp only [src, tgt]; omega
theorem fold_norm : ∀ (m l : List Prt), okk 0 l = true → (∀ p ∈ m, Fine p) → Small (l ++ m) → okk 0 (m.foldl addp l) = true ∧ atoms (m.foldl addp l) = atoms l ++ atoms m ∧ src (m.foldl addp l) = src l + src m ∧ tgt (m.foldl addp l) = tgt l + tgt m
  | [], l, hl, _, _ => by simp [hl, atoms, src, tgt]
  | p :: m, l, hl, hm, hb => by
    have hm' : ∀ p ∈ m, Fine p := fun q hq => hm q (by simp [hq])
    obtain ⟨g1, g2⟩ := fines_nonneg hm'
    have b1 := hb.1
    have b2 := hb.2
    simp only [src_append, tgt_append, src, tgt] at b1 b2
    obtain ⟨h1, h2, h3, h4⟩ := addp_norm hl (hm p (by simp)) ⟨by simp only [src_append, src]; omega, by simp only [tgt_append, tgt]; omega⟩
    rw [List.foldl_cons]
    obtain ⟨k1, k2, k3, k4⟩ := fold_norm m (addp l p) h1 hm' ⟨by rw [src_append, h3]; omega, by rw [tgt_append, h4]; omega⟩
    refine ⟨k1, ?_, ?_, ?_⟩
    · rw [k2, h2]; simp [atoms]
    · rw [k3, h3]; simp only [src]; omega
    · rw [k4, h4]; simp only [tgt]; omega
theorem norm_spec {m : List Prt} (hm : ∀ p ∈ m, Fine p) (hb : Small m) : okk 0 (norm m) = true ∧ atoms (norm m) = atoms m ∧ src (norm m) = src m ∧ tgt (norm m) = tgt m := by
  have := fold_norm m [] rfl hm hb
  simpa [norm, atoms, src, tgt] using this

/-! ### bytes tell the parts -/
def hd : List Atom → Option Atom
  | [] => none
  | a :: _ => some a
/-- the kind of a byte's place -/
def ak : Atom → Int
  | .keep => 1
  | .drop => 2
  | .ins _ => 3
theorem pa_head {p : Prt} (h : kd p ≠ 0) : ∃ a l, pa p = a :: l ∧ ak a = kd p := by
  rcases kd_cases h with ⟨a, ha, rfl, k⟩ | ⟨a, ha, rfl, k⟩ | ⟨s, hs, rfl, k⟩
  · rw [pa_keep (by omega), k, show a.toNat = (a.toNat - 1) + 1 by omega, List.replicate_succ]
    exact ⟨_, _, rfl, rfl⟩
  · rw [pa_drop (by omega), k, show a.toNat = (a.toNat - 1) + 1 by omega, List.replicate_succ]
    exact ⟨_, _, rfl, rfl⟩
  · rw [pa_put, k]
    cases s with
    | nil => exact absurd rfl hs
    | cons b s => exact ⟨_, _, rfl, rfl⟩
theorem pa_all {p : Prt} (h : kd p ≠ 0) : ∀ a ∈ pa p, ak a = kd p := by
  rcases kd_cases h with ⟨a, ha, rfl, k⟩ | ⟨a, ha, rfl, k⟩ | ⟨s, hs, rfl, k⟩
  · rw [pa_keep (by omega), k]; intro x hx; rw [List.eq_of_mem_replicate hx]; rfl
  · rw [pa_drop (by omega), k]; intro x hx; rw [List.eq_of_mem_replicate hx]; rfl
  · rw [pa_put, k]; intro x hx; obtain ⟨b, _, rfl⟩ := List.mem_map.1 hx; rfl
theorem pa_inj {p q : Prt} (hp : kd p ≠ 0) (hq : kd q ≠ 0) (h : pa p = pa q) : p = q := by
  obtain ⟨a, l, e1, k1⟩ := pa_head hp
  obtain ⟨b, m, e2, k2⟩ := pa_head hq
  have hk : kd p = kd q := by
    rw [e1, e2] at h
    injection h with h _
    rw [← k1, ← k2, h]
  rcases kd_cases hp with ⟨a, ha, rfl, j1⟩ | ⟨a, ha, rfl, j1⟩ | ⟨a, ha, rfl, j1⟩ <;> rcases kd_cases hq with ⟨b, hb, rfl, j2⟩ | ⟨b, hb, rfl, j2⟩ | ⟨b, hb, rfl, j2⟩ <;> try (rw [j1, j2] at hk; omega)
  · rw [pa_keep (by omega), pa_keep (by omega)] at h
    have := congrArg List.length h
    simp only [List.length_replicate] at this
    rw [show a = b by omega]
  · rw [pa_drop (by omega), pa_drop (by omega)] at h
    have := congrArg List.length h
    simp only [List.length_replicate] at this
    rw [show a = b by omega]
  · rw [pa_put, pa_put] at h
    have : a = b := by
      have hi : ∀ x y : List UInt8, x.map Atom.ins = y.map Atom.ins → x = y := by
        intro x
        induction x with
        | nil => intro y hy; cases y with
          | nil => rfl
          | cons => simp at hy
        | cons u x ih => intro y hy; cases y with
          | nil => simp at hy
          | cons v y =>
            simp only [List.map_cons, List.cons.injEq, Atom.ins.injEq] at hy
            rw [hy.1, ih y hy.2]
      exact hi a b h
    rw [this]
/-- two rows of one kind each, behind them something of another kind: they are the same -/
theorem run_eq {k : Int} : ∀ (x y r t : List Atom), (∀ a ∈ x, ak a = k) → (∀ a ∈ y, ak a = k) → (∀ a, hd r = some a → ak a ≠ k) → (∀ a, hd t = some a → ak a ≠ k) → x ++ r = y ++ t → x = y ∧ r = t
  | [], [], r, t, _, _, _, _, h => ⟨rfl, h⟩
  | [], b :: y, r, t, _, hy, hr, _, h => by
    exfalso
    simp only [List.nil_append] at h
    rw [h] at hr
    exact hr b rfl (hy b (by simp))
  | a :: x, [], r, t, hx, _, _, ht, h => by
    exfalso
    simp only [List.nil_append] at h
    rw [← h] at ht
    exact ht a rfl (hx a (by simp))
  | a :: x, b :: y, r, t, hx, hy, hr, ht, h => by
    simp only [List.cons_append, List.cons.injEq] at h
    obtain ⟨h1, h2⟩ := h
    obtain ⟨h3, h4⟩ := run_eq x y r t (fun a h => hx a (by simp [h])) (fun a h => hy a (by simp [h])) hr ht h2
    exact ⟨by rw [h1, h3], h4⟩
theorem hd_atoms {k : Int} {c : List Prt} (h : okk k c = true) : ∀ a, hd (atoms c) = some a → ak a ≠ k := by
  intro a ha
  cases c with
  | nil => cases ha
  | cons p c =>
    simp only [okk, Bool.and_eq_true, Bool.not_eq_true', decide_eq_false_iff_not] at h
    obtain ⟨b, l, e, k1⟩ := pa_head h.1.1
    have e2 : atoms (p :: c) = b :: (l ++ atoms c) := by show pa p ++ atoms c = _; rw [e]; rfl
    rw [e2] at ha
    injection ha with ha
    rw [← ha, k1]; exact h.1.2
theorem norm_unique : ∀ {k j : Int} {c d : List Prt}, okk k c = true → okk j d = true → atoms c = atoms d → c = d
  | k, j, [], [], _, _, _ => rfl
  | k, j, [], q :: d, _, hd', h => by
    exfalso
    simp only [okk, Bool.and_eq_true, Bool.not_eq_true', decide_eq_false_iff_not] at hd'
    obtain ⟨b, l, e, _⟩ := pa_head hd'.1.1
    have : atoms (q :: d) = b :: (l ++ atoms d) := by show pa q ++ atoms d = _; rw [e]; rfl
    rw [this] at h; cases h
  | k, j, p :: c, [], hc, _, h => by
    exfalso
    simp only [okk, Bool.and_eq_true, Bool.not_eq_true', decide_eq_false_iff_not] at hc
    obtain ⟨b, l, e, _⟩ := pa_head hc.1.1
    have : atoms (p :: c) = b :: (l ++ atoms c) := by show pa p ++ atoms c = _; rw [e]; rfl
    rw [this] at h; cases h
  | k, j, p :: c, q :: d, hc, hd', h => by
    simp only [okk, Bool.and_eq_true, Bool.not_eq_true', decide_eq_false_iff_not] at hc hd'
    obtain ⟨⟨c1, c2⟩, c3⟩ := hc
    obtain ⟨⟨d1, d2⟩, d3⟩ := hd'
    have e1 : atoms (p :: c) = pa p ++ atoms c := rfl
    have e2 : atoms (q :: d) = pa q ++ atoms d := rfl
    rw [e1, e2] at h
    have hk : kd p = kd q := by
      obtain ⟨a, l, f1, k1⟩ := pa_head c1
      obtain ⟨b, m, f2, k2⟩ := pa_head d1
      rw [f1, f2] at h
      injection h with h _
      rw [← k1, ← k2, h]
    obtain ⟨h1, h2⟩ := run_eq (k := kd p) _ _ _ _ (pa_all c1) (fun a ha => by rw [hk]; exact pa_all d1 a ha) (hd_atoms c3) (by rw [hk]; exact hd_atoms d3) h
    rw [pa_inj c1 d1 h1, norm_unique c3 d3 h2]
end Go.V.G
