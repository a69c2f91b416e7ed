import Derived.Test.YtdicgiljgelkfaaQP0
/-
  P8: more draws of changes.
-/
set_option linter.unusedVariables false
set_option linter.unusedSimpArgs false
set_option maxRecDepth 100000
namespace Go.V.G
open Go.V

theorem drawGood_ok {code : List Int} (hb : Bytes code) : Ok (s_DrawGoodChange code) fun r => Sm 847 r := by
  have h : At code 100000 0 := ⟨hb, by omega, by omega⟩
  unfold s_DrawGoodChange
  refine (one_ok (h.less (by omega))).bind ?_
  rintro ⟨f, c1, a1, s1⟩ t1
  dsimp only at t1 ⊢
  refine Ok.ite (fun _ => ?_) fun _ => ?_
  · refine (pick_ok (t1.at (j := 2) (h.less (by omega)))).bind ?_
    rintro ⟨n, c2, a2, s2⟩ ⟨hn, t2⟩
    dsimp only at hn t2 ⊢
    have t2 := t1.trans t2
    refine Ok.bind (Q := fun r => Sm 847 r) ?_ (fun v hv => Ok.mk hv)
    refine Ok.loop (fun y => 0 ≤ y.2.1 ∧ y.2.1 ≤ 4 ∧ Sm ((4 - y.2.1).toNat * 122) y.1 ∧ To code 0 (4 + 18 * (4 - y.2.1)) y.2.2.1 y.2.2.2.1) (fun y => y.2.1.toNat) ⟨by dsimp only; omega, by dsimp only; omega, Sm.nil _, t2.more (by dsimp only; omega)⟩ ?_
    rintro ⟨l, m, c, a, s⟩ ⟨h1, h2, h3, t⟩
    dsimp only at h1 h2 h3 t
    unfold s_DrawGoodChange_L1
    dsimp only
    refine Ok.ite (fun hc => ?_) fun hc => Ok.mk (h3.mono (by omega))
    have hc' : 0 < m := by simpa using hc
    refine (part_ok (t.at (j := 18) (h.less (by omega)))).bind ?_
    rintro ⟨x, y, w, c6, a6, s6⟩ ⟨⟨g1, g2, g3⟩, t6⟩
    dsimp only at g1 g2 g3 t6 ⊢
    have e : IntKind.wrap .i64 (m - 1) = m - 1 := w64 (by omega) (by omega)
    rw [e]
    exact Ok.yes (room_ok h3 (by (try dsimp only); omega) _) (Ok.mk ⟨⟨by (try dsimp only); omega, by (try dsimp only); omega, h3.snoc ⟨g1, g2⟩ (by (try dsimp only); omega) (by (try dsimp only); omega), (t.trans t6).more (by (try dsimp only); omega)⟩, by (try dsimp only); omega⟩)
  · refine (size_ok (t1.at (j := 4) (h.less (by omega)))).bind ?_
    rintro ⟨n, c2, a2, s2⟩ ⟨hn, t2⟩
    dsimp only at hn t2 ⊢
    have t2 := t1.trans t2
    refine (changeOf_ok 120 (by omega) (by omega) (by omega) (t2.at (h.less (by omega)))).bind ?_
    rintro ⟨x, c3, a3, s3⟩ ⟨hx, t3⟩
    exact Ok.mk hx

theorem drawNormal_ok {code : List Int} (hb : Bytes code) : Ok (s_DrawNormalOf code) fun r => Sm 2000 r := by
  have h : At code 100000 0 := ⟨hb, by omega, by omega⟩
  have z : I64 0 := by unfold I64; omega
  unfold s_DrawNormalOf
  refine (pick_ok (h.less (by omega))).bind ?_
  rintro ⟨n, c1, a1, s1⟩ ⟨hn, t1⟩
  dsimp only at hn t1 ⊢
  refine Ok.bind (Q := fun v => Sm 1000 v.1 ∧ To code 0 300 v.2.1 v.2.2.1) ?_ ?_
  · refine Ok.loop (fun y => 0 ≤ y.2.1 ∧ y.2.1 ≤ 8 ∧ Sm ((8 - y.2.1).toNat * 122) y.1 ∧ To code 0 (2 + 22 * (8 - y.2.1)) y.2.2.1 y.2.2.2.1) (fun y => y.2.1.toNat) ⟨by dsimp only; omega, by dsimp only; omega, Sm.nil _, t1.more (by dsimp only; omega)⟩ ?_
    rintro ⟨l, m, c, a, s⟩ ⟨h1, h2, h3, t⟩
    dsimp only at h1 h2 h3 t
    unfold s_DrawNormalOf_L1
    dsimp only
    refine Ok.ite (fun hc => ?_) fun hc => Ok.mk ⟨h3.mono (by omega), t.more (by omega)⟩
    have hc' : 0 < m := by simpa using hc
    refine (pick_ok (t.at (j := 2) (h.less (by omega)))).bind ?_
    rintro ⟨k, c2, a2, s2⟩ ⟨hk, t2⟩
    dsimp only at hk t2 ⊢
    have t2 := t.trans t2
    refine Ok.bind (Q := fun v => Sm ((9 - m).toNat * 122) v.1 ∧ v.2.1 = m ∧ To code 0 (2 + 22 * (9 - m)) v.2.2.1 v.2.2.2.1) ?_ ?_
    · refine Ok.ite (fun _ => ?_) fun _ => ?_
      · refine (pick_ok (t2.at (j := 2) (h.less (by omega)))).bind ?_
        rintro ⟨x, c3, a3, s3⟩ ⟨hx, t3⟩
        dsimp only at hx t3 ⊢
        exact Ok.yes (room_ok h3 (by omega) _) (Ok.mk ⟨h3.snoc ⟨by unfold I64; dsimp only; omega, z⟩ (by omega) (by simp; omega), rfl, (t2.trans t3).more (by omega)⟩)
      refine Ok.bind (Q := fun v => Sm ((9 - m).toNat * 122) v.1 ∧ v.2.1 = m ∧ To code 0 (2 + 22 * (9 - m)) v.2.2.1 v.2.2.2.1) ?_ (fun v hv => Ok.mk hv)
      refine Ok.ite (fun _ => ?_) fun _ => ?_
      · refine (pick_ok (t2.at (j := 2) (h.less (by omega)))).bind ?_
        rintro ⟨x, c3, a3, s3⟩ ⟨hx, t3⟩
        dsimp only at hx t3 ⊢
        exact Ok.yes (room_ok h3 (by omega) _) (Ok.mk ⟨h3.snoc ⟨z, by unfold I64; dsimp only; omega⟩ (by omega) (by simp; omega), rfl, (t2.trans t3).more (by omega)⟩)
      refine Ok.bind (Q := fun v => Sm ((9 - m).toNat * 122) v.1 ∧ v.2.1 = m ∧ To code 0 (2 + 22 * (9 - m)) v.2.2.1 v.2.2.2.1) ?_ (fun v hv => Ok.mk hv)
      refine Ok.ite (fun _ => ?_) fun _ => ?_
      · refine (put_ok (t2.at (j := 2) (h.less (by omega)))).bind ?_
        rintro ⟨x, c3, a3, s3⟩ ⟨hx, t3⟩
        dsimp only at hx t3 ⊢
        exact Ok.yes (room_ok h3 (by omega) _) (Ok.mk ⟨h3.snoc ⟨z, z⟩ (by omega) (by dsimp only; omega), rfl, (t2.trans t3).more (by omega)⟩)
      refine (one_ok (t2.at (j := 2) (h.less (by omega)))).bind ?_
      rintro ⟨f, c3, a3, s3⟩ t3
      dsimp only at t3 ⊢
      have t3 := t2.trans t3
      refine Ok.bind (Q := fun v => Sm ((9 - m).toNat * 122) v.1 ∧ v.2.1 = m ∧ To code 0 (2 + 22 * (9 - m)) v.2.2.1 v.2.2.2.1) ?_ (fun v hv => Ok.mk hv)
      refine Ok.ite (fun _ => ?_) fun _ => Ok.mk ⟨h3.mono (by omega), rfl, t3.more (by omega)⟩
      refine (part_ok (t3.at (j := 18) (h.less (by omega)))).bind ?_
      rintro ⟨x, y, w, c6, a6, s6⟩ ⟨⟨g1, g2, g3⟩, t6⟩
      dsimp only at g1 g2 g3 t6 ⊢
      exact Ok.yes (room_ok h3 (by omega) _) (Ok.mk ⟨h3.snoc ⟨g1, g2⟩ (by omega) (by dsimp only; omega), rfl, (t3.trans t6).more (by omega)⟩)
    rintro ⟨l', m', c', a', s'⟩ ⟨k1, k2, k3⟩
    dsimp only at k1 k2 k3 ⊢
    subst k2
    have e : IntKind.wrap .i64 (m' - 1) = m' - 1 := w64 (by omega) (by omega)
    rw [e]
    exact Ok.mk ⟨⟨by (try dsimp only); omega, by (try dsimp only); omega, k1.mono (by (try dsimp only); omega), k3.more (by (try dsimp only); omega)⟩, by (try dsimp only); omega⟩
  rintro ⟨l, c2, a2, s2⟩ ⟨hl, t2⟩
  dsimp only at hl t2 ⊢
  refine (one_ok (t2.at (j := 2) (h.less (by omega)))).bind ?_
  rintro ⟨f, c3, a3, s3⟩ t3
  dsimp only at t3 ⊢
  have t3 := t2.trans t3
  refine Ok.bind (Q := fun v => Sm 2000 v) ?_ (fun v hv => Ok.mk hv)
  refine Ok.ite (fun _ => ?_) fun _ => Ok.mk (hl.mono (by omega))
  refine (pick_ok (t3.at (j := 2) (h.less (by omega)))).bind ?_
  rintro ⟨x, c4, a4, s4⟩ ⟨hx, t4⟩
  dsimp only at hx t4 ⊢
  have e : IntKind.wrap .i64 (500 + x) = 500 + x := w64 (by omega) (by omega)
  rw [e]
  refine Ok.yes (by simp; omega) (Ok.yes (by simp) (Ok.yes (by simp [roomFor]; omega) (Ok.mk ⟨by simp; omega, ?_, ?_⟩)))
  · have : ∀ n : Nat, psum (List.replicate n ((0, (0, [])) : Prt)) = 0 := by
      intro n
      induction n with
      | zero => rfl
      | succ n ih => rw [List.replicate_succ]; simp [psum, ih]
    rw [this]; omega
  · intro p hp
    rw [List.eq_of_mem_replicate hp]; exact ⟨z, z⟩
end Go.V.G

/-
  P9: lists of parts and their bytes: what is normal is told by its bytes alone.
-/
set_option linter.unusedVariables false
set_option linter.unusedSimpArgs false
set_option maxRecDepth 100000
namespace Go.V.G
open Go.V

/-- a part that may be laid behind: of some kind, or nothing -/
def Fine (p : Prt) : Prop := p = (0, 0, []) ∨ kd p ≠ 0
theorem Fine.put (s : List UInt8) : Fine (0, 0, s) := by
  by_cases h : s = []
  · subst h; exact .inl rfl
  · exact .inr (by simp [kd, h])
theorem Fine.keep {n : Int} (h : 0 ≤ n) : Fine (n, 0, []) := by
  by_cases h0 : n = 0
  · subst h0; exact .inl rfl
  · have : 0 < n := by omega
    exact .inr (by simp [kd, this])
theorem Fine.drop {n : Int} (h : 0 ≤ n) : Fine (0, n, []) := by
  by_cases h0 : n = 0
  · subst h0; exact .inl rfl
  · have : 0 < n := by omega
    exact .inr (by simp [kd, this])
theorem pa_zero : pa (0, 0, []) = [] := by simp [pa]
theorem pa_put (s : List UInt8) : pa (0, 0, s) = s.map Atom.ins := by simp [pa]
theorem pa_keep {n : Int} (h : 0 ≤ n) : pa (n, 0, []) = List.replicate n.toNat .keep := by
  by_cases h0 : n = 0
  · subst h0; rfl
  · have : 0 < n := by omega
    simp [pa, this, mk]
theorem pa_drop {n : Int} (h : 0 ≤ n) : pa (0, n, []) = List.replicate n.toNat .drop := by simp [pa, mk]

def lastk (k : Int) (l : List Prt) : Int := match l.getLast? with
  | some q => kd q
  | none => k
theorem okk_append (k : Int) : ∀ (a b : List Prt), okk k (a ++ b) = (okk k a && okk (lastk k a) b)
  | [], b => by simp [okk, lastk]
  | p :: a, b => by
    have this : lastk (kd p) a = lastk k (p :: a) := by
      unfold lastk
      cases a with
      | nil => rfl
      | cons q a =>
        rw [List.getLast?_cons_cons]
        cases h : (q :: a).getLast? with
        | none => simp at h
        | some x => rfl
    show (_ && okk (kd p) (a ++ b)) = ((_ && okk (kd p) a) && okk _ b)
    rw [okk_append (kd p) a b, this]
    simp only [Bool.and_assoc]

/-- so far no number is too great -/
def Small (l : List Prt) : Prop := src l ≤ 1000000000 ∧ tgt l ≤ 1000000000
theorem same_kind {q p : Prt} (hq : kd q ≠ 0) (h : kd q = kd p) (b1 : q.1 + p.1 ≤ 1000000000) (b2 : q.2.1 + p.2.1 ≤ 1000000000) :
    kd (IntKind.wrap .i64 (q.1 + p.1), IntKind.wrap .i64 (q.2.1 + p.2.1), q.2.2 ++ p.2.2) = kd q ∧ pa (IntKind.wrap .i64 (q.1 + p.1), IntKind.wrap .i64 (q.2.1 + p.2.1), q.2.2 ++ p.2.2) = pa q ++ pa p := by
  have hp : kd p ≠ 0 := by rw [← h]; exact hq
  rcases kd_cases hq with ⟨a, ha, e, k1⟩ | ⟨a, ha, e, k1⟩ | ⟨a, ha, e, k1⟩ <;> rcases kd_cases hp with ⟨b, hb, e', k2⟩ | ⟨b, hb, e', k2⟩ | ⟨b, hb, e', k2⟩ <;> try (rw [k1, k2] at h; omega)
  · subst e e'
    dsimp only at b1 b2 ⊢
    rw [w64 (n := a + b) (by omega) (by omega), show IntKind.wrap .i64 ((0 : Int) + 0) = 0 from w64 (by omega) (by omega)]
    have : 0 < a + b := by omega
    refine ⟨by simp [kd, this, ha], ?_⟩
    rw [List.append_nil, pa_keep (by omega), pa_keep (by omega), pa_keep (by omega), List.replicate_append_replicate]
    congr 1; omega
  · subst e e'
    dsimp only at b1 b2 ⊢
    rw [w64 (n := a + b) (by omega) (by omega), show IntKind.wrap .i64 ((0 : Int) + 0) = 0 from w64 (by omega) (by omega)]
    have : 0 < a + b := by omega
    refine ⟨by simp [kd, this, ha], ?_⟩
    rw [List.append_nil, pa_drop (by omega), pa_drop (by omega), pa_drop (by omega), List.replicate_append_replicate]
    congr 1; omega
  · subst e e'
    dsimp only at b1 b2 ⊢
    rw [show IntKind.wrap .i64 ((0 : Int) + 0) = 0 from w64 (by omega) (by omega)]
    refine ⟨by simp [kd, ha], ?_⟩
    rw [pa_put, pa_put, pa_put, List.map_append]

theorem addp_norm {l : List Prt} {p : Prt} (hl : okk 0 l = true) (hp : Fine p) (hb : Small (l ++ [p])) : okk 0 (addp l p) = true ∧ atoms (addp l p) = atoms l ++ pa p ∧ src (addp l p) = src l + (p.1 + p.2.1) ∧ tgt (addp l p) = tgt l + (p.1 + p.2.2.length) := by
  unfold addp
  rcases hp with rfl | hp
  · simp [hl, pa_zero]
  · have h0 : p ≠ (0, 0, []) := fun h => hp (by rw [h]; exact kd_zero)
    rw [if_neg h0]
    have hs := okk_some hl
    have sp := some1_of hp
    have k0 := sp.k; have d0 := sp.d
    cases hq : l.getLast? with
    | none =>
      obtain rfl : l = [] := by simpa using hq
      simp [okk, hp, atoms, src, tgt]
    | some q =>
      obtain ⟨l', rfl⟩ := List.getLast?_eq_some_iff.1 hq
      have sq := hs q (by simp)
      have k1 := sq.k; have d1 := sq.d
      have n1 := src_nonneg (l := l') fun p h => hs p (by simp [h])
      have n2 := tgt_nonneg (l := l') fun p h => hs p (by simp [h])
      have b1 := hb.1
      have b2 := hb.2
      simp only [src_append, tgt_append, src, tgt] at b1 b2
      rw [okk_append] at hl
      simp only [Bool.and_eq_true] at hl
      obtain ⟨hl1, hl2⟩ := hl
      simp only
      split
      · rename_i hk
        obtain ⟨e1, e2⟩ := same_kind sq.ne hk (by omega) (by omega)
        rw [List.dropLast_concat]
        refine ⟨?_, ?_, ?_, ?_⟩
        · rw [okk_append, hl1, Bool.true_and]
          simp only [okk, e1] at hl2 ⊢
          exact hl2
        · rw [atoms_append, atoms_append, List.append_assoc]
          congr 1
          show pa _ ++ [] = (pa q ++ []) ++ pa p
          rw [e2, List.append_nil, List.append_nil]
        · rw [src_append, src_append]
          simp only [src]
          rw [w64 (n := q.1 + p.1) (by omega) (by omega), w64 (n := q.2.1 + p.2.1) (by omega) (by omega)]
          omega
        · rw [tgt_append, tgt_append]
          simp only [tgt, List.length_append]
          rw [w64 (n := q.1 + p.1) (by omega) (by omega)]
          omega
      · rename_i hk
        refine ⟨?_, ?_, ?_, ?_⟩
        · rw [okk_append, okk_append, hl1, hl2]
          simp only [okk, lastk, List.getLast?_append, List.getLast?_singleton, Option.some_or, Bool.and_true, Bool.true_and, Bool.and_eq_true, Bool.not_eq_true', decide_eq_false_iff_not]
          exact ⟨hp, fun h => hk h.symm⟩
        · rw [atoms_append]; simp [atoms]
        · rw [src_append]; simp [src]
        · rw [tgt_append]; simp [tgt]

theorem fine_nonneg {p : Prt} (h : Fine p) : 0 ≤ p.1 ∧ 0 ≤ p.2.1 := by
  rcases h with rfl | h
  · simp
  · exact ⟨(some1_of h).k, (some1_of h).d⟩
theorem fines_nonneg : ∀ {l : List Prt}, (∀ p ∈ l, Fine p) → 0 ≤ src l ∧ 0 ≤ tgt l
  | [], _ => by simp [src, tgt]
  | p :: l, h => by
    have h1 := fine_nonneg (h p (by simp))
    have h2 := fines_nonneg (l := l) fun q hq => h q (by simp [hq])
    simp only [src, tgt]; omega
theorem fold_norm : ∀ (m l : List Prt), okk 0 l = true → (∀ p ∈ m, Fine p) → Small (l ++ m) → okk 0 (m.foldl addp l) = true ∧ atoms (m.foldl addp l) = atoms l ++ atoms m ∧ src (m.foldl addp l) = src l + src m ∧ tgt (m.foldl addp l) = tgt l + tgt m
  | [], l, hl, _, _ => by simp [hl, atoms, src, tgt]
  | p :: m, l, hl, hm, hb => by
    have hm' : ∀ p ∈ m, Fine p := fun q hq => hm q (by simp [hq])
    obtain ⟨g1, g2⟩ := fines_nonneg hm'
    have b1 := hb.1
    have b2 := hb.2
    simp only [src_append, tgt_append, src, tgt] at b1 b2
    obtain ⟨h1, h2, h3, h4⟩ := addp_norm hl (hm p (by simp)) ⟨by simp only [src_append, src]; omega, by simp only [tgt_append, tgt]; omega⟩
    rw [List.foldl_cons]
    obtain ⟨k1, k2, k3, k4⟩ := fold_norm m (addp l p) h1 hm' ⟨by rw [src_append, h3]; omega, by rw [tgt_append, h4]; omega⟩
    refine ⟨k1, ?_, ?_, ?_⟩
    · rw [k2, h2]; simp [atoms]
    · rw [k3, h3]; simp only [src]; omega
    · rw [k4, h4]; simp only [tgt]; omega
theorem norm_spec {m : List Prt} (hm : ∀ p ∈ m, Fine p) (hb : Small m) : okk 0 (norm m) = true ∧ atoms (norm m) = atoms m ∧ src (norm m) = src m ∧ tgt (norm m) = tgt m := by
  have := fold_norm m [] rfl hm hb
  simpa [norm, atoms, src, tgt] using this

/-! ### bytes tell the parts -/
def hd : List Atom → Option Atom
  | [] => none
  | a :: _ => some a
/-- the kind of a byte's place -/
def ak : Atom → Int
  | .keep => 1
  | .drop => 2
  | .ins _ => 3
theorem pa_head {p : Prt} (h : kd p ≠ 0) : ∃ a l, pa p = a :: l ∧ ak a = kd p := by
  rcases kd_cases h with ⟨a, ha, rfl, k⟩ | ⟨a, ha, rfl, k⟩ | ⟨s, hs, rfl, k⟩
  · rw [pa_keep (by omega), k, show a.toNat = (a.toNat - 1) + 1 by omega, List.replicate_succ]
    exact ⟨_, _, rfl, rfl⟩
  · rw [pa_drop (by omega), k, show a.toNat = (a.toNat - 1) + 1 by omega, List.replicate_succ]
    exact ⟨_, _, rfl, rfl⟩
  · rw [pa_put, k]
    cases s with
    | nil => exact absurd rfl hs
    | cons b s => exact ⟨_, _, rfl, rfl⟩
theorem pa_all {p : Prt} (h : kd p ≠ 0) : ∀ a ∈ pa p, ak a = kd p := by
  rcases kd_cases h with ⟨a, ha, rfl, k⟩ | ⟨a, ha, rfl, k⟩ | ⟨s, hs, rfl, k⟩
  · rw [pa_keep (by omega), k]; intro x hx; rw [List.eq_of_mem_replicate hx]; rfl
  · rw [pa_drop (by omega), k]; intro x hx; rw [List.eq_of_mem_replicate hx]; rfl
  · rw [pa_put, k]; intro x hx; obtain ⟨b, _, rfl⟩ := List.mem_map.1 hx; rfl
theorem pa_inj {p q : Prt} (hp : kd p ≠ 0) (hq : kd q ≠ 0) (h : pa p = pa q) : p = q := by
  obtain ⟨a, l, e1, k1⟩ := pa_head hp
  obtain ⟨b, m, e2, k2⟩ := pa_head hq
  have hk : kd p = kd q := by
    rw [e1, e2] at h
    injection h with h _
    rw [← k1, ← k2, h]
  rcases kd_cases hp with ⟨a, ha, rfl, j1⟩ | ⟨a, ha, rfl, j1⟩ | ⟨a, ha, rfl, j1⟩ <;> rcases kd_cases hq with ⟨b, hb, rfl, j2⟩ | ⟨b, hb, rfl, j2⟩ | ⟨b, hb, rfl, j2⟩ <;> try (rw [j1, j2] at hk; omega)
  · rw [pa_keep (by omega), pa_keep (by omega)] at h
    have := congrArg List.length h
    simp only [List.length_replicate] at this
    rw [show a = b by omega]
  · rw [pa_drop (by omega), pa_drop (by omega)] at h
    have := congrArg List.length h
    simp only [List.length_replicate] at this
    rw [show a = b by omega]
  · rw [pa_put, pa_put] at h
    have : a = b := by
      have hi : ∀ x y : List UInt8, x.map Atom.ins = y.map Atom.ins → x = y := by
        intro x
        induction x with
        | nil => intro y hy; cases y with
          | nil => rfl
          | cons => simp at hy
        | cons u x ih => intro y hy; cases y with
          | nil => simp at hy
          | cons v y =>
            simp only [List.map_cons, List.cons.injEq, Atom.ins.injEq] at hy
            rw [hy.1, ih y hy.2]
      exact hi a b h
    rw [this]
/-- two rows of one kind each, behind them something of another kind: they are the same -/
theorem run_eq {k : Int} : ∀ (x y r t : List Atom), (∀ a ∈ x, ak a = k) → (∀ a ∈ y, ak a = k) → (∀ a, hd r = some a → ak a ≠ k) → (∀ a, hd t = some a → ak a ≠ k) → x ++ r = y ++ t → x = y ∧ r = t
  | [], [], r, t, _, _, _, _, h => ⟨rfl, h⟩
  | [], b :: y, r, t, _, hy, hr, _, h => by
    exfalso
    simp only [List.nil_append] at h
    rw [h] at hr
    exact hr b rfl (hy b (by simp))
  | a :: x, [], r, t, hx, _, _, ht, h => by
    exfalso
    simp only [List.nil_append] at h
    rw [← h] at ht
    exact ht a rfl (hx a (by simp))
  | a :: x, b :: y, r, t, hx, hy, hr, ht, h => by
    simp only [List.cons_append, List.cons.injEq] at h
    obtain ⟨h1, h2⟩ := h
    obtain ⟨h3, h4⟩ := run_eq x y r t (fun a h => hx a (by simp [h])) (fun a h => hy a (by simp [h])) hr ht h2
    exact ⟨by rw [h1, h3], h4⟩
theorem hd_atoms {k : Int} {c : List Prt} (h : okk k c = true) : ∀ a, hd (atoms c) = some a → ak a ≠ k := by
  intro a ha
  cases c with
  | nil => cases ha
  | cons p c =>
    simp only [okk, Bool.and_eq_true, Bool.not_eq_true', decide_eq_false_iff_not] at h
    obtain ⟨b, l, e, k1⟩ := pa_head h.1.1
    have e2 : atoms (p :: c) = b :: (l ++ atoms c) := by show pa p ++ atoms c = _; rw [e]; rfl
    rw [e2] at ha
    injection ha with ha
    rw [← ha, k1]; exact h.1.2
theorem norm_unique : ∀ {k j : Int} {c d : List Prt}, okk k c = true → okk j d = true → atoms c = atoms d → c = d
  | k, j, [], [], _, _, _ => rfl
  | k, j, [], q :: d, _, hd', h => by
    exfalso
    simp only [okk, Bool.and_eq_true, Bool.not_eq_true', decide_eq_false_iff_not] at hd'
    obtain ⟨b, l, e, _⟩ := pa_head hd'.1.1
    have : atoms (q :: d) = b :: (l ++ atoms d) := by show pa q ++ atoms d = _; rw [e]; rfl
    rw [this] at h; cases h
  | k, j, p :: c, [], hc, _, h => by
    exfalso
    simp only [okk, Bool.and_eq_true, Bool.not_eq_true', decide_eq_false_iff_not] at hc
    obtain ⟨b, l, e, _⟩ := pa_head hc.1.1
    have : atoms (p :: c) = b :: (l ++ atoms c) := by show pa p ++ atoms c = _; rw [e]; rfl
    rw [this] at h; cases h
  | k, j, p :: c, q :: d, hc, hd', h => by
    simp only [okk, Bool.and_eq_true, Bool.not_eq_true', decide_eq_false_iff_not] at hc hd'
    obtain ⟨⟨c1, c2⟩, c3⟩ := hc
    obtain ⟨⟨d1, d2⟩, d3⟩ := hd'
    have e1 : atoms (p :: c) = pa p ++ atoms c := rfl
    have e2 : atoms (q :: d) = pa q ++ atoms d := rfl
    rw [e1, e2] at h
    have hk : kd p = kd q := by
      obtain ⟨a, l, f1, k1⟩ := pa_head c1
      obtain ⟨b, m, f2, k2⟩ := pa_head d1
      rw [f1, f2] at h
      injection h with h _
      rw [← k1, ← k2, h]
    obtain ⟨h1, h2⟩ := run_eq (k := kd p) _ _ _ _ (pa_all c1) (fun a ha => by rw [hk]; exact pa_all d1 a ha) (hd_atoms c3) (by rw [hk]; exact hd_atoms d3) h
    rw [pa_inj c1 d1 h1, norm_unique c3 d3 h2]
end Go.V.G

/-
  P10: changes carried, composed, applied, byte by byte: the laws.
-/
set_option linter.unusedVariables false
set_option linter.unusedSimpArgs false
set_option maxRecDepth 100000
namespace Go.V.G
open Go.V

/-- x told for the target of y; what x puts comes ahead of what y puts -/
def carryT : List Atom → List Atom → List Atom
  | .ins b :: x, y => .ins b :: carryT x y
  | [], .ins _ :: y => .keep :: carryT [] y
  | .keep :: x, .ins _ :: y => .keep :: carryT (.keep :: x) y
  | .drop :: x, .ins _ :: y => .keep :: carryT (.drop :: x) y
  | .keep :: x, .keep :: y => .keep :: carryT x y
  | .drop :: x, .keep :: y => .drop :: carryT x y
  | .keep :: x, .drop :: y => carryT x y
  | .drop :: x, .drop :: y => carryT x y
  | _, _ => []
termination_by x y => x.length + y.length
/-- the same; what x puts comes behind what y puts -/
def carryF : List Atom → List Atom → List Atom
  | x, .ins _ :: y => .keep :: carryF x y
  | .ins b :: x, [] => .ins b :: carryF x []
  | .ins b :: x, .keep :: y => .ins b :: carryF x (.keep :: y)
  | .ins b :: x, .drop :: y => .ins b :: carryF x (.drop :: y)
  | .keep :: x, .keep :: y => .keep :: carryF x y
  | .drop :: x, .keep :: y => .drop :: carryF x y
  | .keep :: x, .drop :: y => carryF x y
  | .drop :: x, .drop :: y => carryF x y
  | _, _ => []
termination_by x y => x.length + y.length
def carryA (first : Bool) (x y : List Atom) : List Atom := if first = true then carryT x y else carryF x y
/-- x, then y -/
def comp : List Atom → List Atom → List Atom
  | x, .ins b :: y => .ins b :: comp x y
  | .drop :: x, [] => .drop :: comp x []
  | .drop :: x, .keep :: y => .drop :: comp x (.keep :: y)
  | .drop :: x, .drop :: y => .drop :: comp x (.drop :: y)
  | .ins b :: x, .keep :: y => .ins b :: comp x y
  | .ins _ :: x, .drop :: y => comp x y
  | .keep :: x, .keep :: y => .keep :: comp x y
  | .keep :: x, .drop :: y => .drop :: comp x y
  | _, _ => []
termination_by x y => x.length + y.length
def ap : List Atom → List UInt8 → List UInt8
  | .ins b :: l, t => b :: ap l t
  | .keep :: l, c :: t => c :: ap l t
  | .drop :: l, _ :: t => ap l t
  | _, _ => []

/-- how long the source is; the target -/
def nS : List Atom → Nat
  | [] => 0
  | .ins _ :: l => nS l
  | .keep :: l => nS l + 1
  | .drop :: l => nS l + 1
def nT : List Atom → Nat
  | [] => 0
  | .ins _ :: l => nT l + 1
  | .keep :: l => nT l + 1
  | .drop :: l => nT l
theorem nS_stays : ∀ l : List Atom, nS l = (stays l).length
  | [] => rfl
  | .ins _ :: l => nS_stays l
  | .keep :: l => by simp [nS, stays, nS_stays l]
  | .drop :: l => by simp [nS, stays, nS_stays l]
theorem nT_eq : ∀ l : List Atom, nT l = nIns l + nK l
  | [] => rfl
  | .ins _ :: l => by simp only [nT, nIns, nK, nT_eq l]; omega
  | .keep :: l => by simp only [nT, nIns, nK, nT_eq l]; omega
  | .drop :: l => by simp only [nT, nIns, nK, nT_eq l]
theorem ap_len : ∀ (l : List Atom) (t : List UInt8), nS l = t.length → (ap l t).length = nT l
  | [], t, _ => by cases t <;> simp [ap, nT]
  | .ins b :: l, t, h => by simp only [ap, nT, List.length_cons]; rw [ap_len l t h]
  | .keep :: l, c :: t, h => by simp only [ap, nT, List.length_cons]; rw [ap_len l t (by simpa [nS] using h)]
  | .drop :: l, c :: t, h => by simp only [ap, nT]; rw [ap_len l t (by simpa [nS] using h)]
  | .keep :: l, [], h => by simp [nS] at h
  | .drop :: l, [], h => by simp [nS] at h

/-- the diamond -/
theorem diamond : ∀ (x y : List Atom) (t : List UInt8), nS x = t.length → nS y = t.length → ap (carryT x y) (ap y t) = ap (carryF y x) (ap x t) := by
  intro x y
  induction x, y using carryT.induct with
  | case1 b x y ih => intro t h1 h2; rw [carryT, carryF]; simp only [ap]; rw [ih t h1 h2]
  | case2 c y ih => intro t h1 h2; rw [carryT, carryF]; simp only [ap]; rw [ih t h1 h2]; simp [ap]
  | case3 x c y ih =>
    intro t h1 h2; rw [carryT, carryF]
    cases t with
    | nil => simp [nS] at h1
    | cons d t =>
      have := ih (d :: t) h1 h2
      simp only [ap] at this ⊢
      rw [this]
  | case4 x c y ih =>
    intro t h1 h2; rw [carryT, carryF]
    cases t with
    | nil => simp [nS] at h1
    | cons d t =>
      have := ih (d :: t) h1 h2
      simp only [ap] at this ⊢
      rw [this]
  | case5 x y ih =>
    intro t h1 h2; rw [carryT, carryF]
    cases t with
    | nil => simp [nS] at h1
    | cons d t => simp only [ap]; rw [ih t (by simpa [nS] using h1) (by simpa [nS] using h2)]
  | case6 x y ih =>
    intro t h1 h2; rw [carryT, carryF]
    cases t with
    | nil => simp [nS] at h1
    | cons d t => simp only [ap]; rw [ih t (by simpa [nS] using h1) (by simpa [nS] using h2)]
  | case7 x y ih =>
    intro t h1 h2; rw [carryT, carryF]
    cases t with
    | nil => simp [nS] at h1
    | cons d t => simp only [ap]; rw [ih t (by simpa [nS] using h1) (by simpa [nS] using h2)]
  | case8 x y ih =>
    intro t h1 h2; rw [carryT, carryF]
    cases t with
    | nil => simp [nS] at h1
    | cons d t => simp only [ap]; rw [ih t (by simpa [nS] using h1) (by simpa [nS] using h2)]
  | case9 x y h1 h2 h3 h4 h5 h6 h7 h8 =>
    intro t g1 g2
    match x, y with
    | .ins b :: x, y => exact absurd rfl (h1 b x)
    | [], .ins c :: y => exact absurd rfl (h2 c y rfl)
    | [], [] => simp [carryT, carryF, ap]
    | [], .keep :: y => simp [nS] at g1 g2; omega
    | [], .drop :: y => simp [nS] at g1 g2; omega
    | .keep :: x, [] => simp [nS] at g1 g2; omega
    | .drop :: x, [] => simp [nS] at g1 g2; omega
    | .keep :: x, .ins c :: y => exact absurd rfl (h3 x c y rfl)
    | .drop :: x, .ins c :: y => exact absurd rfl (h4 x c y rfl)
    | .keep :: x, .keep :: y => exact absurd rfl (h5 x y rfl)
    | .drop :: x, .keep :: y => exact absurd rfl (h6 x y rfl)
    | .keep :: x, .drop :: y => exact absurd rfl (h7 x y rfl)
    | .drop :: x, .drop :: y => exact absurd rfl (h8 x y rfl)
end Go.V.G

/-
  P11: what 'carry' and 'l1Carry' return.
-/
set_option linter.unusedVariables false
set_option linter.unusedSimpArgs false
set_option maxRecDepth 100000
namespace Go.V.G
open Go.V

def stPart : Option (Bool × Bool) → List Prt
  | some (true, true) => [(1, 0, [])]
  | some (false, true) => [(0, 1, [])]
  | _ => []
def gap (first : Bool) (p q : List UInt8) (st : Option (Bool × Bool)) : List Prt :=
  (if first = true then [(0, 0, p), (((q.length : Nat) : Int), 0, [])] else [(((q.length : Nat) : Int), 0, []), (0, 0, p)]) ++ stPart st
def gaps (first : Bool) : List Bool → List (List UInt8) → List Bool → List (List UInt8) → List Prt
  | [], p :: _, _, q :: _ => gap first p q none
  | sx :: Sx, p :: Px, sy :: Sy, q :: Py => gap first p q (some (sx, sy)) ++ gaps first Sx Px Sy Py
  | _, _, _, _ => []
def stA : Option (Bool × Bool) → List Atom
  | some (true, true) => [.keep]
  | some (false, true) => [.drop]
  | _ => []
def gapA (first : Bool) (p q : List UInt8) (st : Option (Bool × Bool)) : List Atom :=
  (if first = true then p.map Atom.ins ++ List.replicate q.length .keep else List.replicate q.length .keep ++ p.map Atom.ins) ++ stA st
theorem gap_atoms (first : Bool) (p q : List UInt8) (st : Option (Bool × Bool)) : atoms (gap first p q st) = gapA first p q st := by
  have h1 : atoms (stPart st) = stA st := by
    match st with
    | some (true, true) => rfl
    | some (false, true) => rfl
    | some (true, false) => rfl
    | some (false, false) => rfl
    | none => rfl
  unfold gap gapA
  rw [atoms_append, h1]
  cases first
  · simp [atoms, pa_put, pa_keep]
  · simp [atoms, pa_put, pa_keep]
def gapsA (first : Bool) : List Bool → List (List UInt8) → List Bool → List (List UInt8) → List Atom
  | [], p :: _, _, q :: _ => gapA first p q none
  | sx :: Sx, p :: Px, sy :: Sy, q :: Py => gapA first p q (some (sx, sy)) ++ gapsA first Sx Px Sy Py
  | _, _, _, _ => []
theorem gaps_atoms (first : Bool) : ∀ (Sx : List Bool) (Px : List (List UInt8)) (Sy : List Bool) (Py : List (List UInt8)), atoms (gaps first Sx Px Sy Py) = gapsA first Sx Px Sy Py
  | [], [], _, _ => rfl
  | [], p :: _, _, [] => rfl
  | [], p :: _, _, q :: _ => gap_atoms first p q none
  | _ :: _, [], _, _ => rfl
  | _ :: _, _ :: _, [], _ => rfl
  | _ :: _, _ :: _, _ :: _, [] => rfl
  | sx :: Sx, p :: Px, sy :: Sy, q :: Py => by
    show atoms (gap first p q (some (sx, sy)) ++ gaps first Sx Px Sy Py) = _
    rw [atoms_append, gap_atoms, gaps_atoms first Sx Px Sy Py]; rfl

theorem gapsA_insT (b : UInt8) {Sx : List Bool} {p : List UInt8} {ps : List (List UInt8)} {Sy : List Bool} {Py : List (List UInt8)} (h : Sx.length = Sy.length) (h1 : ps.length = Sx.length) (h2 : Py.length = Sy.length + 1) :
    gapsA true Sx ((b :: p) :: ps) Sy Py = .ins b :: gapsA true Sx (p :: ps) Sy Py := by
  match Sx, Sy, Py, h, h2 with
  | [], _, q :: Py, _, _ => rfl
  | sx :: Sx, sy :: Sy, q :: Py, _, _ => rfl
theorem gapsA_keepT (b : UInt8) {Sx : List Bool} {Px : List (List UInt8)} {Sy : List Bool} {q : List UInt8} {qs : List (List UInt8)} (h : Sx.length = Sy.length) (h1 : Px.length = Sx.length) :
    gapsA true Sx ([] :: Px) Sy ((b :: q) :: qs) = .keep :: gapsA true Sx ([] :: Px) Sy (q :: qs) := by
  match Sx, Sy, h with
  | [], _, _ => rfl
  | sx :: Sx, sy :: Sy, _ => rfl
theorem gapsA_keepF (b : UInt8) {Sx : List Bool} {p : List UInt8} {Px : List (List UInt8)} {Sy : List Bool} {q : List UInt8} {qs : List (List UInt8)} (h : Sx.length = Sy.length) (h1 : Px.length = Sx.length) :
    gapsA false Sx (p :: Px) Sy ((b :: q) :: qs) = .keep :: gapsA false Sx (p :: Px) Sy (q :: qs) := by
  match Sx, Sy, h with
  | [], _, _ => rfl
  | sx :: Sx, sy :: Sy, _ => rfl
theorem gapsA_insF (b : UInt8) {Sx : List Bool} {p : List UInt8} {ps : List (List UInt8)} {Sy : List Bool} {qs : List (List UInt8)} (h : Sx.length = Sy.length) (h1 : ps.length = Sx.length) :
    gapsA false Sx ((b :: p) :: ps) Sy ([] :: qs) = .ins b :: gapsA false Sx (p :: ps) Sy ([] :: qs) := by
  match Sx, Sy, h with
  | [], _, _ => rfl
  | sx :: Sx, sy :: Sy, _ => rfl

theorem puts_cons (l : List Atom) : ∃ p ps, puts l = p :: ps ∧ ps.length = (stays l).length := by
  have h := puts_len l
  match hp : puts l, puts_ne l with
  | p :: ps, _ => rw [hp] at h; exact ⟨p, ps, rfl, by simpa using h⟩

theorem gapsA_T : ∀ (x y : List Atom), nS x = nS y → gapsA true (stays x) (puts x) (stays y) (puts y) = carryT x y := by
  intro x y
  induction x, y using carryT.induct with
  | case1 b x y ih =>
    intro h
    rw [carryT, ← ih h]
    obtain ⟨p, ps, e, hl⟩ := puts_cons x
    show gapsA true (stays x) (consHead b (puts x)) (stays y) (puts y) = _
    rw [e]
    exact gapsA_insT b (by rw [← nS_stays, ← nS_stays]; exact h) hl (puts_len y)
  | case2 c y ih =>
    intro h
    rw [carryT, ← ih h]
    obtain ⟨p, ps, e, hl⟩ := puts_cons y
    show gapsA true [] [[]] (stays y) (consHead c (puts y)) = _
    rw [e]; rfl
  | case3 x c y ih =>
    intro h
    rw [carryT, ← ih h]
    obtain ⟨p, ps, e, hl⟩ := puts_cons y
    show gapsA true (true :: stays x) ([] :: puts x) (stays y) (consHead c (puts y)) = _
    rw [e]
    have : (true :: stays x).length = (stays y).length := by rw [← nS_stays y, ← show nS (.ins c :: y) = nS y from rfl, ← h]; simp [nS, nS_stays]
    exact gapsA_keepT c this (by rw [puts_len]; simp)
  | case4 x c y ih =>
    intro h
    rw [carryT, ← ih h]
    obtain ⟨p, ps, e, hl⟩ := puts_cons y
    show gapsA true (false :: stays x) ([] :: puts x) (stays y) (consHead c (puts y)) = _
    rw [e]
    have : (false :: stays x).length = (stays y).length := by rw [← nS_stays y, ← show nS (.ins c :: y) = nS y from rfl, ← h]; simp [nS, nS_stays]
    exact gapsA_keepT c this (by rw [puts_len]; simp)
  | case5 x y ih => intro h; rw [carryT, ← ih (by simpa [nS] using h)]; rfl
  | case6 x y ih => intro h; rw [carryT, ← ih (by simpa [nS] using h)]; rfl
  | case7 x y ih => intro h; rw [carryT, ← ih (by simpa [nS] using h)]; rfl
  | case8 x y ih => intro h; rw [carryT, ← ih (by simpa [nS] using h)]; rfl
  | case9 x y h1 h2 h3 h4 h5 h6 h7 h8 =>
    intro g
    match x, y with
    | .ins b :: x, y => exact absurd rfl (h1 b x)
    | [], .ins c :: y => exact absurd rfl (h2 c y rfl)
    | [], [] => simp [carryT, gapsA, stays, puts, gapA, stA]
    | [], .keep :: y => simp [nS] at g
    | [], .drop :: y => simp [nS] at g
    | .keep :: x, [] => simp [nS] at g
    | .drop :: x, [] => simp [nS] at g
    | .keep :: x, .ins c :: y => exact absurd rfl (h3 x c y rfl)
    | .drop :: x, .ins c :: y => exact absurd rfl (h4 x c y rfl)
    | .keep :: x, .keep :: y => exact absurd rfl (h5 x y rfl)
    | .drop :: x, .keep :: y => exact absurd rfl (h6 x y rfl)
    | .keep :: x, .drop :: y => exact absurd rfl (h7 x y rfl)
    | .drop :: x, .drop :: y => exact absurd rfl (h8 x y rfl)
theorem gapsA_F : ∀ (x y : List Atom), nS x = nS y → gapsA false (stays x) (puts x) (stays y) (puts y) = carryF x y := by
  intro x y
  induction x, y using carryF.induct with
  | case1 x c y ih =>
    intro h
    rw [carryF, ← ih h]
    obtain ⟨p, ps, e, hl⟩ := puts_cons y
    obtain ⟨p', ps', e', hl'⟩ := puts_cons x
    show gapsA false (stays x) (puts x) (stays y) (consHead c (puts y)) = _
    rw [e, e']
    exact gapsA_keepF c (by rw [← nS_stays, ← nS_stays]; exact h) hl'
  | case2 b x ih =>
    intro h
    rw [carryF, ← ih h]
    obtain ⟨p, ps, e, hl⟩ := puts_cons x
    show gapsA false (stays x) (consHead b (puts x)) [] [[]] = _
    rw [e]
    exact gapsA_insF b (by rw [← nS_stays]; exact h) hl
  | case3 b x y ih =>
    intro h
    rw [carryF, ← ih h]
    obtain ⟨p, ps, e, hl⟩ := puts_cons x
    show gapsA false (stays x) (consHead b (puts x)) (true :: stays y) ([] :: puts y) = _
    rw [e]
    exact gapsA_insF b (by rw [← nS_stays, ← show nS (.ins b :: x) = nS x from rfl, h]; simp [nS, nS_stays]) hl
  | case4 b x y ih =>
    intro h
    rw [carryF, ← ih h]
    obtain ⟨p, ps, e, hl⟩ := puts_cons x
    show gapsA false (stays x) (consHead b (puts x)) (false :: stays y) ([] :: puts y) = _
    rw [e]
    exact gapsA_insF b (by rw [← nS_stays, ← show nS (.ins b :: x) = nS x from rfl, h]; simp [nS, nS_stays]) hl
  | case5 x y ih => intro h; rw [carryF, ← ih (by simpa [nS] using h)]; rfl
  | case6 x y ih => intro h; rw [carryF, ← ih (by simpa [nS] using h)]; rfl
  | case7 x y ih => intro h; rw [carryF, ← ih (by simpa [nS] using h)]; rfl
  | case8 x y ih => intro h; rw [carryF, ← ih (by simpa [nS] using h)]; rfl
  | case9 x y h1 h2 h3 h4 h5 h6 h7 h8 =>
    intro g
    match x, y with
    | x, .ins c :: y => exact absurd rfl (h1 c y)
    | .ins b :: x, [] => exact absurd rfl (h2 b x rfl)
    | .ins b :: x, .keep :: y => exact absurd rfl (h3 b x y rfl)
    | .ins b :: x, .drop :: y => exact absurd rfl (h4 b x y rfl)
    | [], [] => simp [carryF, gapsA, stays, puts, gapA, stA]
    | [], .keep :: y => simp [nS] at g
    | [], .drop :: y => simp [nS] at g
    | .keep :: x, [] => simp [nS] at g
    | .drop :: x, [] => simp [nS] at g
    | .keep :: x, .keep :: y => exact absurd rfl (h5 x y rfl)
    | .drop :: x, .keep :: y => exact absurd rfl (h6 x y rfl)
    | .keep :: x, .drop :: y => exact absurd rfl (h7 x y rfl)
    | .drop :: x, .drop :: y => exact absurd rfl (h8 x y rfl)
theorem gapsA_carry (first : Bool) (x y : List Atom) (h : nS x = nS y) : gapsA first (stays x) (puts x) (stays y) (puts y) = carryA first x y := by
  cases first
  · exact gapsA_F x y h
  · exact gapsA_T x y h

/-! ### the loops -/
def rest (first : Bool) (Sx : List Bool) (Px : List (List UInt8)) (Sy : List Bool) (Py : List (List UInt8)) (k : Nat) : List Prt := gaps first (Sx.drop k) (Px.drop k) (Sy.drop k) (Py.drop k)
def stAt (Sx Sy : List Bool) (k : Nat) : Option (Bool × Bool) := match Sx[k]?, Sy[k]? with
  | some a, some b => some (a, b)
  | _, _ => none
theorem rest_step (first : Bool) {Sx : List Bool} {Px : List (List UInt8)} {Sy : List Bool} {Py : List (List UInt8)} {k : Nat} (hs : Sx.length = Sy.length) (hx : k < Px.length) (hy : k < Py.length) (hl : Px.length = Sx.length + 1) (hl2 : Py.length = Sy.length + 1) :
    rest first Sx Px Sy Py k = gap first Px[k] Py[k] (stAt Sx Sy k) ++ rest first Sx Px Sy Py (k + 1) := by
  unfold rest
  rw [List.drop_eq_getElem_cons hx, List.drop_eq_getElem_cons hy]
  by_cases h : k < Sx.length
  · have h' : k < Sy.length := by omega
    rw [List.drop_eq_getElem_cons h, List.drop_eq_getElem_cons h']
    simp only [gaps, stAt, List.getElem?_eq_getElem h, List.getElem?_eq_getElem h']
  · have e : Sx.drop k = [] := List.drop_eq_nil_of_le (by omega)
    have e2 : Sx.drop (k + 1) = [] := List.drop_eq_nil_of_le (by omega)
    have e3 : Px.drop (k + 1) = [] := List.drop_eq_nil_of_le (by omega)
    rw [e, e2, e3]
    simp only [gaps, stAt, List.getElem?_eq_none (show Sx.length ≤ k by omega), List.append_nil]
/-- rows that fit -/
structure Rows (Sx : List Bool) (Px : List (List UInt8)) (Sy : List Bool) (Py : List (List UInt8)) : Prop where
  s : Sx.length = Sy.length
  x : Px.length = Sx.length + 1
  y : Py.length = Sy.length + 1
  n : Sx.length ≤ 1000
  px : ∀ p ∈ Px, p.length ≤ 1000
  py : ∀ p ∈ Py, p.length ≤ 1000

theorem one_I : I64 1 ∧ I64 0 := by unfold I64; omega
theorem i_carry_loop {first : Bool} {Sx : List Bool} {Px : List (List UInt8)} {Sy : List Bool} {Py : List (List UInt8)} (h : Rows Sx Px Sy Py) :
    Ok (loopG i_carry_L1 (first, ((List.length Px : Nat) : Int), 0, Sx, Px, Sy, Py, [])) fun z => z = norm (rest first Sx Px Sy Py 0) ∧ Sm 4004004 z := by
  refine (Ok.loop (fun y => y.1 = first ∧ y.2.1 = ((List.length Px : Nat) : Int) ∧ y.2.2.2.1 = Sx ∧ y.2.2.2.2.1 = Px ∧ y.2.2.2.2.2.1 = Sy ∧ y.2.2.2.2.2.2.1 = Py ∧ ∃ k : Nat, y.2.2.1 = ((k : Nat) : Int) ∧ k ≤ Px.length ∧
      Sm (k * 4000) y.2.2.2.2.2.2.2 ∧ (rest first Sx Px Sy Py k).foldl addp y.2.2.2.2.2.2.2 = norm (rest first Sx Px Sy Py 0)) (fun y => (((List.length Px : Nat) : Int) - y.2.2.1).toNat)
    ⟨rfl, rfl, rfl, rfl, rfl, rfl, 0, rfl, Nat.zero_le _, Sm.nil _, rfl⟩ ?_)
  rintro ⟨f, n, k', sx, px, sy, py, o⟩ ⟨e1, e2, e3, e4, e5, e6, k, e7, hk, ho, hf⟩
  dsimp only at e1 e2 e3 e4 e5 e6 e7 ho hf
  subst e1 e2 e3 e4 e5 e6 e7
  obtain ⟨hs, hx, hy, hn, hpx, hpy⟩ := h
  unfold i_carry_L1
  dsimp only
  refine Ok.ite (fun hc => ?_) fun hc => ?_
  · have hlt : k < px.length := by simpa using hc
    have hlt2 : k < py.length := by omega
    have z := one_I.2
    have lp := hpx _ (List.getElem_mem hlt)
    have lq := hpy _ (List.getElem_mem hlt2)
    rw [rest_step f hs hlt hlt2 hx hy, List.foldl_append] at hf
    refine Ok.yes (by simp) (Ok.yes (by simpa using hlt) (Ok.bind_eq (r := px[k]) (by simp [List.getElem?_eq_getElem hlt]) ?_))
    refine Ok.bind (Q := fun v => v = (f, ((k : Nat) : Int), ((List.length px : Nat) : Int), ((k : Nat) : Int), sx, px, sy, py, if f = true then addp o (0, 0, px[k]) else o, 0, 0, px[k])) ?_ ?_
    · refine Ok.ite (fun hf1 => ?_) fun hf1 => Ok.mk (by rw [if_neg hf1])
      exact Ok.bind_eq (i_add_eq ho (by omega) 0 0 _ (by omega)) (Ok.mk (by rw [if_pos hf1]))
    rintro _ rfl
    dsimp only
    have so1 : Sm (k * 4000 + 1000) (if f = true then addp o (0, 0, px[k]) else o) := by
      split
      · exact addp_sm ho ⟨z, z⟩ (by omega) (by dsimp only; omega)
      · exact ho.mono (by omega)
    have iq : I64 ((List.length py[k] : Nat) : Int) := by unfold I64; omega
    refine Ok.yes (by simp) (Ok.yes (by simp; omega) (Ok.bind_eq (r := py[k]) (by simp [List.getElem?_eq_getElem hlt2]) (Ok.bind_eq (i_add_eq so1 (by omega) _ 0 [] (by simp)) ?_)))
    have so2 := addp_sm (p := (((List.length py[k] : Nat) : Int), 0, [])) (C := k * 4000 + 1001) so1 ⟨iq, z⟩ (by omega) (by simp)
    refine Ok.bind (Q := fun v => v = (f, ((k : Nat) : Int), ((List.length px : Nat) : Int), ((k : Nat) : Int), sx, px, sy, py, if f = true then addp (addp o (0, 0, px[k])) (((List.length py[k] : Nat) : Int), 0, []) else addp (addp o (((List.length py[k] : Nat) : Int), 0, [])) (0, 0, px[k]))) ?_ ?_
    · cases f with
      | true => exact Ok.no (by simp) (Ok.mk (by simp))
      | false =>
        refine Ok.yes (by simp) (Ok.bind_eq (i_add_eq so2 (by omega) 0 0 _ (by omega)) (Ok.mk (by simp)))
    rintro _ rfl
    dsimp only
    have so3 : Sm (k * 4000 + 2001) (if f = true then addp (addp o (0, 0, px[k])) (((List.length py[k] : Nat) : Int), 0, []) else addp (addp o (((List.length py[k] : Nat) : Int), 0, [])) (0, 0, px[k])) := by
      cases f with
      | true => exact so2.mono (by omega)
      | false => exact addp_sm so2 ⟨z, z⟩ (by omega) (by dsimp only; omega)
    generalize hO : (if f = true then addp (addp o (0, 0, px[k])) (((List.length py[k] : Nat) : Int), 0, []) else addp (addp o (((List.length py[k] : Nat) : Int), 0, [])) (0, 0, px[k])) = O at so3
    have hgap : (gap f px[k] py[k] (stAt sx sy k)).foldl addp o = (stPart (stAt sx sy k)).foldl addp O := by
      subst hO
      unfold gap
      rw [List.foldl_append]
      cases f <;> rfl
    rw [hgap] at hf
    refine Ok.bind (Q := fun v => ∃ b : Bool, v = (f, ((k : Nat) : Int), ((List.length px : Nat) : Int), ((k : Nat) : Int), b, sx, px, sy, py, O) ∧ (b = true → stPart (stAt sx sy k) = []) ∧ (b = false → ∃ h1 : k < sx.length, stPart (stAt sx sy k) = if sx[k] = true then [(1, 0, [])] else [(0, 1, [])])) ?_ ?_
    · refine Ok.ite (fun hq => ?_) fun hq => ?_
      · have : k = sx.length := by
          have : ((k : Nat) : Int) = ((List.length sx : Nat) : Int) := by simpa using hq
          omega
        refine Ok.mk ⟨true, rfl, fun _ => ?_, fun h => by cases h⟩
        simp [stAt, this, stPart]
      · have hks : k < sx.length := by
          have : ¬ ((k : Nat) : Int) = ((List.length sx : Nat) : Int) := by simpa using hq
          omega
        have hks2 : k < sy.length := by omega
        refine Ok.yes (by simp) (Ok.yes (by simp; omega) (Ok.bind_eq (r := sy[k]) (by simp [List.getElem?_eq_getElem hks2]) (Ok.mk ⟨_, rfl, fun hb => ?_, fun hb => ⟨hks, ?_⟩⟩)))
        · have : sy[k] = false := by simpa using hb
          simp only [stAt, List.getElem?_eq_getElem hks, List.getElem?_eq_getElem hks2, this]
          cases sx[k] <;> rfl
        · have : sy[k] = true := by simpa using hb
          simp only [stAt, List.getElem?_eq_getElem hks, List.getElem?_eq_getElem hks2, this]
          cases sx[k] <;> rfl
    rintro _ ⟨b, rfl, hb1, hb2⟩
    dsimp only
    refine Ok.bind (Q := fun v => v = (f, ((List.length px : Nat) : Int), ((k : Nat) : Int), sx, px, sy, py, (stPart (stAt sx sy k)).foldl addp O)) ?_ ?_
    · cases b with
      | true => exact Ok.yes rfl (Ok.mk (by rw [hb1 rfl]; rfl))
      | false =>
        obtain ⟨hks, hst⟩ := hb2 rfl
        refine Ok.no (by simp) (Ok.yes (by simp) (Ok.yes (by simp; omega) (Ok.bind_eq (r := sx[k]) (by simp [List.getElem?_eq_getElem hks]) ?_)))
        refine Ok.bind (Q := fun v => v = (f, ((List.length px : Nat) : Int), ((k : Nat) : Int), sx, px, sy, py, (stPart (stAt sx sy k)).foldl addp O)) ?_ (fun v hv => Ok.mk hv)
        rw [hst]
        refine Ok.ite (fun h1 => Ok.bind_eq (i_add_eq so3 (by omega) 1 0 [] (by simp)) (Ok.mk (by rw [if_pos h1]; rfl))) fun h1 => Ok.bind_eq (i_add_eq so3 (by omega) 0 1 [] (by simp)) (Ok.mk (by rw [if_neg h1]; rfl))
    rintro _ rfl
    dsimp only
    have so4 : Sm ((k + 1) * 4000) ((stPart (stAt sx sy k)).foldl addp O) := by
      cases b with
      | true => rw [hb1 rfl]; exact so3.mono (by omega)
      | false =>
        obtain ⟨hks, hst⟩ := hb2 rfl
        rw [hst]
        split
        · exact addp_sm (p := (1, 0, [])) (C := (k + 1) * 4000) so3 ⟨one_I.1, z⟩ (by omega) (by simp; omega)
        · exact addp_sm (p := (0, 1, [])) (C := (k + 1) * 4000) so3 ⟨z, one_I.1⟩ (by omega) (by simp; omega)
    exact Ok.mk ⟨⟨rfl, rfl, rfl, rfl, rfl, rfl, k + 1, idx_succ (n := px.length) (by omega) hlt, by omega, so4, hf⟩, by rw [idx_succ (n := px.length) (by omega) hlt]; dsimp only; omega⟩
  · have : k = px.length := by
      have : ¬ ((k : Int) < ((List.length px : Nat) : Int)) := by simpa using hc
      omega
    subst this
    refine Ok.mk ⟨?_, ho.mono (by omega)⟩
    rw [← hf]
    have : rest f sx px sy py px.length = [] := by
      unfold rest
      rw [List.drop_length, List.drop_eq_nil_of_le (show sx.length ≤ px.length by omega)]; rfl
    rw [this]; rfl
end Go.V.G

/-
  P12: what the reference's 'l1Carry' returns; changes carried; applied; the pure law of FnDiamond is built on it.
-/
set_option linter.unusedVariables false
set_option linter.unusedSimpArgs false
set_option maxRecDepth 100000
namespace Go.V.G
open Go.V

theorem s_carry_loop {first : Bool} {Sx : List Bool} {Px : List (List UInt8)} {Sy : List Bool} {Py : List (List UInt8)} (h : Rows Sx Px Sy Py) :
    Ok (loopG s_l1Carry_L1 (first, [], Px, ((List.length Px : Nat) : Int), 0, Sx, Sy, Py)) fun z => z = norm (rest first Sx Px Sy Py 0) ∧ Sm 4004004 z := by
  refine (Ok.loop (fun y => y.1 = first ∧ y.2.2.2.1 = ((List.length Px : Nat) : Int) ∧ y.2.2.2.2.2.1 = Sx ∧ y.2.2.1 = Px ∧ y.2.2.2.2.2.2.1 = Sy ∧ y.2.2.2.2.2.2.2 = Py ∧ ∃ k : Nat, y.2.2.2.2.1 = ((k : Nat) : Int) ∧ k ≤ Px.length ∧
      Sm (k * 4000) y.2.1 ∧ (rest first Sx Px Sy Py k).foldl addp y.2.1 = norm (rest first Sx Px Sy Py 0)) (fun y => (((List.length Px : Nat) : Int) - y.2.2.2.2.1).toNat)
    ⟨rfl, rfl, rfl, rfl, rfl, rfl, 0, rfl, Nat.zero_le _, Sm.nil _, rfl⟩ ?_)
  rintro ⟨f, o, px, n, k', sx, sy, py⟩ ⟨e1, e2, e3, e4, e5, e6, k, e7, hk, ho, hf⟩
  dsimp only at e1 e2 e3 e4 e5 e6 e7 ho hf
  subst e1 e2 e3 e4 e5 e6 e7
  obtain ⟨hs, hx, hy, hn, hpx, hpy⟩ := h
  unfold s_l1Carry_L1
  dsimp only
  refine Ok.ite (fun hc => ?_) fun hc => ?_
  · have hlt : k < px.length := by simpa using hc
    have hlt2 : k < py.length := by omega
    have z := one_I.2
    have lp := hpx _ (List.getElem_mem hlt)
    have lq := hpy _ (List.getElem_mem hlt2)
    rw [rest_step f hs hlt hlt2 hx hy, List.foldl_append] at hf
    refine Ok.bind (Q := fun v => ∃ O4, v = (f, O4, px, ((List.length px : Nat) : Int), ((k : Nat) : Int), sx, sy, py) ∧ Sm ((k + 1) * 4000) O4 ∧ (rest f sx px sy py (k + 1)).foldl addp O4 = norm (rest f sx px sy py 0)) ?_ ?_
    rotate_left
    · rintro _ ⟨O4, rfl, so4, hf⟩
      exact Ok.mk ⟨⟨rfl, rfl, rfl, rfl, rfl, rfl, k + 1, idx_succ (n := px.length) (by omega) hlt, by omega, so4, hf⟩, by rw [idx_succ (n := px.length) (by omega) hlt]; dsimp only; omega⟩
    refine Ok.yes (by simp) (Ok.yes (by simpa using hlt) (Ok.bind_eq (r := px[k]) (by simp [List.getElem?_eq_getElem hlt]) ?_))
    refine Ok.bind (Q := fun v => v = (f, (if f = true then addp o (0, 0, px[k]) else o), ((k : Nat) : Int), px[k], px, ((List.length px : Nat) : Int), ((k : Nat) : Int), sx, sy, py)) ?_ ?_
    · refine Ok.ite (fun hf1 => ?_) fun hf1 => Ok.mk (by rw [if_neg hf1])
      exact Ok.bind_eq (s_l1Add_eq ho (by omega) 0 0 _ (by omega)) (Ok.mk (by rw [if_pos hf1]))
    rintro _ rfl
    dsimp only
    have so1 : Sm (k * 4000 + 1000) (if f = true then addp o (0, 0, px[k]) else o) := by
      split
      · exact addp_sm ho ⟨z, z⟩ (by omega) (by dsimp only; omega)
      · exact ho.mono (by omega)
    have iq : I64 ((List.length py[k] : Nat) : Int) := by unfold I64; omega
    refine Ok.yes (by simp) (Ok.yes (by simp; omega) (Ok.bind_eq (r := py[k]) (by simp [List.getElem?_eq_getElem hlt2]) (Ok.bind_eq (s_l1Add_eq so1 (by omega) _ 0 [] (by simp)) ?_)))
    have so2 := addp_sm (p := (((List.length py[k] : Nat) : Int), 0, [])) (C := k * 4000 + 1001) so1 ⟨iq, z⟩ (by omega) (by simp)
    refine Ok.bind (Q := fun v => v = (f, (if f = true then addp (addp o (0, 0, px[k])) (((List.length py[k] : Nat) : Int), 0, []) else addp (addp o (((List.length py[k] : Nat) : Int), 0, [])) (0, 0, px[k])), ((k : Nat) : Int), px, ((List.length px : Nat) : Int), ((k : Nat) : Int), sx, sy, py)) ?_ ?_
    · cases f with
      | true => exact Ok.no (by simp) (Ok.mk (by simp))
      | false =>
        refine Ok.yes (by simp) (Ok.bind_eq (s_l1Add_eq so2 (by omega) 0 0 _ (by omega)) (Ok.mk (by simp)))
    rintro _ rfl
    dsimp only
    have so3 : Sm (k * 4000 + 2001) (if f = true then addp (addp o (0, 0, px[k])) (((List.length py[k] : Nat) : Int), 0, []) else addp (addp o (((List.length py[k] : Nat) : Int), 0, [])) (0, 0, px[k])) := by
      cases f with
      | true => exact so2.mono (by omega)
      | false => exact addp_sm so2 ⟨z, z⟩ (by omega) (by dsimp only; omega)
    generalize hO : (if f = true then addp (addp o (0, 0, px[k])) (((List.length py[k] : Nat) : Int), 0, []) else addp (addp o (((List.length py[k] : Nat) : Int), 0, [])) (0, 0, px[k])) = O at so3
    have hgap : (gap f px[k] py[k] (stAt sx sy k)).foldl addp o = (stPart (stAt sx sy k)).foldl addp O := by
      subst hO
      unfold gap
      rw [List.foldl_append]
      cases f <;> rfl
    rw [hgap] at hf
    refine Ok.bind (Q := fun v => ∃ b : Bool, v = (f, O, ((k : Nat) : Int), px, ((List.length px : Nat) : Int), ((k : Nat) : Int), b, sx, sy, py) ∧ (b = true → stPart (stAt sx sy k) = []) ∧ (b = false → ∃ h1 : k < sx.length, stPart (stAt sx sy k) = if sx[k] = true then [(1, 0, [])] else [(0, 1, [])])) ?_ ?_
    · refine Ok.ite (fun hq => ?_) fun hq => ?_
      · have : k = sx.length := by
          have : ((k : Nat) : Int) = ((List.length sx : Nat) : Int) := by simpa using hq
          omega
        refine Ok.mk ⟨true, rfl, fun _ => ?_, fun h => by cases h⟩
        simp [stAt, this, stPart]
      · have hks : k < sx.length := by
          have : ¬ ((k : Nat) : Int) = ((List.length sx : Nat) : Int) := by simpa using hq
          omega
        have hks2 : k < sy.length := by omega
        refine Ok.yes (by simp) (Ok.yes (by simp; omega) (Ok.bind_eq (r := sy[k]) (by simp [List.getElem?_eq_getElem hks2]) (Ok.mk ⟨_, rfl, fun hb => ?_, fun hb => ⟨hks, ?_⟩⟩)))
        · have : sy[k] = false := by simpa using hb
          simp only [stAt, List.getElem?_eq_getElem hks, List.getElem?_eq_getElem hks2, this]
          cases sx[k] <;> rfl
        · have : sy[k] = true := by simpa using hb
          simp only [stAt, List.getElem?_eq_getElem hks, List.getElem?_eq_getElem hks2, this]
          cases sx[k] <;> rfl
    rintro _ ⟨b, rfl, hb1, hb2⟩
    dsimp only
    have so4 : Sm ((k + 1) * 4000) ((stPart (stAt sx sy k)).foldl addp O) := by
      cases b with
      | true => rw [hb1 rfl]; exact so3.mono (by omega)
      | false =>
        obtain ⟨hks, hst⟩ := hb2 rfl
        rw [hst]
        split
        · exact addp_sm (p := (1, 0, [])) (C := (k + 1) * 4000) so3 ⟨one_I.1, z⟩ (by omega) (by simp; omega)
        · exact addp_sm (p := (0, 1, [])) (C := (k + 1) * 4000) so3 ⟨z, one_I.1⟩ (by omega) (by simp; omega)
    cases b with
    | true => exact Ok.yes rfl (Ok.mk ⟨O, rfl, so3.mono (by omega), by rw [hb1 rfl] at hf; exact hf⟩)
    | false =>
      obtain ⟨hks, hst⟩ := hb2 rfl
      refine Ok.no (by simp) (Ok.yes (by simp) (Ok.yes (by simp; omega) (Ok.bind_eq (r := sx[k]) (by simp [List.getElem?_eq_getElem hks]) ?_)))
      refine Ok.bind (Q := fun v => v = (f, (stPart (stAt sx sy k)).foldl addp O, px, ((List.length px : Nat) : Int), ((k : Nat) : Int), sx, sy, py)) ?_ (fun v hv => Ok.mk ⟨_, hv, so4, hf⟩)
      rw [hst]
      refine Ok.ite (fun h1 => Ok.bind_eq (s_l1Add_eq so3 (by omega) 1 0 [] (by simp)) (Ok.mk (by rw [if_pos h1]; rfl))) fun h1 => Ok.bind_eq (s_l1Add_eq so3 (by omega) 0 1 [] (by simp)) (Ok.mk (by rw [if_neg h1]; rfl))
  · have : k = px.length := by
      have : ¬ ((k : Int) < ((List.length px : Nat) : Int)) := by simpa using hc
      omega
    subst this
    refine Ok.mk ⟨?_, ho.mono (by omega)⟩
    rw [← hf]
    have : rest f sx px sy py px.length = [] := by
      unfold rest
      rw [List.drop_length, List.drop_eq_nil_of_le (show sx.length ≤ px.length by omega)]; rfl
    rw [this]; rfl
end Go.V.G

/-
  P13: changes carried, applied: what the program's functions and the reference's return.
-/
set_option linter.unusedVariables false
set_option linter.unusedSimpArgs false
set_option maxRecDepth 100000
namespace Go.V.G
open Go.V

theorem src_nS {c : List Prt} (h : ∀ p ∈ c, Some1 p) : src c = ((nS (atoms c) : Nat) : Int) := by rw [← stays_len h, nS_stays]
theorem tgt_nT {c : List Prt} (h : ∀ p ∈ c, Some1 p) : tgt c = ((nT (atoms c) : Nat) : Int) := by rw [tgt_atoms h, nT_eq]

theorem i_fits_eq {B : Nat} {c : List Prt} (h : Sm B c) (hB : B ≤ 1099511627776) (n : Int) : i_fits c n = some (good c && decide (src c = n)) := by
  unfold i_fits
  rw [i_LengthsOf_eq h hB, Option.bind_some]
  unfold lensOf
  cases hg : good c <;> simp

theorem rows_good {a b : List Prt} (ha : good a = true) (hb : good b = true) (h : src a = src b) : Rows (stays (atoms a)) (puts (atoms a)) (stays (atoms b)) (puts (atoms b)) := by
  have sa := okk_some (good_spec ha).1
  have sb := okk_some (good_spec hb).1
  have la := stays_len sa
  have lb := stays_len sb
  have := (good_spec ha).2.1
  refine ⟨by omega, puts_len _, puts_len _, by omega, fun p hp => ?_, fun p hp => ?_⟩
  · have := put_le _ p hp; rw [nIns_atoms] at this; have := (good_sm ha).put; omega
  · have := put_le _ p hp; rw [nIns_atoms] at this; have := (good_sm hb).put; omega

def carried (first : Bool) (a b : List Prt) : List Prt := norm (gaps first (stays (atoms a)) (puts (atoms a)) (stays (atoms b)) (puts (atoms b)))
theorem carried_rest (first : Bool) (a b : List Prt) : norm (rest first (stays (atoms a)) (puts (atoms a)) (stays (atoms b)) (puts (atoms b)) 0) = carried first a b := rfl

theorem gap_fine (first : Bool) (p q : List UInt8) (st : Option (Bool × Bool)) : ∀ r ∈ gap first p q st, Fine r := by
  intro r hr
  unfold gap at hr
  rcases List.mem_append.1 hr with hr | hr
  · split at hr <;> (simp only [List.mem_cons, List.not_mem_nil, or_false] at hr; rcases hr with rfl | rfl <;> first | exact Fine.put _ | exact Fine.keep (by omega))
  · match st, hr with
    | some (true, true), hr => rw [List.mem_singleton.1 hr]; exact Fine.keep (by omega)
    | some (false, true), hr => rw [List.mem_singleton.1 hr]; exact Fine.drop (by omega)
theorem gaps_fine (first : Bool) : ∀ (Sx : List Bool) (Px : List (List UInt8)) (Sy : List Bool) (Py : List (List UInt8)), ∀ r ∈ gaps first Sx Px Sy Py, Fine r
  | [], [], _, _, r, hr => by cases hr
  | [], p :: _, _, [], r, hr => by cases hr
  | [], p :: _, _, q :: _, r, hr => gap_fine _ _ _ _ r hr
  | _ :: _, [], _, _, r, hr => by cases hr
  | _ :: _, _ :: _, [], _, r, hr => by cases hr
  | _ :: _, _ :: _, _ :: _, [], r, hr => by cases hr
  | sx :: Sx, p :: Px, sy :: Sy, q :: Py, r, hr => by
    rcases List.mem_append.1 hr with hr | hr
    · exact gap_fine _ _ _ _ r hr
    · exact gaps_fine first Sx Px Sy Py r hr
theorem nS_pa (p : Prt) : nS (pa p) = (p.1 + p.2.1).toNat := by rw [nS_stays, stays_pa, List.length_replicate]
/-- lists of fine parts: their lengths by their bytes -/
theorem src_fine : ∀ {l : List Prt}, (∀ p ∈ l, Fine p) → src l = ((nS (atoms l) : Nat) : Int)
  | [], _ => rfl
  | p :: l, h => by
    have ih := src_fine (l := l) fun q hq => h q (by simp [hq])
    have e : ∀ a b : List Atom, nS (a ++ b) = nS a + nS b := fun a b => by rw [nS_stays, nS_stays, nS_stays, stays_append, List.length_append]
    show p.1 + p.2.1 + src l = ((nS (pa p ++ atoms l) : Nat) : Int)
    have := fine_nonneg (h p (by simp))
    rw [e, ih, nS_pa]
    omega
theorem nT_append (a b : List Atom) : nT (a ++ b) = nT a + nT b := by rw [nT_eq, nT_eq, nT_eq, nIns_append, nK_append]; omega
theorem tgt_fine : ∀ {l : List Prt}, (∀ p ∈ l, Fine p) → tgt l = ((nT (atoms l) : Nat) : Int)
  | [], _ => rfl
  | p :: l, h => by
    have ih := tgt_fine (l := l) fun q hq => h q (by simp [hq])
    show p.1 + ((p.2.2.length : Nat) : Int) + tgt l = ((nT (pa p ++ atoms l) : Nat) : Int)
    rw [nT_append, ih]
    rcases h p (by simp) with rfl | hk
    · simp [pa_zero, nT]
    · have := tgt_nT (c := [p]) (fun q hq => by rw [List.mem_singleton.1 hq]; exact some1_of hk)
      have e : atoms [p] = pa p := by simp [atoms]
      rw [e] at this
      simp only [tgt] at this
      omega

/-- what is carried grows no longer than both -/
theorem carryT_nS : ∀ x y : List Atom, nS x = nS y → nS (carryT x y) = nT y := by
  intro x y
  induction x, y using carryT.induct with
  | case1 b x y ih => intro h; rw [carryT]; exact ih h
  | case2 c y ih => intro h; rw [carryT]; simp only [nS, nT]; rw [ih h]
  | case3 x c y ih => intro h; rw [carryT]; simp only [nT]; rw [← ih h]; simp [nS]
  | case4 x c y ih => intro h; rw [carryT]; simp only [nT]; rw [← ih h]; simp [nS]
  | case5 x y ih => intro h; rw [carryT]; simp only [nS, nT]; rw [ih (by simpa [nS] using h)]
  | case6 x y ih => intro h; rw [carryT]; simp only [nS, nT]; rw [ih (by simpa [nS] using h)]
  | case7 x y ih => intro h; rw [carryT]; simp only [nT]; rw [ih (by simpa [nS] using h)]
  | case8 x y ih => intro h; rw [carryT]; simp only [nT]; rw [ih (by simpa [nS] using h)]
  | case9 x y h1 h2 h3 h4 h5 h6 h7 h8 =>
    intro g
    match x, y with
    | .ins b :: x, y => exact absurd rfl (h1 b x)
    | [], .ins c :: y => exact absurd rfl (h2 c y rfl)
    | [], [] => simp [carryT, nS, nT]
    | [], .keep :: y => simp [nS] at g
    | [], .drop :: y => simp [nS] at g
    | .keep :: x, [] => simp [nS] at g
    | .drop :: x, [] => simp [nS] at g
    | .keep :: x, .ins c :: y => exact absurd rfl (h3 x c y rfl)
    | .drop :: x, .ins c :: y => exact absurd rfl (h4 x c y rfl)
    | .keep :: x, .keep :: y => exact absurd rfl (h5 x y rfl)
    | .drop :: x, .keep :: y => exact absurd rfl (h6 x y rfl)
    | .keep :: x, .drop :: y => exact absurd rfl (h7 x y rfl)
    | .drop :: x, .drop :: y => exact absurd rfl (h8 x y rfl)
theorem carryF_nS : ∀ x y : List Atom, nS x = nS y → nS (carryF x y) = nT y := by
  intro x y
  induction x, y using carryF.induct with
  | case1 x c y ih => intro h; rw [carryF]; simp only [nS, nT]; rw [ih h]
  | case2 b x ih => intro h; rw [carryF]; exact ih h
  | case3 b x y ih => intro h; rw [carryF]; exact ih h
  | case4 b x y ih => intro h; rw [carryF]; exact ih h
  | case5 x y ih => intro h; rw [carryF]; simp only [nS, nT]; rw [ih (by simpa [nS] using h)]
  | case6 x y ih => intro h; rw [carryF]; simp only [nS, nT]; rw [ih (by simpa [nS] using h)]
  | case7 x y ih => intro h; rw [carryF]; simp only [nT]; rw [ih (by simpa [nS] using h)]
  | case8 x y ih => intro h; rw [carryF]; simp only [nT]; rw [ih (by simpa [nS] using h)]
  | case9 x y h1 h2 h3 h4 h5 h6 h7 h8 =>
    intro g
    match x, y with
    | x, .ins c :: y => exact absurd rfl (h1 c y)
    | .ins b :: x, [] => exact absurd rfl (h2 b x rfl)
    | .ins b :: x, .keep :: y => exact absurd rfl (h3 b x y rfl)
    | .ins b :: x, .drop :: y => exact absurd rfl (h4 b x y rfl)
    | [], [] => simp [carryF, nS, nT]
    | [], .keep :: y => simp [nS] at g
    | [], .drop :: y => simp [nS] at g
    | .keep :: x, [] => simp [nS] at g
    | .drop :: x, [] => simp [nS] at g
    | .keep :: x, .keep :: y => exact absurd rfl (h5 x y rfl)
    | .drop :: x, .keep :: y => exact absurd rfl (h6 x y rfl)
    | .keep :: x, .drop :: y => exact absurd rfl (h7 x y rfl)
    | .drop :: x, .drop :: y => exact absurd rfl (h8 x y rfl)
theorem carryA_nS (first : Bool) (x y : List Atom) (h : nS x = nS y) : nS (carryA first x y) = nT y := by
  cases first
  · exact carryF_nS x y h
  · exact carryT_nS x y h
theorem carryT_nT : ∀ x y : List Atom, nT (carryT x y) ≤ nT x + nT y := by
  intro x y
  induction x, y using carryT.induct with
  | case1 b x y ih => rw [carryT]; simp only [nT]; omega
  | case2 c y ih => rw [carryT]; simp only [nT] at ih ⊢; omega
  | case3 x c y ih => rw [carryT]; simp only [nT] at ih ⊢; omega
  | case4 x c y ih => rw [carryT]; simp only [nT] at ih ⊢; omega
  | case5 x y ih => rw [carryT]; simp only [nT]; omega
  | case6 x y ih => rw [carryT]; simp only [nT]; omega
  | case7 x y ih => rw [carryT]; simp only [nT]; omega
  | case8 x y ih => rw [carryT]; simp only [nT]; omega
  | case9 x y h1 h2 h3 h4 h5 h6 h7 h8 => rw [carryT.eq_def]; split <;> first | exact Nat.zero_le _ | simp_all
theorem carryF_nT : ∀ x y : List Atom, nT (carryF x y) ≤ nT x + nT y := by
  intro x y
  induction x, y using carryF.induct with
  | case1 x c y ih => rw [carryF]; simp only [nT] at ih ⊢; omega
  | case2 b x ih => rw [carryF]; simp only [nT] at ih ⊢; omega
  | case3 b x y ih => rw [carryF]; simp only [nT] at ih ⊢; omega
  | case4 b x y ih => rw [carryF]; simp only [nT] at ih ⊢; omega
  | case5 x y ih => rw [carryF]; simp only [nT]; omega
  | case6 x y ih => rw [carryF]; simp only [nT]; omega
  | case7 x y ih => rw [carryF]; simp only [nT]; omega
  | case8 x y ih => rw [carryF]; simp only [nT]; omega
  | case9 x y h1 h2 h3 h4 h5 h6 h7 h8 => rw [carryF.eq_def]; split <;> first | exact Nat.zero_le _ | simp_all
theorem carryA_nT (first : Bool) (x y : List Atom) : nT (carryA first x y) ≤ nT x + nT y := by
  cases first
  · exact carryF_nT x y
  · exact carryT_nT x y

theorem carried_spec {a b : List Prt} (first : Bool) (ha : good a = true) (hb : good b = true) (h : src a = src b) :
    okk 0 (carried first a b) = true ∧ atoms (carried first a b) = carryA first (atoms a) (atoms b) := by
  have sa := okk_some (good_spec ha).1
  have sb := okk_some (good_spec hb).1
  have hn : nS (atoms a) = nS (atoms b) := by have := src_nS sa; have := src_nS sb; omega
  have hf := gaps_fine first (stays (atoms a)) (puts (atoms a)) (stays (atoms b)) (puts (atoms b))
  have he : atoms (gaps first (stays (atoms a)) (puts (atoms a)) (stays (atoms b)) (puts (atoms b))) = carryA first (atoms a) (atoms b) := by rw [gaps_atoms, gapsA_carry first _ _ hn]
  have h1 := carryA_nS first _ _ hn
  have h2 := carryA_nT first (atoms a) (atoms b)
  have t1 := tgt_nT sa
  have t2 := tgt_nT sb
  have := (good_spec ha).2.2
  have := (good_spec hb).2.2
  obtain ⟨k1, k2, _⟩ := norm_spec hf ⟨by rw [src_fine hf, he, h1]; omega, by rw [tgt_fine hf, he]; omega⟩
  exact ⟨k1, by rw [← he]; exact k2⟩

def carryOf (a b : List Prt) (first : Bool) : List Prt × Bool :=
  if good a = true ∧ good b = true ∧ src a = src b ∧ good (carried first a b) = true then (carried first a b, true) else ([], false)
theorem i_carry_eq {a b : List Prt} (first : Bool) (ha : good a = true) (hb : good b = true) (h : src a = src b) : i_carry a b first = some (carried first a b, good (carried first a b)) := by
  have sa := okk_some (good_spec ha).1
  have sb := okk_some (good_spec hb).1
  have := (good_spec ha).2.1
  have := (good_spec hb).2.1
  unfold i_carry
  rw [i_tell_eq (good_sm ha) (by omega) sa (by omega), i_tell_eq (good_sm hb) (by omega) sb (by omega), Option.bind_some, Option.bind_some]
  refine Ok.eq ((i_carry_loop (first := first) (rows_good ha hb h)).bind ?_)
  rintro _ ⟨rfl, sm⟩
  exact Ok.bind_eq (i_Good_eq sm (by omega)) (Ok.mk rfl)
theorem s_carry_eq {a b : List Prt} (first : Bool) (ha : good a = true) (hb : good b = true) (h : src a = src b) : Ok (s_l1Carry a b first) fun z => z = carried first a b ∧ Sm 4004004 z := by
  have sa := okk_some (good_spec ha).1
  have sb := okk_some (good_spec hb).1
  have := (good_spec ha).2.1
  have := (good_spec hb).2.1
  unfold s_l1Carry
  rw [s_Open_eq (good_sm ha) (by omega) sa (by omega), s_Open_eq (good_sm hb) (by omega) sb (by omega), Option.bind_some, Option.bind_some]
  exact (s_carry_loop (first := first) (rows_good ha hb h)).bind fun z hz => Ok.mk hz
theorem i_CarryChange_eq {A B : Nat} {a b : List Prt} (ha : Sm A a) (hA : A ≤ 1099511627776) (hb : Sm B b) (hB : B ≤ 1099511627776) (first : Bool) : i_CarryChange a b first = some (carryOf a b first) := by
  unfold i_CarryChange carryOf
  rw [i_LengthsOf_eq hb hB, Option.bind_some]
  unfold lensOf
  cases gb : good b with
  | false => simp
  | true =>
    simp only [if_true, Bool.not_true, Bool.false_eq_true, if_false, i_fits_eq ha hA, Option.bind_some]
    cases ga : good a with
    | false => simp
    | true =>
      by_cases hs : src a = src b
      · simp only [hs, decide_true, Bool.and_true, Bool.not_true, Bool.false_eq_true, if_false, i_carry_eq first ga gb hs, Option.bind_some, true_and]
        cases hg : good (carried first a b) <;> simp [hg]
      · simp [hs]
theorem s_CarryChange_eq {A B : Nat} {a b : List Prt} (ha : Sm A a) (hA : A ≤ 1099511627776) (hb : Sm B b) (hB : B ≤ 1099511627776) (first : Bool) : s_CarryChange a b first = some (carryOf a b first) := by
  unfold s_CarryChange carryOf
  rw [s_Good_eq ha hA, Option.bind_some]
  cases ga : good a with
  | false => simp
  | true =>
    simp only [if_true, Bool.not_true, Bool.false_eq_true, if_false, s_Good_eq hb hB, Option.bind_some]
    cases gb : good b with
    | false => simp
    | true =>
      have sa := okk_some (good_spec ga).1
      have sb := okk_some (good_spec gb).1
      have := (good_spec ga).2.1
      have := (good_spec gb).2.1
      simp only [Bool.not_true, Bool.false_eq_true, if_false, s_Source_eq ha hA sa (by omega), s_Source_eq hb hB sb (by omega), Option.bind_some]
      by_cases hs : src a = src b
      · have hnn : ¬ ¬ src a = src b := fun h => h hs
        simp only [hs, not_true, decide_false, Bool.false_eq_true, if_false, true_and]
        refine Ok.eq ((s_carry_eq first ga gb hs).bind ?_)
        rintro _ ⟨rfl, sm⟩
        refine Ok.bind_eq (s_Good_eq sm (by omega)) ?_
        cases hg : good (carried first a b) with
        | false => exact Ok.yes (by simp) (Ok.mk (by simp))
        | true => exact Ok.no (by simp) (Ok.mk (by simp))
      · simp [hs]

/-! ### applied -/
def apply (t : List UInt8) (c : List Prt) : List UInt8 := ap (atoms c) t
theorem ap_append : ∀ (x y : List Atom) (t : List UInt8), nS x ≤ t.length → ap (x ++ y) t = ap x (t.take (nS x)) ++ ap y (t.drop (nS x))
  | [], y, t, _ => by cases t <;> simp [ap, nS]
  | .ins b :: x, y, t, h => by simp only [List.cons_append, ap, nS]; rw [ap_append x y t h]
  | .keep :: x, y, c :: t, h => by
    simp only [List.cons_append, ap, nS, List.take_succ_cons, List.drop_succ_cons]; rw [ap_append x y t (by simpa [nS] using h)]
  | .drop :: x, y, c :: t, h => by
    simp only [List.cons_append, ap, nS, List.take_succ_cons, List.drop_succ_cons]; rw [ap_append x y t (by simpa [nS] using h)]
  | .keep :: x, y, [], h => by simp [nS] at h
  | .drop :: x, y, [], h => by simp [nS] at h
theorem ap_map (s : List UInt8) : ap (s.map Atom.ins) [] = s := by
  induction s with
  | nil => rfl
  | cons b s ih => simp [ap, ih]
theorem ap_keep : ∀ (n : Nat) (t : List UInt8), t.length = n → ap (List.replicate n .keep) t = t
  | 0, [], _ => rfl
  | n + 1, c :: t, h => by rw [List.replicate_succ]; simp only [ap]; rw [ap_keep n t (by simpa using h)]
theorem ap_drop : ∀ (n : Nat) (t : List UInt8), t.length = n → ap (List.replicate n .drop) t = []
  | 0, [], _ => rfl
  | n + 1, c :: t, h => by rw [List.replicate_succ]; simp only [ap]; rw [ap_drop n t (by simpa using h)]
/-- one part applied -/
theorem ap_pa {p : Prt} (h : kd p ≠ 0) (t : List UInt8) (ht : t.length = (p.1 + p.2.1).toNat) : ap (pa p) t = t.take p.1.toNat ++ p.2.2 := by
  rcases kd_cases h with ⟨a, ha, rfl, _⟩ | ⟨a, ha, rfl, _⟩ | ⟨s, hs, rfl, _⟩
  · simp only [Int.add_zero] at ht
    rw [pa_keep (by omega), ap_keep _ t ht, List.append_nil, List.take_of_length_le (by dsimp only; omega)]
  · simp only [Int.zero_add] at ht
    rw [pa_drop (by omega), ap_drop _ t ht]; simp
  · have : t = [] := List.eq_nil_of_length_eq_zero (by simpa using ht)
    subst this
    rw [pa_put, ap_map]; simp

theorem i_apply_eq {c : List Prt} (hg : good c = true) {t : List UInt8} (ht : ((t.length : Nat) : Int) = src c) : i_apply t c = some (apply t c) := by
  have hs := okk_some (good_spec hg).1
  have sm := good_sm hg
  have sle := (good_spec hg).2.1
  have hlen : c.length ≤ 1099511627776 := by have := sm.len; omega
  unfold i_apply
  have : loopG i_apply_L1 (t, ([] : List UInt8), 0, c, ((List.length c : Nat) : Int), 0) = some (apply t c) := by
    have := loop_run i_apply_L1 (fun k => (t, ap (atoms (c.take k)) (t.take (nS (atoms (c.take k)))), src (c.take k), c, ((List.length c : Nat) : Int), ((k : Nat) : Int))) c.length (apply t c) (by
      intro i hlt
      have p1 := hs _ (List.getElem_mem hlt)
      have k0 := p1.k; have d0 := p1.d
      have a1 := src_at hlt
      have n1 := src_nonneg (l := c.take i) fun p h => hs p (mem_take h)
      have n3 := src_nonneg (l := c.drop (i + 1)) fun p h => hs p (mem_drop h)
      have psm := part_small hg (List.getElem_mem hlt)
      have e0 := src_nS (c := c.take i) fun p h => hs p (mem_take h)
      have hi : ((i : Nat) : Int) < ((List.length c : Nat) : Int) := by omega
      have w1 : IntKind.wrap .i64 (src (c.take i) + c[i].1) = src (c.take i) + c[i].1 := w64 (by omega) (by omega)
      have w2 : IntKind.wrap .i64 (c[i].1 + c[i].2.1) = c[i].1 + c[i].2.1 := w64 (by omega) (by omega)
      have w3 : IntKind.wrap .i64 (src (c.take i) + (c[i].1 + c[i].2.1)) = src (c.take i) + (c[i].1 + c[i].2.1) := w64 (by omega) (by omega)
      have g1 : src (c.take i) ≤ src (c.take i) + c[i].1 := by omega
      have g2 : src (c.take i) + c[i].1 ≤ ((List.length t : Nat) : Int) := by omega
      -- the text so far
      have hnt : nS (atoms (c.take i)) + (c[i].1 + c[i].2.1).toNat ≤ t.length := by omega
      have al := ap_len (atoms (c.take i)) (t.take (nS (atoms (c.take i)))) (by rw [List.length_take]; omega)
      have tn := tgt_nT (c := c.take i) fun p h => hs p (mem_take h)
      have t3 := tgt_at hlt
      have t4 := tgt_nonneg (l := c.drop (i + 1)) fun p h => hs p (mem_drop h)
      have tle := (good_spec hg).2.2
      have hout : ap (atoms (c.take (i + 1))) (t.take (nS (atoms (c.take (i + 1))))) = ap (atoms (c.take i)) (t.take (nS (atoms (c.take i)))) ++ (((t.drop (Int.toNat (src (c.take i)))).take (Int.toNat (src (c.take i) + c[i].1) - Int.toNat (src (c.take i)))) ++ c[i].2.2) := by
        have e1 : nS (atoms (c.take (i + 1))) = nS (atoms (c.take i)) + (c[i].1 + c[i].2.1).toNat := by
          rw [atoms_take hlt, nS_stays, stays_append, List.length_append, ← nS_stays, stays_pa, List.length_replicate]
        rw [e1, atoms_take hlt, ap_append _ _ _ (by rw [List.length_take]; omega), List.take_take, Nat.min_eq_left (by omega)]
        congr 1
        rw [List.drop_take, show nS (atoms (c.take i)) + (c[i].1 + c[i].2.1).toNat - nS (atoms (c.take i)) = (c[i].1 + c[i].2.1).toNat by omega,
          ap_pa p1.ne _ (by rw [List.length_take, List.length_drop]; omega), List.take_take, Nat.min_eq_left (by omega)]
        rw [show Int.toNat (src (c.take i)) = nS (atoms (c.take i)) by omega, show Int.toNat (src (c.take i) + c[i].1) - nS (atoms (c.take i)) = c[i].1.toNat by omega]
      have r1 : List.length ((t.drop (Int.toNat (src (c.take i)))).take (Int.toNat (src (c.take i) + c[i].1) - Int.toNat (src (c.take i)))) + List.length c[i].2.2 ≤ 9223372036854775807 := by
        rw [List.length_take, List.length_drop]; omega
      have r2 : List.length (ap (atoms (c.take i)) (t.take (nS (atoms (c.take i))))) + List.length ((((t : List UInt8).drop (Int.toNat (src (c.take i)))).take (Int.toNat (src (c.take i) + c[i].1) - Int.toNat (src (c.take i))) : List UInt8) ++ c[i].2.2) ≤ 9223372036854775807 := by
        rw [List.length_append, List.length_take, List.length_drop, al]; omega
      unfold i_apply_L1
      simp only [hi, show (0 : Int) ≤ ((i : Nat) : Int) from by omega, decide_true, if_true, Int.toNat_natCast, List.getElem?_eq_getElem hlt, Option.bind_some, w1, w2, w3, n1, g1, g2, Int.le_refl, r1, r2, idx_succ hlen hlt, hout, src_take hlt]) (by
      have e : nS (atoms c) = t.length := by have := src_nS hs; omega
      simp only [List.take_length]
      rw [e, List.take_length]
      simp [i_apply_L1, apply])
    simpa [atoms, ap, src, nS] using this
  rw [this]; rfl
def applyOf (t : List UInt8) (c : List Prt) : List UInt8 × Bool := if good c = true ∧ src c = ((t.length : Nat) : Int) then (apply t c, true) else ([], false)
theorem i_ApplyChange_eq {B : Nat} {c : List Prt} (h : Sm B c) (hB : B ≤ 1099511627776) (t : List UInt8) : i_ApplyChange t c = some (applyOf t c) := by
  unfold i_ApplyChange applyOf
  rw [i_fits_eq h hB, Option.bind_some]
  cases hg : good c with
  | false => simp
  | true =>
    by_cases hs : src c = ((t.length : Nat) : Int)
    · simp [hs, i_apply_eq hg hs.symm]
    · simp [hs]

/-! ### a text of some length -/
theorem fill_ok {n : Int} (h0 : 0 ≤ n) (h : n ≤ 1000000) : Ok (l_fill n) fun t => ((t.length : Nat) : Int) = n := by
  unfold l_fill
  refine Ok.yes (by simpa using h0) (Ok.yes (by simp) (Ok.yes (by simp [roomFor]; omega) ?_))
  refine Ok.bind (Q := fun v => List.length v = n.toNat) ?_ (fun v hv => Ok.mk ?_)
  · refine Ok.loop (fun y => List.length y.1 = n.toNat ∧ y.2.1 = n ∧ 0 ≤ y.2.2 ∧ y.2.2 ≤ n) (fun y => (n - y.2.2).toNat) ⟨by simp, by simp; omega, by simp, by simpa using h0⟩ ?_
    rintro ⟨l, m, i⟩ ⟨h1, h2, h3, h4⟩
    dsimp only at h1 h2 h3 h4
    subst h2
    unfold l_fill_L1
    dsimp only
    refine Ok.ite (fun hc => ?_) fun _ => Ok.mk h1
    have hc' : i < m := by simpa using hc
    have hl : i.toNat < l.length := by omega
    have e : IntKind.wrap .i64 (i + 1) = i + 1 := w64 (by omega) (by omega)
    refine Ok.yes (by simp) (Ok.yes (by simpa using h3) (Ok.yes (by simp; omega) (Ok.bind_eq (r := l[i.toNat]) (by rw [Nat.zero_add]; exact List.getElem?_eq_getElem hl) (Ok.bind_eq (r := l[i.toNat]) (by rw [Nat.zero_add]; exact List.getElem?_eq_getElem hl) (Ok.mk ?_)))))
    rw [e]
    exact ⟨⟨by simpa using h1, rfl, by dsimp only; omega, by dsimp only; omega⟩, by dsimp only; omega⟩
  · simp [textOf, hv]; omega
end Go.V.G

/-
  P14: changes composed, gap by gap.
-/
set_option linter.unusedVariables false
set_option linter.unusedSimpArgs false
set_option maxRecDepth 100000
namespace Go.V.G
open Go.V

/-! ### gaps closed to parts -/
def closeP : List Bool → List (List UInt8) → List Prt
  | [], p :: _ => [(0, 0, p)]
  | s :: S, p :: P => (0, 0, p) :: (if s = true then (1, 0, []) else (0, 1, [])) :: closeP S P
  | _, [] => []
theorem closeP_fine : ∀ (S : List Bool) (P : List (List UInt8)), ∀ r ∈ closeP S P, Fine r
  | [], [], r, h => by cases h
  | [], p :: _, r, h => by rw [List.mem_singleton.1 h]; exact Fine.put _
  | _ :: _, [], r, h => by cases h
  | s :: S, p :: P, r, h => by
    rcases List.mem_cons.1 h with rfl | h
    · exact Fine.put _
    rcases List.mem_cons.1 h with rfl | h
    · cases s
      · exact Fine.drop (by omega)
      · exact Fine.keep (by omega)
    · exact closeP_fine S P r h
theorem closeP_head (b : UInt8) {S : List Bool} {p : List UInt8} {P : List (List UInt8)} : atoms (closeP S ((b :: p) :: P)) = .ins b :: atoms (closeP S (p :: P)) := by
  cases S with
  | nil => simp [closeP, atoms, pa_put]
  | cons s S => simp [closeP, atoms, pa_put]
theorem closeP_atoms : ∀ l : List Atom, atoms (closeP (stays l) (puts l)) = l
  | [] => by simp [closeP, stays, puts, atoms, pa_zero]
  | .ins b :: l => by
    obtain ⟨p, ps, e, _⟩ := puts_cons l
    have ih := closeP_atoms l
    show atoms (closeP (stays l) (consHead b (puts l))) = _
    rw [e] at ih ⊢
    show atoms (closeP (stays l) ((b :: p) :: ps)) = _
    rw [closeP_head, ih]
  | .keep :: l => by
    have ih := closeP_atoms l
    show pa (0, 0, []) ++ (pa (1, 0, []) ++ atoms (closeP (stays l) (puts l))) = _
    rw [ih, pa_zero, pa_keep (by omega)]; rfl
  | .drop :: l => by
    have ih := closeP_atoms l
    show pa (0, 0, []) ++ (pa (0, 1, []) ++ atoms (closeP (stays l) (puts l))) = _
    rw [ih, pa_zero, pa_drop (by omega)]; rfl

/-! ### composed -/
/-- the bytes that one gap's text leaves, and what is put behind each -/
def inn : List Bool → List (List UInt8) → List UInt8 → List UInt8
  | sc :: Sc, _ :: q :: Pc, b :: s => (if sc = true then [b] else []) ++ q ++ inn Sc (q :: Pc) s
  | _, _, _ => []
def cmpG : List UInt8 → List Bool → List (List UInt8) → List Bool → List (List UInt8) → List Bool × List (List UInt8)
  | be, sb :: Sb, p :: Pb, Sc, Pc =>
    if sb = true then
      let r := cmpG ((Pc.drop p.length).getD 1 []) Sb Pb ((Sc.drop p.length).drop 1) ((Pc.drop p.length).drop 1)
      ((Sc.drop p.length).getD 0 false :: r.1, (be ++ inn Sc Pc p) :: r.2)
    else
      let r := cmpG [] Sb Pb (Sc.drop p.length) (Pc.drop p.length)
      (false :: r.1, (be ++ inn Sc Pc p) :: r.2)
  | be, _, p :: _, Sc, Pc => ([], [be ++ inn Sc Pc p])
  | _, _, [], _, _ => ([], [])

/-- without what is put ahead of all -/
def strip : List Atom → List Atom
  | .ins _ :: l => strip l
  | l => l
theorem strip_stays : ∀ l, stays (strip l) = stays l
  | [] => rfl
  | .ins _ :: l => strip_stays l
  | .keep :: _ => rfl
  | .drop :: _ => rfl
theorem strip_nS (l : List Atom) : nS (strip l) = nS l := by rw [nS_stays, nS_stays, strip_stays]
theorem strip_puts : ∀ l, puts (strip l) = [] :: (puts l).tail
  | [] => rfl
  | .ins b :: l => by
    obtain ⟨p, ps, e, _⟩ := puts_cons l
    show puts (strip l) = [] :: (consHead b (puts l)).tail
    rw [strip_puts l, e]; rfl
  | .keep :: _ => rfl
  | .drop :: _ => rfl
theorem comp_strip (x : List Atom) : ∀ y, comp x y = ((puts y).headD []).map Atom.ins ++ comp x (strip y)
  | [] => rfl
  | .ins b :: y => by
    obtain ⟨p, ps, e, _⟩ := puts_cons y
    have ih := comp_strip x y
    rw [comp]
    show .ins b :: comp x y = ((consHead b (puts y)).headD []).map Atom.ins ++ comp x (strip y)
    rw [ih, e]; rfl
  | .keep :: _ => rfl
  | .drop :: _ => rfl
theorem puts_head_ins (q : List UInt8) (l : List Atom) : puts (q.map Atom.ins ++ l) = (q ++ (puts l).headD []) :: (puts l).tail := by
  obtain ⟨p, ps, e, _⟩ := puts_cons l
  induction q with
  | nil => rw [List.map_nil, List.nil_append, e]; rfl
  | cons b q ih =>
    show consHead b (puts (q.map Atom.ins ++ l)) = _
    rw [ih]; rfl
theorem stays_head_ins (q : List UInt8) (l : List Atom) : stays (q.map Atom.ins ++ l) = stays l := by rw [stays_append, stays_ins]; rfl

theorem inn_nil : ∀ (Sc : List Bool) (Pc : List (List UInt8)), inn Sc Pc [] = []
  | [], _ => by simp [inn]
  | _ :: _, [] => by simp [inn]
  | _ :: _, [_] => by simp [inn]
  | _ :: _, _ :: _ :: _ => by simp [inn]
theorem inn_cons {sc : Bool} {Sc : List Bool} {r q : List UInt8} {Pc : List (List UInt8)} {b : UInt8} {s : List UInt8} : inn (sc :: Sc) (r :: q :: Pc) (b :: s) = (if sc = true then [b] else []) ++ q ++ inn Sc (q :: Pc) s := by rw [inn]
/-- one byte of a gap's text -/
theorem cmpG_ins (be : List UInt8) (b : UInt8) {Sb : List Bool} {p : List UInt8} {Pb : List (List UInt8)} {sc : Bool} {Sc : List Bool} {r q : List UInt8} {Pc : List (List UInt8)} :
    cmpG be Sb ((b :: p) :: Pb) (sc :: Sc) (r :: q :: Pc) = cmpG (be ++ (if sc = true then [b] else []) ++ q) Sb (p :: Pb) Sc (q :: Pc) := by
  cases Sb with
  | nil =>
    simp only [cmpG, inn_cons, List.append_assoc]
  | cons sb Sb =>
    simp only [cmpG, inn_cons, List.append_assoc, List.length_cons, List.drop_succ_cons]

/-- a text laid ahead of the first gap -/
def front (be : List UInt8) (l : List Atom) : List Bool × List (List UInt8) := (stays l, (be ++ (puts l).headD []) :: (puts l).tail)
theorem front_ins (be q : List UInt8) (l : List Atom) : front be (q.map Atom.ins ++ l) = front (be ++ q) l := by
  unfold front
  rw [stays_head_ins, puts_head_ins]
  simp
theorem cmpG_eq : ∀ (x : List Atom) (be : List UInt8) (y : List Atom), nT x = nS y → cmpG be (stays x) (puts x) (stays y) (puts y) = front be (comp x (strip y))
  | [], be, y, h => by
    have : strip y = [] := by
      have hn : nS (strip y) = 0 := by rw [strip_nS]; exact h.symm
      match hs : strip y with
      | [] => rfl
      | .ins b :: l =>
        exfalso
        have := strip_puts y
        rw [hs] at this
        obtain ⟨p, ps, e, _⟩ := puts_cons l
        simp only [puts, e, consHead] at this
        injection this with h1 _
        cases h1
      | .keep :: l => rw [hs] at hn; simp [nS] at hn
      | .drop :: l => rw [hs] at hn; simp [nS] at hn
    rw [this]
    simp [comp, front, stays, puts, cmpG, inn]
  | .ins b :: x, be, y, h => by
    obtain ⟨p, ps, e, _⟩ := puts_cons x
    have hs := strip_stays y
    have hp := strip_puts y
    have hn : nS (strip y) = nT x + 1 := by rw [strip_nS]; exact h.symm
    have hpl : puts y = (puts y).headD [] :: (puts y).tail := by obtain ⟨a, as, e2, _⟩ := puts_cons y; rw [e2]; rfl
    match hy : strip y, hn with
    | .ins c :: l, _ =>
      exfalso
      rw [hy] at hp
      obtain ⟨p', ps', e', _⟩ := puts_cons l
      simp only [puts, e', consHead] at hp
      injection hp with h1 _
      cases h1
    | [], hn => simp [nS] at hn
    | .keep :: l, hn =>
      rw [hy] at hs hp
      simp only [stays, puts] at hs hp
      injection hp with _ hp
      obtain ⟨q, qs, e3, _⟩ := puts_cons l
      have ih := cmpG_eq x (be ++ [b] ++ q) l (by simpa [nS] using hn.symm)
      rw [comp]
      show cmpG be (stays x) (consHead b (puts x)) (stays y) (puts y) = _
      rw [← hs, hpl, ← hp, e, e3]
      show cmpG be (stays x) ((b :: p) :: ps) (true :: stays l) (_ :: q :: qs) = _
      rw [cmpG_ins, if_pos rfl, ← e3, ← e, ih]
      show _ = front be (.ins b :: comp x l)
      rw [comp_strip x l, e3]
      rw [show (Atom.ins b :: (List.map Atom.ins ((q :: qs).headD []) ++ comp x (strip l))) = (b :: q).map Atom.ins ++ comp x (strip l) from rfl, front_ins]
      simp
    | .drop :: l, hn =>
      rw [hy] at hs hp
      simp only [stays, puts] at hs hp
      injection hp with _ hp
      obtain ⟨q, qs, e3, _⟩ := puts_cons l
      have ih := cmpG_eq x (be ++ [] ++ q) l (by simpa [nS] using hn.symm)
      rw [comp]
      show cmpG be (stays x) (consHead b (puts x)) (stays y) (puts y) = _
      rw [← hs, hpl, ← hp, e, e3]
      show cmpG be (stays x) ((b :: p) :: ps) (false :: stays l) (_ :: q :: qs) = _
      rw [cmpG_ins, if_neg (by simp), ← e3, ← e, ih]
      rw [comp_strip x l, e3, show ((q :: qs).headD []) = q from rfl, front_ins]
      simp
  | .keep :: x, be, y, h => by
    have hs := strip_stays y
    have hp := strip_puts y
    have hn : nS (strip y) = nT x + 1 := by rw [strip_nS]; exact h.symm
    have hpl : puts y = (puts y).headD [] :: (puts y).tail := by obtain ⟨a, as, e2, _⟩ := puts_cons y; rw [e2]; rfl
    match hy : strip y, hn with
    | .ins c :: l, _ =>
      exfalso
      rw [hy] at hp
      obtain ⟨p', ps', e', _⟩ := puts_cons l
      simp only [puts, e', consHead] at hp
      injection hp with h1 _
      cases h1
    | [], hn => simp [nS] at hn
    | .keep :: l, hn =>
      rw [hy] at hs hp
      simp only [stays, puts] at hs hp
      injection hp with _ hp
      obtain ⟨q, qs, e3, _⟩ := puts_cons l
      have ih := cmpG_eq x q l (by simpa [nS] using hn.symm)
      rw [comp]
      show cmpG be (true :: stays x) ([] :: puts x) (stays y) (puts y) = _
      rw [← hs, hpl, ← hp, e3]
      simp only [cmpG, if_true, List.length_nil, List.drop_zero, List.getD_cons_zero, List.getD_cons_succ, List.drop_succ_cons, inn, List.append_nil]
      rw [← e3, ih]
      unfold front
      simp only [stays, puts, List.headD_cons, List.tail_cons, List.append_nil]
      rw [comp_strip x l, e3, stays_head_ins, puts_head_ins]
      simp
    | .drop :: l, hn =>
      rw [hy] at hs hp
      simp only [stays, puts] at hs hp
      injection hp with _ hp
      obtain ⟨q, qs, e3, _⟩ := puts_cons l
      have ih := cmpG_eq x q l (by simpa [nS] using hn.symm)
      rw [comp]
      show cmpG be (true :: stays x) ([] :: puts x) (stays y) (puts y) = _
      rw [← hs, hpl, ← hp, e3]
      simp only [cmpG, if_true, List.length_nil, List.drop_zero, List.getD_cons_zero, List.getD_cons_succ, List.drop_succ_cons, inn, List.append_nil]
      rw [← e3, ih]
      unfold front
      simp only [stays, puts, List.headD_cons, List.tail_cons, List.append_nil]
      rw [comp_strip x l, e3, stays_head_ins, puts_head_ins]
      simp
  | .drop :: x, be, y, h => by
    have ih := cmpG_eq x [] y h
    have hc : comp (.drop :: x) (strip y) = .drop :: comp x (strip y) := by
      match hy : strip y with
      | .ins c :: l =>
        exfalso
        have hp := strip_puts y
        rw [hy] at hp
        obtain ⟨p', ps', e', _⟩ := puts_cons l
        simp only [puts, e', consHead] at hp
        injection hp with h1 _
        cases h1
      | [] => rw [comp]
      | .keep :: l => rw [comp]
      | .drop :: l => rw [comp]
    rw [hc]
    show cmpG be (false :: stays x) ([] :: puts x) (stays y) (puts y) = _
    simp only [cmpG, Bool.false_eq_true, if_false, List.length_nil, List.drop_zero, inn_nil, List.append_nil]
    rw [ih]
    unfold front
    simp only [stays, puts, List.headD_cons, List.tail_cons, List.append_nil, List.nil_append]
    obtain ⟨a, as, e2, _⟩ := puts_cons (comp x (strip y))
    rw [e2]; rfl
theorem cmpG_comp (x y : List Atom) (h : nT x = nS y) : cmpG ((puts y).headD []) (stays x) (puts x) (stays y) (puts y) = (stays (comp x y), puts (comp x y)) := by
  rw [cmpG_eq x _ y h, comp_strip x y, stays_head_ins, puts_head_ins]; rfl
end Go.V.G

/-
  P15: what the program's 'compose' returns.
-/
set_option linter.unusedVariables false
set_option linter.unusedSimpArgs false
set_option maxRecDepth 100000
namespace Go.V.G
open Go.V

def tot (P : List (List UInt8)) : Nat := (P.map List.length).sum
theorem tot_cons (p : List UInt8) (P : List (List UInt8)) : tot (p :: P) = p.length + tot P := by simp [tot]
theorem tot_drop (P : List (List UInt8)) : ∀ n, tot (P.drop n) ≤ tot P := by
  induction P with
  | nil => intro n; simp [tot]
  | cons p P ih =>
    intro n
    cases n with
    | zero => simp
    | succ n => rw [List.drop_succ_cons, tot_cons]; have := ih n; omega
theorem tot_mem : ∀ {P : List (List UInt8)} {p : List UInt8}, p ∈ P → p.length ≤ tot P
  | q :: P, p, h => by
    rw [tot_cons]
    rcases List.mem_cons.1 h with rfl | h
    · omega
    · have := tot_mem h; omega
def nTrue : List Bool → Nat
  | [] => 0
  | b :: l => (if b = true then 1 else 0) + nTrue l
/-- so many bytes of the target are still to come -/
def rem (S : List Bool) (P : List (List UInt8)) : Nat := tot P + nTrue S
theorem tot_puts : ∀ l : List Atom, tot (puts l) = nIns l
  | [] => rfl
  | .ins b :: l => by
    obtain ⟨p, ps, e, _⟩ := puts_cons l
    have ih := tot_puts l
    show tot (consHead b (puts l)) = nIns l + 1
    rw [e] at ih ⊢
    simp only [consHead, tot_cons, List.length_cons] at ih ⊢; omega
  | .keep :: l => by show tot ([] :: puts l) = nIns l; rw [tot_cons, tot_puts l]; simp
  | .drop :: l => by show tot ([] :: puts l) = nIns l; rw [tot_cons, tot_puts l]; simp
theorem nTrue_stays : ∀ l : List Atom, nTrue (stays l) = nK l
  | [] => rfl
  | .ins _ :: l => nTrue_stays l
  | .keep :: l => by show 1 + nTrue (stays l) = nK l + 1; rw [nTrue_stays l]; omega
  | .drop :: l => by show 0 + nTrue (stays l) = nK l; rw [nTrue_stays l]; omega
theorem rem_nT (l : List Atom) : rem (stays l) (puts l) = nT l := by rw [rem, tot_puts, nTrue_stays, nT_eq]

theorem inn_len : ∀ (Sc : List Bool) (Pc : List (List UInt8)) (s : List UInt8), (inn Sc Pc s).length ≤ s.length + tot Pc.tail
  | [], _, s => by simp [inn]
  | _ :: _, [], s => by simp [inn]
  | _ :: _, [_], s => by simp [inn]
  | _ :: _, _ :: _ :: _, [] => by rw [inn_nil]; simp
  | sc :: Sc, r :: q :: Pc, b :: s => by
    have ih := inn_len Sc (q :: Pc) s
    rw [inn_cons]
    simp only [List.length_append, List.length_cons, List.tail_cons, tot_cons] at ih ⊢
    split <;> simp <;> omega
theorem inn_snoc : ∀ (s : List UInt8) (Sc : List Bool) (Pc : List (List UInt8)) (b : UInt8) (h1 : s.length < Sc.length) (h2 : Pc.length = Sc.length + 1),
    inn Sc Pc (s ++ [b]) = inn Sc Pc s ++ ((if Sc[s.length] = true then [b] else []) ++ Pc[s.length + 1]'(by omega))
  | [], sc :: Sc, r :: q :: Pc, b, h1, h2 => by simp [inn_cons, inn_nil]
  | [], sc :: Sc, [], b, h1, h2 => by simp at h2
  | [], sc :: Sc, [_], b, h1, h2 => by simp at h2
  | [], [], _, b, h1, h2 => by simp at h1
  | a :: s, [], _, b, h1, h2 => by simp at h1
  | a :: s, sc :: Sc, [], b, h1, h2 => by simp at h2
  | a :: s, sc :: Sc, [_], b, h1, h2 => by simp at h2
  | a :: s, sc :: Sc, r :: q :: Pc, b, h1, h2 => by
    have ih := inn_snoc s Sc (q :: Pc) b (by simpa using h1) (by simpa using h2)
    rw [List.cons_append, inn_cons, inn_cons, ih]
    simp [List.append_assoc]

/-- rows that fit, one behind the other -/
structure CR (Sb : List Bool) (Pb : List (List UInt8)) (Sc : List Bool) (Pc : List (List UInt8)) : Prop where
  x : Pb.length = Sb.length + 1
  y : Pc.length = Sc.length + 1
  r : rem Sb Pb = Sc.length
  n : Sb.length ≤ 1000
  m : Sc.length ≤ 1000
  py : tot Pc ≤ 1000
theorem rem_drop {S : List Bool} {P : List (List UInt8)} (h : P.length = S.length + 1) {g : Nat} (hg : g < P.length) : rem (S.drop g) (P.drop g) = P[g].length + (if h : g < S.length then (if S[g] = true then 1 else 0) else 0) + rem (S.drop (g + 1)) (P.drop (g + 1)) := by
  rw [List.drop_eq_getElem_cons hg]
  by_cases hs : g < S.length
  · rw [List.drop_eq_getElem_cons hs, dif_pos hs]
    simp only [rem, tot_cons, nTrue]; omega
  · rw [dif_neg hs, List.drop_eq_nil_of_le (show S.length ≤ g by omega), List.drop_eq_nil_of_le (show S.length ≤ g + 1 by omega)]
    simp only [rem, tot_cons, nTrue]; omega

section
variable {Sb : List Bool} {Pb : List (List UInt8)} {Sc : List Bool} {Pc : List (List UInt8)} (h : CR Sb Pb Sc Pc)
include h
theorem i_compose_inner {t : Nat} {g n g2 : Int} {s text : List UInt8} {oS : List Bool} {oP : List (List UInt8)} (hs : t + s.length ≤ Sc.length) (ht : text.length ≤ 1000) :
    loopG i_compose_L1 (((t : Nat) : Int), g, s, text, Pb, n, g2, ((List.length s : Nat) : Int), 0, Sb, Sc, Pc, oS, oP) =
      some (((t + s.length : Nat) : Int), g, text ++ inn (Sc.drop t) (Pc.drop t) s, Pb, n, g2, Sb, Sc, Pc, oS, oP) := by
  obtain ⟨hx, hy, hr, hn, hm, hpy⟩ := h
  have := loop_run i_compose_L1 (fun i => (((t + i : Nat) : Int), g, s, text ++ inn (Sc.drop t) (Pc.drop t) (s.take i), Pb, n, g2, ((List.length s : Nat) : Int), ((i : Nat) : Int), Sb, Sc, Pc, oS, oP)) s.length
    (((t + s.length : Nat) : Int), g, text ++ inn (Sc.drop t) (Pc.drop t) s, Pb, n, g2, Sb, Sc, Pc, oS, oP) (by
      intro i hi
      have hti : t + i < Sc.length := by omega
      have htp : t + i + 1 < Pc.length := by omega
      have hl : (s.take i).length = i := by rw [List.length_take]; omega
      have sn := inn_snoc (s.take i) (Sc.drop t) (Pc.drop t) s[i] (by rw [hl, List.length_drop]; omega) (by rw [List.length_drop, List.length_drop]; omega)
      rw [← List.take_succ_eq_append_getElem hi] at sn
      simp only [hl, List.getElem_drop] at sn
      have il := inn_len (Sc.drop t) (Pc.drop t) (s.take i)
      have tl : tot (Pc.drop t).tail ≤ tot Pc := by rw [List.tail_drop]; exact tot_drop _ _
      have pq : (Pc[t + i + 1]).length ≤ tot Pc := tot_mem (List.getElem_mem htp)
      have e1 : IntKind.wrap .i64 (((i : Nat) : Int) + 1) = ((i + 1 : Nat) : Int) := idx_succ (n := s.length) (by omega) hi
      have e2 : IntKind.wrap .i64 (((t + i : Nat) : Int) + 1) = ((t + i + 1 : Nat) : Int) := idx_succ (n := Sc.length) (by omega) hti
      have g0 : (0 : Int) ≤ ((t + i : Nat) : Int) := by omega
      have g1 : ((t + i : Nat) : Int) < ((List.length Sc : Nat) : Int) := by omega
      have g2' : (0 : Int) ≤ ((i : Nat) : Int) := by omega
      have g3 : ((i : Nat) : Int) ≤ ((i + 1 : Nat) : Int) := by omega
      have g4 : ((i + 1 : Nat) : Int) ≤ ((List.length s : Nat) : Int) := by omega
      have g5 : ((i : Nat) : Int) < ((List.length s : Nat) : Int) := by omega
      have g6 : ((t + i + 1 : Nat) : Int) < ((List.length Pc : Nat) : Int) := by omega
      have g7 : (0 : Int) ≤ ((t + i + 1 : Nat) : Int) := by omega
      have cut : (s.drop i).take (i + 1 - i) = [s[i]] := by rw [show i + 1 - i = 1 by omega, List.drop_eq_getElem_cons hi]; rfl
      have b1 : List.length (text ++ inn (Sc.drop t) (Pc.drop t) (s.take i)) + List.length [s[i]] ≤ 9223372036854775807 := by rw [List.length_append]; simp only [List.length_singleton]; omega
      have b2 : ∀ z : List UInt8, z.length ≤ 1 → List.length (text ++ inn (Sc.drop t) (Pc.drop t) (s.take i) ++ z) + List.length (Pc[t + i + 1]) ≤ 9223372036854775807 := fun z hz => by rw [List.length_append, List.length_append]; omega
      unfold i_compose_L1
      simp only [g0, g1, g2', g3, g4, g5, e1, e2, decide_true, if_true, Int.toNat_natCast, Nat.zero_add, List.getElem?_eq_getElem hti, Option.bind_some, Int.le_refl, cut, b1]
      cases hb : Sc[t + i] with
      | true =>
        rw [hb, if_pos rfl] at sn
        have b3 := b2 [s[i]] (by simp)
        simp only [if_true, Option.bind_some, e1, e2, g6, g7, decide_true, Int.toNat_natCast, List.getElem?_eq_getElem htp, b3]
        simp only [sn, List.append_assoc, Nat.add_assoc]
      | false =>
        rw [hb, if_neg (by simp)] at sn
        have b3 := b2 [] (by simp)
        rw [List.append_nil] at b3
        simp only [Bool.false_eq_true, if_false, Option.bind_some, e1, e2, g6, g7, decide_true, if_true, Int.toNat_natCast, List.getElem?_eq_getElem htp, b3]
        simp only [sn, List.append_assoc, Nat.add_assoc, List.nil_append]) (by
      simp only [List.take_length]
      simp [i_compose_L1])
  simpa [inn_nil] using this

/-- one gap -/
theorem cmpG_at {g t : Nat} (hg : g < Pb.length) (be : List UInt8) (ht : t + rem (Sb.drop g) (Pb.drop g) = Sc.length) :
    t + Pb[g].length ≤ Sc.length ∧ (g = Sb.length → cmpG be (Sb.drop g) (Pb.drop g) (Sc.drop t) (Pc.drop t) = ([], [be ++ inn (Sc.drop t) (Pc.drop t) Pb[g]])) ∧
    ∀ h1 : g < Sb.length, (Sb[g] = false → t + Pb[g].length + rem (Sb.drop (g + 1)) (Pb.drop (g + 1)) = Sc.length ∧ cmpG be (Sb.drop g) (Pb.drop g) (Sc.drop t) (Pc.drop t) =
        (false :: (cmpG [] (Sb.drop (g + 1)) (Pb.drop (g + 1)) (Sc.drop (t + Pb[g].length)) (Pc.drop (t + Pb[g].length))).1, (be ++ inn (Sc.drop t) (Pc.drop t) Pb[g]) :: (cmpG [] (Sb.drop (g + 1)) (Pb.drop (g + 1)) (Sc.drop (t + Pb[g].length)) (Pc.drop (t + Pb[g].length))).2)) ∧
      (Sb[g] = true → t + Pb[g].length + 1 + rem (Sb.drop (g + 1)) (Pb.drop (g + 1)) = Sc.length ∧ ∃ (h2 : t + Pb[g].length < Sc.length) (h3 : t + Pb[g].length + 1 < Pc.length), cmpG be (Sb.drop g) (Pb.drop g) (Sc.drop t) (Pc.drop t) =
        (Sc[t + Pb[g].length] :: (cmpG Pc[t + Pb[g].length + 1] (Sb.drop (g + 1)) (Pb.drop (g + 1)) (Sc.drop (t + Pb[g].length + 1)) (Pc.drop (t + Pb[g].length + 1))).1,
          (be ++ inn (Sc.drop t) (Pc.drop t) Pb[g]) :: (cmpG Pc[t + Pb[g].length + 1] (Sb.drop (g + 1)) (Pb.drop (g + 1)) (Sc.drop (t + Pb[g].length + 1)) (Pc.drop (t + Pb[g].length + 1))).2)) := by
  obtain ⟨hx, hy, hr, hn, hm, hpy⟩ := h
  have rd := rem_drop hx hg
  rw [rd] at ht
  refine ⟨by omega, fun he => ?_, fun h1 => ⟨fun hb => ⟨?_, ?_⟩, fun hb => ⟨?_, ?_⟩⟩⟩
  · subst he
    rw [List.drop_length, List.drop_eq_getElem_cons hg]
    simp [cmpG]
  · simp only [h1, hb, Bool.false_eq_true, if_false, dif_pos] at ht; omega
  · rw [List.drop_eq_getElem_cons hg, List.drop_eq_getElem_cons h1, hb]
    simp only [cmpG, Bool.false_eq_true, if_false, List.drop_drop]
  · simp only [h1, hb, if_true, dif_pos] at ht; omega
  · simp only [h1, hb, if_true, dif_pos] at ht
    have h2 : t + Pb[g].length < Sc.length := by omega
    have h3 : t + Pb[g].length + 1 < Pc.length := by omega
    refine ⟨h2, h3, ?_⟩
    rw [List.drop_eq_getElem_cons hg, List.drop_eq_getElem_cons h1, hb]
    simp only [cmpG, if_true, List.drop_drop]
    have e1 : (Sc.drop (t + Pb[g].length)).getD 0 false = Sc[t + Pb[g].length] := by rw [List.drop_eq_getElem_cons h2]; rfl
    have e2 : (Pc.drop (t + Pb[g].length)).getD 1 [] = Pc[t + Pb[g].length + 1] := by
      rw [List.drop_eq_getElem_cons (by omega), List.drop_eq_getElem_cons h3]; rfl
    rw [e1, e2]

theorem i_compose_loop (be : List UInt8) (hbe : be.length ≤ 1000) : loopG i_compose_L2 (0, be, Pb, ((List.length Pb : Nat) : Int), 0, Sb, Sc, Pc, [], []) = some (cmpG be Sb Pb Sc Pc) := by
  refine Ok.eq (Ok.loop (fun y => y.2.2.1 = Pb ∧ y.2.2.2.1 = ((List.length Pb : Nat) : Int) ∧ y.2.2.2.2.2.1 = Sb ∧ y.2.2.2.2.2.2.1 = Sc ∧ y.2.2.2.2.2.2.2.1 = Pc ∧ ∃ t g : Nat, y.1 = ((t : Nat) : Int) ∧ y.2.2.2.2.1 = ((g : Nat) : Int) ∧ g < Pb.length ∧
      y.2.1.length ≤ 1000 ∧ t + rem (Sb.drop g) (Pb.drop g) = Sc.length ∧ y.2.2.2.2.2.2.2.2.1.length = g ∧ y.2.2.2.2.2.2.2.2.2.length = g ∧
      (y.2.2.2.2.2.2.2.2.1 ++ (cmpG y.2.1 (Sb.drop g) (Pb.drop g) (Sc.drop t) (Pc.drop t)).1, y.2.2.2.2.2.2.2.2.2 ++ (cmpG y.2.1 (Sb.drop g) (Pb.drop g) (Sc.drop t) (Pc.drop t)).2) = cmpG be Sb Pb Sc Pc) (fun y => (((List.length Pb : Nat) : Int) - y.2.2.2.2.1).toNat)
    ⟨rfl, rfl, rfl, rfl, rfl, 0, 0, rfl, rfl, by rw [h.x]; omega, hbe, by have := h.r; simpa using this, rfl, rfl, by simp⟩ ?_)
  rintro ⟨t', be', pb, n, g', sb, sc, pc, oS, oP⟩ ⟨e1, e2, e3, e4, e5, t, g, e6, e7, hg, hbe', hrem, hoS, hoP, hf⟩
  dsimp only at e1 e2 e3 e4 e5 e6 e7 hbe' hoS hoP hf
  subst e1 e2 e3 e4 e5 e6 e7
  have hCR := h
  obtain ⟨hx, hy, hr, hn, hm, hpy⟩ := h
  obtain ⟨c1, c2, c3⟩ := cmpG_at hCR hg be' hrem
  unfold i_compose_L2
  dsimp only
  refine Ok.yes (by simpa using hg) ?_
  have r16 : ∀ z : List UInt8, roomFor (List.length oP + List.length [z]) 16 = true := fun z => room1 (by omega) (by omega)
  have r1 : ∀ z : Bool, roomFor (List.length oS + List.length [z]) 1 = true := fun z => room1 (by omega) (by omega)
  have hin := i_compose_inner hCR (g := ((g : Nat) : Int)) (n := ((List.length pb : Nat) : Int)) (g2 := ((g : Nat) : Int)) (text := be') (oS := oS) (oP := oP) c1 hbe'
  refine Ok.bind (Q := fun v => match v with
      | .inl y => ∃ t2 be2 oS2 oP2, y = (((t2 : Nat) : Int), be2, pb, ((List.length pb : Nat) : Int), ((g : Nat) : Int), sb, sc, pc, oS2, oP2) ∧ g + 1 < pb.length ∧ List.length be2 ≤ 1000 ∧ t2 + rem (sb.drop (g + 1)) (pb.drop (g + 1)) = sc.length ∧ List.length oS2 = g + 1 ∧ List.length oP2 = g + 1 ∧
          (oS2 ++ (cmpG be2 (sb.drop (g + 1)) (pb.drop (g + 1)) (sc.drop t2) (pc.drop t2)).1, oP2 ++ (cmpG be2 (sb.drop (g + 1)) (pb.drop (g + 1)) (sc.drop t2) (pc.drop t2)).2) = cmpG be sb pb sc pc
      | .inr z => z = cmpG be sb pb sc pc) ?_ ?_
  · refine Ok.yes (by simp) (Ok.yes (by simpa using hg) (Ok.bind_eq (r := pb[g]) (by simp [List.getElem?_eq_getElem hg]) (Ok.bind_eq hin (Ok.yes (r16 _) ?_))))
    dsimp only
    refine Ok.ite (fun hq => ?_) fun hq => ?_
    · have he : g = sb.length := by
        have : ((g : Nat) : Int) = ((List.length sb : Nat) : Int) := by simpa using hq
        omega
      rw [c2 he] at hf
      exact Ok.mk (by rw [← hf, List.append_nil])
    · have hks : g < sb.length := by
        have : ¬ ((g : Nat) : Int) = ((List.length sb : Nat) : Int) := by simpa using hq
        omega
      refine Ok.yes (by simp) (Ok.yes (by simpa using hks) (Ok.bind_eq (r := sb[g]) (by simp [List.getElem?_eq_getElem hks]) ?_))
      cases hb : sb[g] with
      | false =>
        obtain ⟨k1, k2⟩ := (c3 hks).1 hb
        rw [k2] at hf
        refine Ok.yes (by simp) (Ok.yes (r1 _) (Ok.mk ⟨_, _, _, _, rfl, by omega, by simp, k1, by simp [hoS], by simp [hoP], ?_⟩))
        rw [← hf]; simp
      | true =>
        obtain ⟨k1, k2, k3, k4⟩ := (c3 hks).2 hb
        rw [k4] at hf
        have e9 : IntKind.wrap .i64 (((t + pb[g].length : Nat) : Int) + 1) = ((t + pb[g].length + 1 : Nat) : Int) := idx_succ (n := sc.length) (by omega) k2
        have hq2 : (pc[t + pb[g].length + 1]).length ≤ tot pc := tot_mem (List.getElem_mem k3)
        rw [e9]
        refine Ok.no (by simp) (Ok.yes (decide_eq_true (by omega)) (Ok.yes (decide_eq_true (by omega)) (Ok.bind_eq (r := sc[t + pb[g].length]) (by rw [Nat.zero_add, Int.toNat_natCast]; exact List.getElem?_eq_getElem k2) (Ok.yes (r1 _)
          (Ok.yes (decide_eq_true (by omega)) (Ok.yes (decide_eq_true (by omega)) (Ok.bind_eq (r := pc[t + pb[g].length + 1]) (by rw [Nat.zero_add, Int.toNat_natCast]; exact List.getElem?_eq_getElem k3) (Ok.mk ⟨_, _, _, _, rfl, by omega, by omega, k1, by simp [hoS], by simp [hoP], ?_⟩))))))))
        rw [← hf]; simp
  rintro (y | z) hv
  · obtain ⟨t2, be2, oS2, oP2, rfl, k1, k2, k3, k4, k5, k6⟩ := hv
    dsimp only
    have e9 : IntKind.wrap .i64 (((g : Nat) : Int) + 1) = ((g + 1 : Nat) : Int) := idx_succ (n := pb.length) (by omega) hg
    rw [e9]
    exact Ok.mk ⟨⟨rfl, rfl, rfl, rfl, rfl, t2, g + 1, rfl, rfl, k1, k2, k3, k4, k5, k6⟩, by dsimp only; omega⟩
  · exact Ok.mk hv
end
end Go.V.G
