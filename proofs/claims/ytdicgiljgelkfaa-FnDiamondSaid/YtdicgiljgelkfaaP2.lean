/-
  P2: drawn changes: lists of parts, none of them great.
-/
import Derived.Test.YtdicgiljgelkfaaP1
set_option linter.unusedVariables false
set_option linter.unusedSimpArgs false
set_option maxRecDepth 100000
namespace Go.V.G
open Go.V

theorem fdiv_I64 {n : Int} (h : I64 n) (k : Nat) : I64 (Int.fdiv n (2 ^ k)) := by
  have h2 : (0 : Int) < 2 ^ k := Int.pow_pos (by decide)
  rw [Int.fdiv_eq_ediv_of_nonneg _ (by omega)]
  obtain ⟨a, b⟩ := h
  constructor
  · rw [Int.le_ediv_iff_mul_le h2]
    have : -9223372036854775808 * (2 ^ k : Int) ≤ -9223372036854775808 * 1 := Int.mul_le_mul_of_nonpos_left (by omega) (by omega)
    omega
  · have h3 : n / 2 ^ k ≤ 9223372036854775807 / 2 ^ k := Int.ediv_le_ediv h2 b
    have h4 : (9223372036854775807 : Int) / 2 ^ k ≤ 9223372036854775807 := Int.ediv_le_self _ (by omega)
    omega

theorem sized_ok {code : List Int} {a s : Int} (h : At code 16 a) : Ok (s_l1Cur_sized_f code a s) fun r => I64 r.1 ∧ To code a 16 r.2.1 r.2.2.1 := by
  unfold s_l1Cur_sized_f
  refine (pick_ok (h.less (by omega))).bind ?_
  rintro ⟨x1, c1, a1, s1⟩ ⟨hx1, t1⟩
  refine (pick_ok (t1.at (j := 2) (h.less (by omega)))).bind ?_
  rintro ⟨x2, c2, a2, s2⟩ ⟨hx2, t2⟩
  have t2 := t1.trans t2
  have i1 : I64 x1 := by simp only at hx1; unfold I64; omega
  refine Ok.bind (Q := fun v => I64 v.1 ∧ To code a 14 v.2.1 v.2.2.1) ?_ ?_
  · refine Ok.ite (fun _ => ?_) fun _ => ?_
    · refine (pick_ok (t2.at (j := 2) (h.less (by omega)))).bind ?_
      rintro ⟨x, c, a', s'⟩ ⟨hx, t⟩
      exact Ok.mk ⟨by simp only at hx ⊢; unfold I64; omega, (t2.trans t).more (by omega)⟩
    · refine Ok.bind (Q := fun v => I64 v.1 ∧ To code a 14 v.2.1 v.2.2.1) ?_ (fun v hv => Ok.mk hv)
      refine Ok.ite (fun _ => ?_) fun _ => ?_
      · refine (wide_ok (t2.at (j := 8) (h.less (by omega)))).bind ?_
        rintro ⟨x, c, a', s'⟩ ⟨hx, t⟩
        have t := t2.trans t
        refine (pick_ok (t.at (j := 2) (h.less (by omega)))).bind ?_
        rintro ⟨y, c, a'', s''⟩ ⟨hy, t'⟩
        simp only at hy
        have e : IntKind.wrap .u64 y = y := wu64 (by omega) (by omega)
        refine Ok.yes (by simp [e]; omega) (Ok.mk ⟨fdiv_I64 hx _, (t.trans t').more (by omega)⟩)
      · refine Ok.bind (Q := fun v => I64 v.1 ∧ To code a 14 v.2.1 v.2.2.1) ?_ (fun v hv => Ok.mk hv)
        refine Ok.ite (fun _ => ?_) fun _ => ?_
        · refine (pick_ok (t2.at (j := 2) (h.less (by omega)))).bind ?_
          rintro ⟨y, c, a'', s''⟩ ⟨hy, t'⟩
          simp only at hy
          have e : IntKind.wrap .u64 y = y := wu64 (by omega) (by omega)
          refine Ok.yes (by simp [e]; omega) (Ok.mk ⟨I64.wrap _, (t2.trans t').more (by omega)⟩)
        · refine Ok.bind (Q := fun v => I64 v.1 ∧ To code a 14 v.2.1 v.2.2.1) ?_ (fun v hv => Ok.mk hv)
          refine Ok.ite (fun _ => ?_) fun _ => Ok.mk ⟨i1, t2.more (by omega)⟩
          refine (pick_ok (t2.at (j := 2) (h.less (by omega)))).bind ?_
          rintro ⟨y, c, a'', s''⟩ ⟨hy, t'⟩
          simp only at hy
          have e : IntKind.wrap .u64 y = y := wu64 (by omega) (by omega)
          refine Ok.yes (by simp [e]; omega) (Ok.mk ⟨I64.wrap _, (t2.trans t').more (by omega)⟩)
  · rintro ⟨x, c, a', s'⟩ ⟨hx, t⟩
    refine (one_ok (t.at (j := 2) h)).bind ?_
    rintro ⟨y, c, a'', s''⟩ t'
    refine Ok.bind (Q := fun v => I64 v.1 ∧ To code a 16 v.2.1 v.2.2.1) ?_ (fun v hv => Ok.mk hv)
    exact Ok.ite (fun _ => Ok.mk ⟨I64.wrap _, t.trans t'⟩) fun _ => Ok.mk ⟨hx, t.trans t'⟩

theorem part_ok {code : List Int} {a s : Int} (h : At code 18 a) : Ok (s_l1Cur_part_f code a s) fun r => (I64 r.1 ∧ I64 r.2.1 ∧ r.2.2.1.length ≤ 121) ∧ To code a 18 r.2.2.2.1 r.2.2.2.2.1 := by
  have z : I64 0 := by unfold I64; omega
  have o : I64 1 := by unfold I64; omega
  unfold s_l1Cur_part_f
  refine (pick_ok (h.less (by omega))).bind ?_
  rintro ⟨x1, c1, a1, s1⟩ ⟨hx1, t1⟩
  refine Ok.ite (fun _ => Ok.mk ⟨⟨z, z, by simp⟩, t1.more (by omega)⟩) fun _ => ?_
  refine Ok.ite (fun _ => ?_) fun _ => ?_
  · refine (sized_ok (t1.at (j := 16) (h.less (by omega)))).bind ?_
    rintro ⟨x, c, a', s'⟩ ⟨hx, t⟩
    exact Ok.mk ⟨⟨hx, z, by simp⟩, (t1.trans t).more (by omega)⟩
  refine Ok.ite (fun _ => ?_) fun _ => ?_
  · refine (sized_ok (t1.at (j := 16) (h.less (by omega)))).bind ?_
    rintro ⟨x, c, a', s'⟩ ⟨hx, t⟩
    exact Ok.mk ⟨⟨z, hx, by simp⟩, (t1.trans t).more (by omega)⟩
  refine Ok.ite (fun _ => Ok.mk ⟨⟨o, z, by simp⟩, t1.more (by omega)⟩) fun _ => ?_
  refine (pick_ok (t1.at (j := 2) (h.less (by omega)))).bind ?_
  rintro ⟨x, c, a', s'⟩ ⟨hx, t⟩
  simp only at hx
  have e : IntKind.wrap .i64 (120 + x) = 120 + x := w64 (by omega) (by omega)
  refine Ok.yes (by simp [e]; omega) (Ok.yes (by simp) (Ok.yes (by simp [e, roomFor]; omega) (Ok.mk ⟨⟨z, z, ?_⟩, (t1.trans t).more (by omega)⟩)))
  simp only [e, textOf, List.length_map, List.length_replicate]; omega

theorem size_ok {code : List Int} {a s : Int} (h : At code 4 a) : Ok (s_l1Cur_size_f code a s) fun r => (0 ≤ r.1 ∧ r.1 ≤ 120) ∧ To code a 4 r.2.1 r.2.2.1 := by
  unfold s_l1Cur_size_f
  refine (one_ok (h.less (by omega))).bind ?_
  rintro ⟨x1, c1, a1, s1⟩ t1
  refine Ok.ite (fun _ => ?_) fun _ => ?_
  · refine (pick_ok (t1.at (j := 2) (h.less (by omega)))).bind ?_
    rintro ⟨x, c, a', s'⟩ ⟨hx, t⟩
    simp only at hx
    have e : IntKind.wrap .i64 (120 - x) = 120 - x := w64 (by omega) (by omega)
    exact Ok.mk ⟨by simp only [e]; omega, t1.trans t⟩
  · refine (pick_ok (t1.at (j := 2) (h.less (by omega)))).bind ?_
    rintro ⟨x, c, a', s'⟩ ⟨hx, t⟩
    simp only at hx
    exact Ok.mk ⟨by simp only; omega, t1.trans t⟩

theorem room_ok {B : Nat} {l : List Prt} (h : Sm B l) (hB : B ≤ 1099511627776) (x : Prt) : roomFor (List.length l + List.length [x]) 32 = true := by
  have := h.len
  simp [roomFor]; omega
theorem Sm.snoc {B C : Nat} {l : List Prt} {p : Prt} (h : Sm B l) (hp : I64 p.1 ∧ I64 p.2.1) (hl : B + 1 ≤ C) (hc : B + p.2.2.length ≤ C) : Sm C (l ++ [p]) :=
  ⟨by have := h.len; simp; omega, by rw [psum_append]; simp only [psum]; have := h.put; omega, fun q hq => by
    rcases List.mem_append.1 hq with hq | hq
    · exact h.fit q hq
    · rw [List.mem_singleton.1 hq]; exact hp⟩

theorem changeOf_round {n : Int} {l : List Prt} {room : Int} {c : List Int} {a s : Int} {B : Nat} (h : At c 10 a) (hl : Sm B l) (hB : B ≤ 1099511627000) (hn : n ≤ 1048576) :
    Ok (s_l1Cur_changeOf_f_L1 (n, l, room, c, a, s)) fun r => match r with
      | .inl y => 0 < n ∧ 0 ≤ y.1 ∧ y.1 < n ∧ Sm (B + 6) y.2.1 ∧ To c a 10 y.2.2.2.1 y.2.2.2.2.1
      | .inr z => n ≤ 0 ∧ z.1 = l ∧ To c a 0 z.2.2.1 z.2.2.2.1 := by
  have z : I64 0 := by unfold I64; omega
  unfold s_l1Cur_changeOf_f_L1
  refine Ok.ite (fun hc => ?_) fun hc => Ok.mk ⟨by simpa using hc, rfl, To.refl _ _⟩
  have hpos : 0 < n := by simpa using hc
  refine (put_ok (h.less (by omega))).bind ?_
  rintro ⟨p, c1, a1, s1⟩ ⟨hp, t1⟩
  dsimp only at hp t1 ⊢
  refine Ok.bind (Q := fun v => v.1 = n ∧ v.2.1 = l ∧ v.2.2.2.1 = p ∧ To c a 4 v.2.2.2.2.2.1 v.2.2.2.2.2.2.1) ?_ ?_
  · refine (one_ok (t1.at (j := 2) (h.less (by omega)))).bind ?_
    rintro ⟨x, c2, a2, s2⟩ t2
    exact Ok.ite (fun _ => Ok.mk ⟨rfl, rfl, rfl, t1.trans t2⟩) fun _ => Ok.mk ⟨rfl, rfl, rfl, t1.trans t2⟩
  rintro ⟨n', l', room', p', fl, c2, a2, s2⟩ ⟨e1, e2, e3, t2⟩
  dsimp only at e1 e2 e3 t2 ⊢
  subst e1 e2 e3
  refine Ok.bind (Q := fun v => v.1 = n' ∧ Sm (B + 5) v.2.1 ∧ To c a 4 v.2.2.2.1 v.2.2.2.2.1) ?_ ?_
  · refine Ok.ite (fun _ => ?_) fun _ => Ok.mk ⟨rfl, hl.mono (by omega), t2⟩
    refine Ok.bind_eq (s_l1Add_eq hl (by omega) 0 0 p' (by omega)) (Ok.mk ⟨rfl, addp_sm hl ⟨z, z⟩ (by omega) (by dsimp only; omega), t2⟩)
  rintro ⟨n1, l1, room1, c3, a3, s3⟩ ⟨e1, hl1, t3⟩
  dsimp only at e1 hl1 t3 ⊢
  subst e1
  refine (pick_ok (t3.at (j := 2) (h.less (by omega)))).bind ?_
  rintro ⟨k0, c4, a4, s4⟩ ⟨hk0, t4⟩
  dsimp only at hk0 t4 ⊢
  have t4 := t3.trans t4
  refine (one_ok (t4.at (j := 2) (h.less (by omega)))).bind ?_
  rintro ⟨fl2, c5, a5, s5⟩ t5
  dsimp only at t5 ⊢
  have t5 := t4.trans t5
  refine Ok.bind (Q := fun v => v.1 = n1 ∧ v.2.1 = l1 ∧ (1 ≤ v.2.2.2.1 ∧ v.2.2.2.1 ≤ 1048576) ∧ To c a 8 v.2.2.2.2.1 v.2.2.2.2.2.1) ?_ ?_
  · refine Ok.ite (fun _ => Ok.mk ⟨rfl, rfl, by dsimp only; omega, t5⟩) fun _ => ?_
    have e : IntKind.wrap .i64 (1 + k0) = 1 + k0 := w64 (by omega) (by omega)
    exact Ok.mk ⟨rfl, rfl, by dsimp only; rw [e]; omega, t5⟩
  rintro ⟨n2, l2, room2, k2, c6, a6, s6⟩ ⟨e1, e2, hk2, t6⟩
  dsimp only at e1 e2 hk2 t6 ⊢
  subst e1 e2
  refine Ok.bind (Q := fun v => v.1 = n2 ∧ v.2.1 = l2 ∧ (1 ≤ v.2.2.2.1 ∧ v.2.2.2.1 ≤ n2) ∧ To c a 8 v.2.2.2.2.1 v.2.2.2.2.2.1) ?_ ?_
  · refine Ok.ite (fun _ => Ok.mk ⟨rfl, rfl, by dsimp only; omega, t6⟩) fun hc => Ok.mk ⟨rfl, rfl, ?_, t6⟩
    simp only [decide_eq_true_eq] at hc
    dsimp only; omega
  rintro ⟨n3, l3, room3, k3, c7, a7, s7⟩ ⟨e1, e2, hk3, t7⟩
  dsimp only at e1 e2 hk3 t7 ⊢
  subst e1 e2
  refine (one_ok (t7.at (j := 2) (h.less (by omega)))).bind ?_
  rintro ⟨fl3, c8, a8, s8⟩ t8
  dsimp only at t8 ⊢
  have t8 := t7.trans t8
  have ik : I64 k3 := by unfold I64; omega
  refine Ok.bind (Q := fun v => v.1 = n3 ∧ Sm (B + 6) v.2.1 ∧ v.2.2.2.1 = k3 ∧ To c a 10 v.2.2.2.2.1 v.2.2.2.2.2.1) ?_ ?_
  · refine Ok.ite (fun _ => ?_) fun _ => ?_
    · exact Ok.bind_eq (s_l1Add_eq hl1 (by omega) 0 k3 [] (by simp)) (Ok.mk ⟨rfl, addp_sm hl1 ⟨z, ik⟩ (by omega) (by simp), rfl, t8⟩)
    · exact Ok.bind_eq (s_l1Add_eq hl1 (by omega) k3 0 [] (by simp)) (Ok.mk ⟨rfl, addp_sm hl1 ⟨ik, z⟩ (by omega) (by simp), rfl, t8⟩)
  rintro ⟨n4, l4, room4, k4, c9, a9, s9⟩ ⟨e1, hl4, e2, t9⟩
  dsimp only at e1 hl4 e2 t9 ⊢
  subst e1 e2
  have e : IntKind.wrap .i64 (n4 - k4) = n4 - k4 := w64 (by omega) (by omega)
  exact Ok.mk ⟨hpos, by dsimp only; omega, by dsimp only; omega, hl4, t9⟩

theorem changeOf_ok {n : Int} {code : List Int} {a s : Int} (N : Nat) (hN : n ≤ N) (hn : n ≤ 1048576) (hNn : N ≤ 1048576) (h : At code (10 * N + 24) a) :
    Ok (s_l1Cur_changeOf_f n code a s) fun r => Sm (6 * N + 127) r.1 ∧ To code a (10 * N + 24) r.2.1 r.2.2.1 := by
  unfold s_l1Cur_changeOf_f
  refine Ok.bind (Q := fun v => Sm (6 * N) v.1 ∧ To code a (10 * N) v.2.2.1 v.2.2.2.1) ?_ ?_
  · refine Ok.loop (fun y => y.1 ≤ (N : Int) ∧ (0 ≤ y.1 ∨ y.1 = n) ∧ Sm (6 * (N - y.1.toNat)) y.2.1 ∧ To code a (10 * (N - y.1.toNat : Nat)) y.2.2.2.1 y.2.2.2.2.1) (fun y => y.1.toNat) ⟨hN, .inr rfl, Sm.nil _, (To.refl _ _).more (by omega)⟩ ?_
    rintro ⟨m, l, room, c, a', s'⟩ ⟨h1, h2, h3, t⟩
    dsimp only at h1 h2 h3 t ⊢
    by_cases hm : 0 < m
    · refine (changeOf_round (t.at (j := 10) (h.less (by omega))) h3 (by omega) (by omega)).mono ?_
      rintro (⟨m', l', room', c', a'', s''⟩ | z) hr
      · obtain ⟨_, k1, k2, k3, k4⟩ := hr
        dsimp only at k1 k2 k3 k4 ⊢
        exact ⟨⟨by omega, .inl k1, k3.mono (by omega), (t.trans k4).more (by omega)⟩, by omega⟩
      · exact absurd hr.1 (by omega)
    · refine (changeOf_round (n := m) (t.at (j := 10) (h.less (by omega))) h3 (by omega) (by omega)).mono ?_
      rintro (y | ⟨l', room', c', a'', s''⟩) hr
      · exact absurd hr.1 hm
      · obtain ⟨_, k1, k2⟩ := hr
        dsimp only at k1 k2 ⊢
        subst k1
        exact ⟨h3.mono (by omega), (t.trans k2).more (by omega)⟩
  rintro ⟨l, room, c, a1, s1⟩ ⟨hl, t1⟩
  dsimp only at hl t1 ⊢
  have z : I64 0 := by unfold I64; omega
  refine (put_ok (t1.at (j := 2) (h.less (by omega)))).bind ?_
  rintro ⟨p, c2, a2, s2⟩ ⟨hp, t2⟩
  dsimp only at hp t2 ⊢
  have t2 := t1.trans t2
  refine Ok.bind (Q := fun v => v.1 = l ∧ v.2.1 = p ∧ To code a (10 * N + 4) v.2.2.2.1 v.2.2.2.2.1) ?_ ?_
  · refine (one_ok (t2.at (j := 2) (h.less (by omega)))).bind ?_
    rintro ⟨x, c3, a3, s3⟩ t3
    exact Ok.ite (fun _ => Ok.mk ⟨rfl, rfl, (t2.trans t3).more (by omega)⟩) fun _ => Ok.mk ⟨rfl, rfl, (t2.trans t3).more (by omega)⟩
  rintro ⟨l', p', fl, c3, a3, s3⟩ ⟨e1, e2, t3⟩
  dsimp only at e1 e2 t3 ⊢
  subst e1 e2
  refine Ok.bind (Q := fun v => Sm (6 * N + 6) v.1 ∧ To code a (10 * N + 4) v.2.1 v.2.2.1) ?_ ?_
  · refine Ok.ite (fun _ => ?_) fun _ => Ok.mk ⟨hl.mono (by omega), t3⟩
    exact Ok.bind_eq (s_l1Add_eq hl (by omega) 0 0 p' (by omega)) (Ok.mk ⟨addp_sm hl ⟨z, z⟩ (by omega) (by dsimp only; omega), t3⟩)
  rintro ⟨l1, c4, a4, s4⟩ ⟨hl1, t4⟩
  dsimp only at hl1 t4 ⊢
  refine (one_ok (t4.at (j := 2) (h.less (by omega)))).bind ?_
  rintro ⟨fl2, c5, a5, s5⟩ t5
  dsimp only at t5 ⊢
  have t5 := t4.trans t5
  refine Ok.bind (Q := fun v => Sm (6 * N + 127) v.1 ∧ To code a (10 * N + 24) v.2.1 v.2.2.1) ?_ (fun v hv => Ok.mk hv)
  refine Ok.ite (fun _ => ?_) fun _ => Ok.mk ⟨hl1.mono (by omega), t5.more (by omega)⟩
  refine (part_ok (t5.at (j := 18) (h.less (by omega)))).bind ?_
  rintro ⟨x, y, w, c6, a6, s6⟩ ⟨⟨g1, g2, g3⟩, t6⟩
  dsimp only at g1 g2 g3 t6 ⊢
  exact Ok.yes (room_ok hl1 (by omega) _) (Ok.mk ⟨hl1.snoc ⟨g1, g2⟩ (by omega) (by dsimp only; omega), (t5.trans t6).more (by omega)⟩)
end Go.V.G
