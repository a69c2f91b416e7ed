/-
  P8: more draws of changes.
-/
import Derived.Test.YtdicgiljgelkfaaP7
set_option linter.unusedVariables false
set_option linter.unusedSimpArgs false
set_option maxRecDepth 100000
namespace Go.V.G
open Go.V

theorem drawGood_ok {code : List Int} (hb : Bytes code) : Ok (s_DrawGoodChange code) fun r => Sm 847 r := by
  have h : At code 100000 0 := ⟨hb, by omega, by omega⟩
  unfold s_DrawGoodChange
  refine (one_ok (h.less (by omega))).bind ?_
  rintro ⟨f, c1, a1, s1⟩ t1
  dsimp only at t1 ⊢
  refine Ok.ite (fun _ => ?_) fun _ => ?_
  · refine (pick_ok (t1.at (j := 2) (h.less (by omega)))).bind ?_
    rintro ⟨n, c2, a2, s2⟩ ⟨hn, t2⟩
    dsimp only at hn t2 ⊢
    have t2 := t1.trans t2
    refine Ok.bind (Q := fun r => Sm 847 r) ?_ (fun v hv => Ok.mk hv)
    refine Ok.loop (fun y => 0 ≤ y.2.1 ∧ y.2.1 ≤ 4 ∧ Sm ((4 - y.2.1).toNat * 122) y.1 ∧ To code 0 (4 + 18 * (4 - y.2.1)) y.2.2.1 y.2.2.2.1) (fun y => y.2.1.toNat) ⟨by dsimp only; omega, by dsimp only; omega, Sm.nil _, t2.more (by dsimp only; omega)⟩ ?_
    rintro ⟨l, m, c, a, s⟩ ⟨h1, h2, h3, t⟩
    dsimp only at h1 h2 h3 t
    unfold s_DrawGoodChange_L1
    dsimp only
    refine Ok.ite (fun hc => ?_) fun hc => Ok.mk (h3.mono (by omega))
    have hc' : 0 < m := by simpa using hc
    refine (part_ok (t.at (j := 18) (h.less (by omega)))).bind ?_
    rintro ⟨x, y, w, c6, a6, s6⟩ ⟨⟨g1, g2, g3⟩, t6⟩
    dsimp only at g1 g2 g3 t6 ⊢
    have e : IntKind.wrap .i64 (m - 1) = m - 1 := w64 (by omega) (by omega)
    rw [e]
    exact Ok.yes (room_ok h3 (by (try dsimp only); omega) _) (Ok.mk ⟨⟨by (try dsimp only); omega, by (try dsimp only); omega, h3.snoc ⟨g1, g2⟩ (by (try dsimp only); omega) (by (try dsimp only); omega), (t.trans t6).more (by (try dsimp only); omega)⟩, by (try dsimp only); omega⟩)
  · refine (size_ok (t1.at (j := 4) (h.less (by omega)))).bind ?_
    rintro ⟨n, c2, a2, s2⟩ ⟨hn, t2⟩
    dsimp only at hn t2 ⊢
    have t2 := t1.trans t2
    refine (changeOf_ok 120 (by omega) (by omega) (by omega) (t2.at (h.less (by omega)))).bind ?_
    rintro ⟨x, c3, a3, s3⟩ ⟨hx, t3⟩
    exact Ok.mk hx

theorem drawNormal_ok {code : List Int} (hb : Bytes code) : Ok (s_DrawNormalOf code) fun r => Sm 2000 r := by
  have h : At code 100000 0 := ⟨hb, by omega, by omega⟩
  have z : I64 0 := by unfold I64; omega
  unfold s_DrawNormalOf
  refine (pick_ok (h.less (by omega))).bind ?_
  rintro ⟨n, c1, a1, s1⟩ ⟨hn, t1⟩
  dsimp only at hn t1 ⊢
  refine Ok.bind (Q := fun v => Sm 1000 v.1 ∧ To code 0 300 v.2.1 v.2.2.1) ?_ ?_
  · refine Ok.loop (fun y => 0 ≤ y.2.1 ∧ y.2.1 ≤ 8 ∧ Sm ((8 - y.2.1).toNat * 122) y.1 ∧ To code 0 (2 + 22 * (8 - y.2.1)) y.2.2.1 y.2.2.2.1) (fun y => y.2.1.toNat) ⟨by dsimp only; omega, by dsimp only; omega, Sm.nil _, t1.more (by dsimp only; omega)⟩ ?_
    rintro ⟨l, m, c, a, s⟩ ⟨h1, h2, h3, t⟩
    dsimp only at h1 h2 h3 t
    unfold s_DrawNormalOf_L1
    dsimp only
    refine Ok.ite (fun hc => ?_) fun hc => Ok.mk ⟨h3.mono (by omega), t.more (by omega)⟩
    have hc' : 0 < m := by simpa using hc
    refine (pick_ok (t.at (j := 2) (h.less (by omega)))).bind ?_
    rintro ⟨k, c2, a2, s2⟩ ⟨hk, t2⟩
    dsimp only at hk t2 ⊢
    have t2 := t.trans t2
    refine Ok.bind (Q := fun v => Sm ((9 - m).toNat * 122) v.1 ∧ v.2.1 = m ∧ To code 0 (2 + 22 * (9 - m)) v.2.2.1 v.2.2.2.1) ?_ ?_
    · refine Ok.ite (fun _ => ?_) fun _ => ?_
      · refine (pick_ok (t2.at (j := 2) (h.less (by omega)))).bind ?_
        rintro ⟨x, c3, a3, s3⟩ ⟨hx, t3⟩
        dsimp only at hx t3 ⊢
        exact Ok.yes (room_ok h3 (by omega) _) (Ok.mk ⟨h3.snoc ⟨by unfold I64; dsimp only; omega, z⟩ (by omega) (by simp; omega), rfl, (t2.trans t3).more (by omega)⟩)
      refine Ok.bind (Q := fun v => Sm ((9 - m).toNat * 122) v.1 ∧ v.2.1 = m ∧ To code 0 (2 + 22 * (9 - m)) v.2.2.1 v.2.2.2.1) ?_ (fun v hv => Ok.mk hv)
      refine Ok.ite (fun _ => ?_) fun _ => ?_
      · refine (pick_ok (t2.at (j := 2) (h.less (by omega)))).bind ?_
        rintro ⟨x, c3, a3, s3⟩ ⟨hx, t3⟩
        dsimp only at hx t3 ⊢
        exact Ok.yes (room_ok h3 (by omega) _) (Ok.mk ⟨h3.snoc ⟨z, by unfold I64; dsimp only; omega⟩ (by omega) (by simp; omega), rfl, (t2.trans t3).more (by omega)⟩)
      refine Ok.bind (Q := fun v => Sm ((9 - m).toNat * 122) v.1 ∧ v.2.1 = m ∧ To code 0 (2 + 22 * (9 - m)) v.2.2.1 v.2.2.2.1) ?_ (fun v hv => Ok.mk hv)
      refine Ok.ite (fun _ => ?_) fun _ => ?_
      · refine (put_ok (t2.at (j := 2) (h.less (by omega)))).bind ?_
        rintro ⟨x, c3, a3, s3⟩ ⟨hx, t3⟩
        dsimp only at hx t3 ⊢
        exact Ok.yes (room_ok h3 (by omega) _) (Ok.mk ⟨h3.snoc ⟨z, z⟩ (by omega) (by dsimp only; omega), rfl, (t2.trans t3).more (by omega)⟩)
      refine (one_ok (t2.at (j := 2) (h.less (by omega)))).bind ?_
      rintro ⟨f, c3, a3, s3⟩ t3
      dsimp only at t3 ⊢
      have t3 := t2.trans t3
      refine Ok.bind (Q := fun v => Sm ((9 - m).toNat * 122) v.1 ∧ v.2.1 = m ∧ To code 0 (2 + 22 * (9 - m)) v.2.2.1 v.2.2.2.1) ?_ (fun v hv => Ok.mk hv)
      refine Ok.ite (fun _ => ?_) fun _ => Ok.mk ⟨h3.mono (by omega), rfl, t3.more (by omega)⟩
      refine (part_ok (t3.at (j := 18) (h.less (by omega)))).bind ?_
      rintro ⟨x, y, w, c6, a6, s6⟩ ⟨⟨g1, g2, g3⟩, t6⟩
      dsimp only at g1 g2 g3 t6 ⊢
      exact Ok.yes (room_ok h3 (by omega) _) (Ok.mk ⟨h3.snoc ⟨g1, g2⟩ (by omega) (by dsimp only; omega), rfl, (t3.trans t6).more (by omega)⟩)
    rintro ⟨l', m', c', a', s'⟩ ⟨k1, k2, k3⟩
    dsimp only at k1 k2 k3 ⊢
    subst k2
    have e : IntKind.wrap .i64 (m' - 1) = m' - 1 := w64 (by omega) (by omega)
    rw [e]
    exact Ok.mk ⟨⟨by (try dsimp only); omega, by (try dsimp only); omega, k1.mono (by (try dsimp only); omega), k3.more (by (try dsimp only); omega)⟩, by (try dsimp only); omega⟩
  rintro ⟨l, c2, a2, s2⟩ ⟨hl, t2⟩
  dsimp only at hl t2 ⊢
  refine (one_ok (t2.at (j := 2) (h.less (by omega)))).bind ?_
  rintro ⟨f, c3, a3, s3⟩ t3
  dsimp only at t3 ⊢
  have t3 := t2.trans t3
  refine Ok.bind (Q := fun v => Sm 2000 v) ?_ (fun v hv => Ok.mk hv)
  refine Ok.ite (fun _ => ?_) fun _ => Ok.mk (hl.mono (by omega))
  refine (pick_ok (t3.at (j := 2) (h.less (by omega)))).bind ?_
  rintro ⟨x, c4, a4, s4⟩ ⟨hx, t4⟩
  dsimp only at hx t4 ⊢
  have e : IntKind.wrap .i64 (500 + x) = 500 + x := w64 (by omega) (by omega)
  rw [e]
  refine Ok.yes (by simp; omega) (Ok.yes (by simp) (Ok.yes (by simp [roomFor]; omega) (Ok.mk ⟨by simp; omega, ?_, ?_⟩)))
  · have : ∀ n : Nat, psum (List.replicate n ((0, (0, [])) : Prt)) = 0 := by
      intro n
      induction n with
      | zero => rfl
      | succ n ih => rw [List.replicate_succ]; simp [psum, ih]
    rw [this]; omega
  · intro p hp
    rw [List.eq_of_mem_replicate hp]; exact ⟨z, z⟩
end Go.V.G
