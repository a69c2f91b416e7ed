/-
  The pure law of FnDiamond.
-/
import Derived.Test.YtdicgiljgelkfaaP13
set_option linter.unusedVariables false
set_option linter.unusedSimpArgs false
set_option maxRecDepth 100000
namespace Go.V.G
open Go.V
theorem drawCarry_ok {code : List Int} (hb : Bytes code) : Ok (s_DrawCarryChange code) fun r => Sm 853 r.1 ∧ Sm 853 r.2.1 := by
  have h : At code 100000 0 := ⟨hb, by omega, by omega⟩
  unfold s_DrawCarryChange
  refine (size_ok (h.less (by omega))).bind ?_
  rintro ⟨n, c1, a1, s1⟩ ⟨hn, t1⟩
  dsimp only at hn t1 ⊢
  refine (changeOf_ok 120 (by omega) (by omega) (by omega) (t1.at (h.less (by omega)))).bind ?_
  rintro ⟨x, c2, a2, s2⟩ ⟨hx, t2⟩
  dsimp only at hx t2 ⊢
  have t2 := t1.trans t2
  refine (one_ok (t2.at (j := 2) (h.less (by omega)))).bind ?_
  rintro ⟨f, c3, a3, s3⟩ t3
  dsimp only at t3 ⊢
  have t3 := t2.trans t3
  have e : IntKind.wrap .i64 (n + 1) = n + 1 := w64 (by omega) (by omega)
  rw [e]
  refine Ok.bind (Q := fun v => (0 ≤ v.1 ∧ v.1 ≤ 121) ∧ v.2.1 = x ∧ To code 0 1300 v.2.2.1 v.2.2.2.1) ?_ ?_
  · refine Ok.ite (fun _ => Ok.mk ⟨by dsimp only; omega, rfl, t3.more (by omega)⟩) fun _ => Ok.mk ⟨by dsimp only; omega, rfl, t3.more (by omega)⟩
  rintro ⟨m, x', c4, a4, s4⟩ ⟨hm, e1, t4⟩
  dsimp only at hm e1 t4 ⊢
  subst e1
  refine (changeOf_ok 121 (by omega) (by omega) (by omega) (t4.at (h.less (by omega)))).bind ?_
  rintro ⟨y, c5, a5, s5⟩ ⟨hy, t5⟩
  dsimp only at hy t5 ⊢
  have t5 := t4.trans t5
  refine (one_ok (t5.at (j := 2) (h.less (by omega)))).bind ?_
  rintro ⟨g, c6, a6, s6⟩ t6
  exact Ok.mk ⟨hx.mono (by omega), hy.mono (by omega)⟩

theorem diamond_law (code : List Int) (hb : Bytes code) : l_FnDiamond code = some true := by
  unfold l_FnDiamond
  refine Ok.eq (Ok.ite (fun _ => Ok.mk rfl) fun _ => ?_)
  refine (drawCarry_ok hb).bind ?_
  rintro ⟨a, b, first⟩ ⟨ha, hb'⟩
  dsimp only at ha hb' ⊢
  refine Ok.bind_eq (i_CarryChange_eq ha (by omega) hb' (by omega) first) (Ok.bind_eq (i_CarryChange_eq hb' (by omega) ha (by omega) (!first)) (Ok.bind_eq (s_CarryChange_eq ha (by omega) hb' (by omega) first) ?_))
  have len : ∀ f, (carryOf a b f).1.length ≤ 1099511627776 := by
    intro f
    unfold carryOf
    split
    · rename_i h; have := (good_sm h.2.2.2).len; dsimp only; omega
    · simp
  refine Ok.bind (Q := fun v => v = (a, b, (carryOf a b first).1, (carryOf a b first).2, (carryOf b a (!first)).1, (carryOf b a (!first)).2, false)) ?_ ?_
  · exact Ok.no (by simp) (Ok.bind_eq (sameParts_self (len first)) (Ok.mk rfl))
  rintro _ rfl
  dsimp only
  refine Ok.no (by simp) ?_
  refine Ok.bind (Q := fun v => v = (a, b, (carryOf a b first).1, (carryOf b a (!first)).1, !((carryOf a b first).2 && (carryOf b a (!first)).2))) ?_ ?_
  · cases h1 : (carryOf a b first).2 with
    | false => exact Ok.yes rfl (Ok.mk rfl)
    | true => exact Ok.no (by simp) (Ok.mk rfl)
  rintro _ rfl
  dsimp only
  refine Ok.ite (fun _ => Ok.mk rfl) fun hfine => ?_
  have hf : (carryOf a b first).2 = true ∧ (carryOf b a (!first)).2 = true := by simpa using hfine
  obtain ⟨f1, f2⟩ := hf
  have key : ∀ x y f, (carryOf x y f).2 = true → good x = true ∧ good y = true ∧ src x = src y ∧ good (carried f x y) = true ∧ (carryOf x y f).1 = carried f x y := by
    intro x y f h
    unfold carryOf at h ⊢
    split at h
    · rename_i hc; exact ⟨hc.1, hc.2.1, hc.2.2.1, hc.2.2.2, by rw [if_pos hc]⟩
    · cases h
  obtain ⟨ga, gb, hs, gx, ex⟩ := key a b first f1
  obtain ⟨_, _, _, gy, ey⟩ := key b a (!first) f2
  rw [ex, ey]
  have sa := okk_some (good_spec ga).1
  have sb := okk_some (good_spec gb).1
  have n0 := src_nonneg sa
  have n1 := (good_spec ga).2.1
  refine Ok.bind_eq (s_LengthsOf_eq ha (by omega)) ?_
  have e0 : (lensOf a).1 = src a := by simp [lensOf, ga]
  rw [e0]
  refine (fill_ok n0 (by omega)).bind ?_
  intro t ht
  refine Ok.bind_eq (i_ApplyChange_eq hb' (by omega) t) ?_
  have hu : applyOf t b = (apply t b, true) := by
    have : src b = ((t.length : Nat) : Int) := by omega
    simp [applyOf, gb, this]
  have hw : applyOf t a = (apply t a, true) := by
    have : src a = ((t.length : Nat) : Int) := by omega
    simp [applyOf, ga, this]
  rw [hu]
  obtain ⟨k1, k2⟩ := carried_spec first ga gb hs
  obtain ⟨k3, k4⟩ := carried_spec (!first) gb ga hs.symm
  have na : nS (atoms a) = t.length := by have := src_nS sa; omega
  have nb : nS (atoms b) = t.length := by have := src_nS sb; omega
  have lb := ap_len (atoms b) t nb
  have la := ap_len (atoms a) t na
  have sx := src_nS (okk_some k1)
  have sy := src_nS (okk_some k3)
  rw [k2, carryA_nS first _ _ (by omega)] at sx
  rw [k4, carryA_nS (!first) _ _ (by omega)] at sy
  refine Ok.bind_eq (i_ApplyChange_eq (good_sm gx) (by omega) _) (Ok.bind_eq (i_ApplyChange_eq ha (by omega) t) ?_)
  rw [hw]
  refine Ok.bind_eq (i_ApplyChange_eq (good_sm gy) (by omega) _) ?_
  have hv : applyOf (apply t b) (carried first a b) = (apply (apply t b) (carried first a b), true) := by
    have : src (carried first a b) = (((apply t b).length : Nat) : Int) := by unfold apply; omega
    simp [applyOf, gx, this]
  have hz : applyOf (apply t a) (carried (!first) b a) = (apply (apply t a) (carried (!first) b a), true) := by
    have : src (carried (!first) b a) = (((apply t a).length : Nat) : Int) := by unfold apply; omega
    simp [applyOf, gy, this]
  dsimp only
  rw [hv, hz]
  refine Ok.bind (Q := fun v => v = true) ?_ (fun v hv => Ok.mk hv)
  refine Ok.yes rfl (Ok.yes rfl (Ok.mk ?_))
  have : apply (apply t b) (carried first a b) = apply (apply t a) (carried (!first) b a) := by
    unfold apply
    rw [k2, k4]
    cases first
    · exact (diamond (atoms b) (atoms a) t nb na).symm
    · exact diamond (atoms a) (atoms b) t na nb
  simp [this]
end Go.V.G
namespace Go.Proofs.Ytdicgiljgelkfaa
open Go.V
theorem pure_FnDiamond (x0 : List Int) (g0 : Fits (.sl false 5 (.int .u8)) x0) : G.l_FnDiamond x0 = some true := G.diamond_law x0 (G.bytes_of g0)
end Go.Proofs.Ytdicgiljgelkfaa
