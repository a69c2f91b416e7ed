/-
  The pure law of FnComposed.
-/
import Derived.Test.YtdicgiljgelkfaaQP2
set_option linter.unusedVariables false
set_option linter.unusedSimpArgs false
set_option maxRecDepth 100000
namespace Go.V.G
open Go.V
theorem composed_law (code : List Int) (hb : Bytes code) : l_FnComposed code = some true := by
  unfold l_FnComposed
  refine Ok.eq (Ok.ite (fun _ => Ok.mk rfl) fun _ => ?_)
  refine (drawCompose_ok hb).bind ?_
  rintro ⟨b, c⟩ ⟨hb', hc⟩
  dsimp only at hb' hc ⊢
  refine Ok.bind_eq (i_ComposeChanges_eq hb' (by omega) hc (by omega)) (Ok.bind_eq (s_ComposeChanges_eq hb' (by omega) hc (by omega)) ?_)
  by_cases hg : good b = true ∧ good c = true ∧ tgt b = src c
  · obtain ⟨gb, gc, hs⟩ := hg
    have ec : composeOf b c = (composed b c, true) := by simp [composeOf, gb, gc, hs]
    rw [ec]
    obtain ⟨gx, ax, sx, tx⟩ := composed_spec gb gc hs
    have lx := (good_sm gx).len
    refine Ok.bind (Q := fun v => v = (b, c, composed b c, true, false)) ?_ ?_
    · exact Ok.no (by simp) (Ok.bind_eq (sameParts_self (by dsimp only; omega)) (Ok.mk rfl))
    rintro _ rfl
    dsimp only
    refine Ok.no (by simp) (Ok.no (by simp) (Ok.bind_eq (s_LengthsOf_eq hb' (by omega)) ?_))
    have e0 : (lensOf b).1 = src b := by simp [lensOf, gb]
    rw [e0]
    have sb := okk_some (good_spec gb).1
    have sc := okk_some (good_spec gc).1
    have n0 := src_nonneg sb
    have n1 := (good_spec gb).2.1
    refine (fill_ok n0 (by omega)).bind ?_
    intro t ht
    have hsb := src_nS sb
    have htb := tgt_nT sb
    have hsc := src_nS sc
    have lb := ap_len (atoms b) t (by omega)
    have hu : applyOf t b = (apply t b, true) := by
      have : src b = ((t.length : Nat) : Int) := by omega
      simp [applyOf, gb, this]
    have hv : applyOf (apply t b) c = (apply (apply t b) c, true) := by
      have : src c = (((apply t b).length : Nat) : Int) := by unfold apply; omega
      simp [applyOf, gc, this]
    have hw : applyOf t (composed b c) = (apply t (composed b c), true) := by
      have : src (composed b c) = ((t.length : Nat) : Int) := by omega
      simp [applyOf, gx, this]
    have same : apply (apply t b) c = apply t (composed b c) := by
      unfold apply
      rw [ax, ap_comp _ _ t (by omega) (by omega)]
    refine Ok.bind_eq (i_ApplyChange_eq hb' (by omega) t) ?_
    rw [hu]
    refine Ok.bind_eq (i_ApplyChange_eq hc (by omega) _) (Ok.bind_eq (i_ApplyChange_eq (good_sm gx) (by omega) t) ?_)
    dsimp only
    rw [hv, hw]
    refine Ok.bind (Q := fun v => v = (composed b c, t, apply t (composed b c), false)) ?_ ?_
    · exact Ok.no (by simp) (Ok.no (by simp) (Ok.no (by simp) (Ok.mk (by simp [same]))))
    rintro _ rfl
    dsimp only
    have ht' : ((t.length : Nat) : Int) = src (composed b c) := by omega
    obtain ⟨gi, ai, si⟩ := invP_good gx ht'
    have ei : invertOf t (composed b c) = (invP (composed b c) t, true) := by simp [invertOf, gx, ht']
    refine Ok.no (by simp) (Ok.bind_eq (i_InvertChange_eq (good_sm gx) (by omega) t) ?_)
    rw [ei]
    have nx : nS (atoms (composed b c)) = t.length := by have := src_nS (okk_some (good_spec gx).1); omega
    have lw := ap_len (atoms (composed b c)) t nx
    have tnx := tgt_nT (okk_some (good_spec gx).1)
    have hz : applyOf (apply t (composed b c)) (invP (composed b c) t) = (apply (apply t (composed b c)) (invP (composed b c) t), true) := by
      have : src (invP (composed b c) t) = (((apply t (composed b c)).length : Nat) : Int) := by unfold apply; omega
      simp [applyOf, gi, this]
    refine Ok.bind_eq (i_ApplyChange_eq (good_sm gi) (by omega) _) ?_
    rw [hz]
    refine Ok.bind (Q := fun v => v = true) ?_ (fun v hv => Ok.mk hv)
    refine Ok.yes rfl (Ok.yes rfl (Ok.mk ?_))
    have : apply (apply t (composed b c)) (invP (composed b c) t) = t := by
      unfold apply
      rw [ai]
      exact ap_inv _ t nx
    simp [this]
  · have ec : composeOf b c = ([], false) := by unfold composeOf; rw [if_neg hg]
    rw [ec]
    refine Ok.bind (Q := fun v => v = (b, c, [], false, false)) ?_ ?_
    · exact Ok.no (by simp) (Ok.bind_eq (sameParts_self (c := []) (by simp)) (Ok.mk rfl))
    rintro _ rfl
    exact Ok.no (by simp) (Ok.yes (by simp) (Ok.mk rfl))
end Go.V.G
namespace Go.Proofs.Ytdicgiljgelkfaa
open Go.V
theorem pure_FnComposed (x0 : List Int) (g0 : Fits (.sl false 5 (.int .u8)) x0) : G.l_FnComposed x0 = some true := G.composed_law x0 (G.bytes_of g0)
end Go.Proofs.Ytdicgiljgelkfaa
