/-
  The pure law of FnCarried.
-/
import Derived.Test.YtdicgiljgelkfaaQP2
set_option linter.unusedVariables false
set_option linter.unusedSimpArgs false
set_option maxRecDepth 100000
namespace Go.V.G
open Go.V
theorem carryOf_true {x y : List Prt} {f : Bool} (h : (carryOf x y f).2 = true) : good x = true ∧ good y = true ∧ src x = src y ∧ good (carried f x y) = true ∧ (carryOf x y f).1 = carried f x y := by
  unfold carryOf at h ⊢
  split at h
  · rename_i hc; exact ⟨hc.1, hc.2.1, hc.2.2.1, hc.2.2.2, by rw [if_pos hc]⟩
  · cases h
theorem carryOf_sm (x y : List Prt) (f : Bool) : Sm 240 (carryOf x y f).1 := by
  unfold carryOf
  split
  · rename_i h; exact good_sm h.2.2.2
  · exact Sm.nil _
theorem carried_law (code more : List Int) (hb : Bytes code) (hm : Bytes more) : l_FnCarried code more = some true := by
  unfold l_FnCarried
  refine Ok.eq (Ok.ite (fun _ => Ok.mk rfl) fun _ => ?_)
  refine (drawCompose_ok hb).bind ?_
  rintro ⟨b, c⟩ ⟨hb', hc⟩
  dsimp only at hb' hc ⊢
  refine Ok.bind_eq (s_LengthsOf_eq hb' (by omega)) (Ok.bind_eq (s_ComposeChanges_eq hb' (by omega) hc (by omega)) ?_)
  refine (changeFor_ok hm (lensOf b).1).bind fun a ha => ?_
  refine Ok.bind (Q := fun v => ∃ f : Bool, v = (b, c, (composeOf b c).1, a, f) ∧ (f = false → (composeOf b c).2 = true ∧ good a = true)) ?_ ?_
  · refine Ok.ite (fun _ => Ok.mk ⟨true, rfl, fun h => by cases h⟩) fun _ => Ok.ite (fun _ => Ok.mk ⟨true, rfl, fun h => by cases h⟩) fun h2 => ?_
    have h2' : (composeOf b c).2 = true := by simpa using h2
    exact Ok.bind_eq (s_Good_eq ha (by omega)) (Ok.mk ⟨_, rfl, fun h => ⟨h2', by simpa using h⟩⟩)
  rintro _ ⟨f, rfl, hf⟩
  dsimp only
  cases f with
  | true => exact Ok.yes rfl (Ok.mk rfl)
  | false =>
    obtain ⟨hcc, ga⟩ := hf rfl
    have hg : good b = true ∧ good c = true ∧ tgt b = src c := by
      unfold composeOf at hcc
      split at hcc
      · assumption
      · cases hcc
    obtain ⟨gb, gc, hs⟩ := hg
    have ec : (composeOf b c).1 = composed b c := by simp [composeOf, gb, gc, hs]
    obtain ⟨gx, ax, sx, tx⟩ := composed_spec gb gc hs
    rw [ec]
    refine Ok.no (by simp) (Ok.bind_eq (i_CarryChange_eq ha (by omega) hb' (by omega) false) (Ok.bind_eq (s_CarryChange_eq ha (by omega) hb' (by omega) false) ?_))
    refine Ok.bind (Q := fun v => v = (c, composed b c, a, (carryOf a b false).1, (carryOf a b false).2, false)) ?_ ?_
    · refine Ok.no (by simp) (Ok.bind_eq (sameParts_self (by have := (carryOf_sm a b false).len; omega)) (Ok.mk rfl))
    rintro _ rfl
    dsimp only
    refine Ok.no (by simp) (Ok.bind_eq (i_CarryChange_eq (carryOf_sm a b false) (by omega) hc (by omega) false) (Ok.bind_eq (i_CarryChange_eq ha (by omega) (good_sm gx) (by omega) false) ?_))
    refine Ok.bind (Q := fun v => ∃ f : Bool, v = ((carryOf (carryOf a b false).1 c false).1, (carryOf a (composed b c) false).1, f) ∧ (f = false → (carryOf a b false).2 = true ∧ (carryOf (carryOf a b false).1 c false).2 = true ∧ (carryOf a (composed b c) false).2 = true)) ?_ ?_
    · refine Ok.ite (fun _ => Ok.mk ⟨true, rfl, fun h => by cases h⟩) fun h1 => Ok.ite (fun _ => Ok.mk ⟨true, rfl, fun h => by cases h⟩) fun h2 => Ok.mk ⟨_, rfl, fun h => ⟨by simpa using h1, by simpa using h2, by simpa using h⟩⟩
    rintro _ ⟨f, rfl, hf⟩
    dsimp only
    cases f with
    | true => exact Ok.yes rfl (Ok.mk rfl)
    | false =>
      obtain ⟨f1, f2, f3⟩ := hf rfl
      obtain ⟨_, _, hab, gab, e1⟩ := carryOf_true f1
      rw [e1] at f2 ⊢
      obtain ⟨_, _, habc, gabc, e2⟩ := carryOf_true f2
      obtain ⟨_, _, hax, gax, e3⟩ := carryOf_true f3
      rw [e2, e3]
      obtain ⟨k1, k2⟩ := carried_spec false ga gb hab
      obtain ⟨k3, k4⟩ := carried_spec false gab gc habc
      obtain ⟨k5, k6⟩ := carried_spec false ga gx hax
      have nb := src_nS (okk_some (good_spec gb).1)
      have na := src_nS (okk_some (good_spec ga).1)
      have tb := tgt_nT (okk_some (good_spec gb).1)
      have nc := src_nS (okk_some (good_spec gc).1)
      have same : carried false (carried false a b) c = carried false a (composed b c) := by
        apply norm_unique k3 k5
        rw [k4, k6, k2, ax]
        exact carry_comp (atoms b) (atoms c) (atoms a) (by omega) (by omega)
      rw [same]
      exact Ok.no (by simp) (Ok.bind_eq (sameParts_self (by have := (good_sm gax).len; omega)) (Ok.mk rfl))
end Go.V.G
namespace Go.Proofs.Ytdicgiljgelkfaa
open Go.V
theorem pure_FnCarried (x0 x1 : List Int) (g0 : Fits (.sl false 5 (.int .u8)) x0) (g1 : Fits (.sl false 5 (.int .u8)) x1) : G.l_FnCarried x0 x1 = some true := G.carried_law x0 x1 (G.bytes_of g0) (G.bytes_of g1)
end Go.Proofs.Ytdicgiljgelkfaa
