/- For every input the law FnTrees returns true, and each argument reads behind the call as it read before. No condition. -/
import Derived.Test.YtijemcbcchnnjaaQTrG
set_option linter.unusedVariables false
set_option maxRecDepth 100000
namespace Go.Proofs.Ytijemcbcchnnjaa
open Go.V Go.ChangeShapes Go.WideShapes Go.ChangeAt Go.RowKit
open Go.ChangeMaps (open_string shut_string)
theorem fnTrees_lifted (os : Os) (started : os.Started) (H : Type) (enc : TypeId × Value → H) :
    ReturnsInHanded {} Try.checked os 3 .any (Rows.fnTreesSpec.pre6 enc Try.prog Try.f3 Rows.fnTreesRow.domain false) (Rows.fnTreesSpec.post enc Try.prog Try.f3 false true false false) := by
  refine returnsInHanded_of_change (C := Try.checked) own started (by kernel_rfl) Try.func3
    (ChangeSpec.witness6 (enc := enc) (C := Try.checked) false ⟨#[], #[.slice none 0 0], []⟩ 8 (by kernel_rfl) (by kernel_rfl) (by kernel_rfl) (by kernel_rfl)) ?_
  intro W base args ds gs before hval0 hW hcnd _
  have hval : ∀ (j : Nat) t v, Try.f3.params[j]? = some t → args[j]? = some v → Value.okWide Try.prog W .any base t v := hval0
  have hW' := hW
  obtain ⟨p, q, hA0, hV, rfl, hfz, hnd⟩ := hW
  have hA : DataW.TrodAll enc Try.prog W 0 (fun _ => true) true Try.f3.params.toList args.toList ds p := hA0
  rw [Try.params3] at hA hval
  obtain ⟨v0, vs0, d0, ds0, p0, q0, hargs, rfl, rfl, h0, r0⟩ := trodAll_cons hA
  obtain ⟨rfl, rfl, rfl⟩ := trodAll_nil r0
  obtain rfl : args = #[v0] := by cases args; simp_all
  obtain ⟨rfl, rfl⟩ := trodVars_none hV
  have k0 := h0
  have lt0 : ∀ x ∈ p0, x.block < W.heap.size := by obtain ⟨m, hm⟩ := k0; exact DataW.trod_lt m _ _ _ hm
  obtain ⟨x0, g0, ok0⟩ := open_one tab tab2 (t := 22) (u := .sl true 5 (.int .u8)) rfl rfl (hval 0 22 v0 rfl rfl) h0
  clear hA0 hval0
  have cs := kn_law s_l_FnTrees (args := [.one ⟨.sl false 5 (.int .u8), x0⟩]) rfl (y := true) (pure_FnTrees x0 g0) rfl
  refine (law_calls (vals := [v0]) (w := W) cs ⟨_, _, [], [], rfl, rfl, ok0 [], ⟨rfl, rfl⟩⟩).mono fun e W' ⟨he, bel⟩ => ?_
  subst he
  exact ⟨_, rfl, _, _, _, [], _, [], hW', trodAll_mk1 (shut_bool Try.underlying4 _), (trodAll_cons_mk (Below.trod laidOut (by kernel_rfl) (of_decide_eq_true (by kernel_rfl)) k0 bel lt0) trodAll_mk0), rfl, bel.frame _, fun h => by cases h⟩
set_option maxHeartbeats 8000000 in
theorem fnTrees_closed : joinedFacts Try.pinned.checked.prog 3 Try.f3 Rows.fnTreesSpec Rows.fnTreesRow = true := by
  unfold joinedFacts
  simp only [Bool.and_eq_true]
  and_intros
  all_goals as_aux_lemma => kernel_rfl
theorem fnTrees_over : Rows.fnTreesRow.holds Try.pinned (OpenSpec.ofChange Rows.fnTreesSpec) :=
  OpenClaim.holds_of_wide 3 Try.f3 rfl rfl rfl rfl rfl rfl rfl ⟨rfl, rfl, rfl, rfl, rfl⟩ rfl rfl rfl rfl rfl (by kernel_rfl) Try.func3 fnTrees_closed
    (of_decide_eq_true (by kernel_rfl)) (by unfold Func.isWrapper; first | (rw [if_pos (by decide +kernel)]; kernel_rfl) | (rw [if_neg (by decide +kernel)]; exact ⟨rfl, rfl⟩))
    (fun os started H enc _ => fnTrees_lifted os started H enc)
/-- the statement -/
theorem fnTrees_holds : Rows.FnTreesSaid := fnTrees_over
end Go.Proofs.Ytijemcbcchnnjaa
#print axioms Go.Proofs.Ytijemcbcchnnjaa.fnTrees_holds
