/- For every input the law FnBundled returns true, and each argument reads behind the call as it read before. No condition. -/
import Derived.Test.YthpnmoiohfiggaaQBuG
set_option linter.unusedVariables false
set_option maxRecDepth 100000
namespace Go.Proofs.Ythpnmoiohfiggaa
open Go.V Go.ChangeShapes Go.WideShapes Go.ChangeAt Go.RowKit
open Go.ChangeMaps (open_string shut_string)
theorem fnBundled_lifted (os : Os) (started : os.Started) (H : Type) (enc : TypeId × Value → H) :
    ReturnsInHanded {} Try.checked os 5 .any (Rows.fnBundledSpec.pre6 enc Try.prog Try.f5 Rows.fnBundledRow.domain false) (Rows.fnBundledSpec.post enc Try.prog Try.f5 false true false false) := by
  refine returnsInHanded_of_change (C := Try.checked) own started (by kernel_rfl) Try.func5
    (ChangeSpec.witness6 (enc := enc) (C := Try.checked) false ⟨#[], #[.slice none 0 0, .slice none 0 0], []⟩ 8 (by kernel_rfl) (by kernel_rfl) (by kernel_rfl) (by kernel_rfl)) ?_
  intro W base args ds gs before hval0 hW hcnd _
  have hval : ∀ (j : Nat) t v, Try.f5.params[j]? = some t → args[j]? = some v → Value.okWide Try.prog W .any base t v := hval0
  have hW' := hW
  obtain ⟨p, q, hA0, hV, rfl, hfz, hnd⟩ := hW
  have hA : DataW.TrodAll enc Try.prog W 0 (fun _ => true) true Try.f5.params.toList args.toList ds p := hA0
  rw [Try.params5] at hA hval
  obtain ⟨v0, vs0, d0, ds0, p0, q0, hargs, rfl, rfl, h0, r0⟩ := trodAll_cons hA
  obtain ⟨v1, vs1, d1, ds1, p1, q1, rfl, rfl, rfl, h1, r1⟩ := trodAll_cons r0
  obtain ⟨rfl, rfl, rfl⟩ := trodAll_nil r1
  obtain rfl : args = #[v0, v1] := by cases args; simp_all
  obtain ⟨rfl, rfl⟩ := trodVars_none hV
  have k0 := h0
  have lt0 : ∀ x ∈ p0, x.block < W.heap.size := by obtain ⟨m, hm⟩ := k0; exact DataW.trod_lt m _ _ _ hm
  have k1 := h1
  have lt1 : ∀ x ∈ p1, x.block < W.heap.size := by obtain ⟨m, hm⟩ := k1; exact DataW.trod_lt m _ _ _ hm
  obtain ⟨x0, g0, ok0⟩ := open_one tab tab2 (t := 22) (u := .sl true 5 (.int .u8)) rfl rfl (hval 0 22 v0 rfl rfl) h0
  obtain ⟨x1, g1, ok1⟩ := open_one tab tab2 (t := 22) (u := .sl true 5 (.int .u8)) rfl rfl (hval 1 22 v1 rfl rfl) h1
  clear hA0 hval0
  have cs := kn_law s_l_FnBundled (args := [.one ⟨.sl false 5 (.int .u8), x0⟩, .one ⟨.sl false 5 (.int .u8), x1⟩]) rfl (y := true) (pure_FnBundled x0 x1 g0 g1) rfl
  refine (law_calls (vals := [v0, v1]) (w := W) cs ⟨_, _, [], [], rfl, rfl, ok0 [], ⟨_, _, [], [], rfl, rfl, ok1 [], ⟨rfl, rfl⟩⟩⟩).mono fun e W' ⟨he, bel⟩ => ?_
  subst he
  exact ⟨_, rfl, _, _, _, [], _, [], hW', trodAll_mk1 (shut_bool Try.underlying4 _), (trodAll_cons_mk (Below.trod laidOut (by kernel_rfl) (of_decide_eq_true (by kernel_rfl)) k0 bel lt0) (trodAll_cons_mk (Below.trod laidOut (by kernel_rfl) (of_decide_eq_true (by kernel_rfl)) k1 bel lt1) trodAll_mk0)), rfl, bel.frame _, fun h => by cases h⟩
set_option maxHeartbeats 8000000 in
theorem fnBundled_closed : joinedFacts Try.pinned.checked.prog 5 Try.f5 Rows.fnBundledSpec Rows.fnBundledRow = true := by
  unfold joinedFacts
  simp only [Bool.and_eq_true]
  and_intros
  all_goals as_aux_lemma => kernel_rfl
theorem fnBundled_over : Rows.fnBundledRow.holds Try.pinned (OpenSpec.ofChange Rows.fnBundledSpec) :=
  OpenClaim.holds_of_wide 5 Try.f5 rfl rfl rfl rfl rfl rfl rfl ⟨rfl, rfl, rfl, rfl, rfl⟩ rfl rfl rfl rfl rfl (by kernel_rfl) Try.func5 fnBundled_closed
    (of_decide_eq_true (by kernel_rfl)) (by unfold Func.isWrapper; first | (rw [if_pos (by decide +kernel)]; kernel_rfl) | (rw [if_neg (by decide +kernel)]; exact ⟨rfl, rfl⟩))
    (fun os started H enc _ => fnBundled_lifted os started H enc)
/-- the statement -/
theorem fnBundled_holds : Rows.FnBundledSaid := fnBundled_over
end Go.Proofs.Ythpnmoiohfiggaa
#print axioms Go.Proofs.Ythpnmoiohfiggaa.fnBundled_holds
