/- For every input the law FnExactSetKeys returns true, and each argument reads behind the call as it read before. No condition. -/
import Derived.Test.YtijemcbcchnnjaaQSkF
set_option linter.unusedVariables false
set_option maxRecDepth 100000
namespace Go.Proofs.Ytijemcbcchnnjaa
open Go.V Go.ChangeShapes Go.WideShapes Go.ChangeAt Go.RowKit
open Go.ChangeMaps (open_string shut_string)
theorem fnExactSetKeys_lifted (os : Os) (started : os.Started) (H : Type) (enc : TypeId × Value → H) :
    ReturnsInHanded {} Try.checked os 4 .any (Rows.fnExactSetKeysSpec.pre6 enc Try.prog Try.f4 Rows.fnExactSetKeysRow.domain false) (Rows.fnExactSetKeysSpec.post enc Try.prog Try.f4 false true false false) := by
  refine returnsInHanded_of_change (C := Try.checked) own started (by kernel_rfl) Try.func4
    (ChangeSpec.witness6 (enc := enc) (C := Try.checked) false ⟨#[], #[.agg #[.slice none 0 0, .slice none 0 0, .slice none 0 0, .slice none 0 0], .int .i64 0, .slice none 0 0], []⟩ 8 (by kernel_rfl) (by kernel_rfl) (by kernel_rfl) (by kernel_rfl)) ?_
  intro W base args ds gs before hval0 hW hcnd _
  have hval : ∀ (j : Nat) t v, Try.f4.params[j]? = some t → args[j]? = some v → Value.okWide Try.prog W .any base t v := hval0
  have hW' := hW
  obtain ⟨p, q, hA0, hV, rfl, hfz, hnd⟩ := hW
  have hA : DataW.TrodAll enc Try.prog W 0 (fun _ => true) true Try.f4.params.toList args.toList ds p := hA0
  rw [Try.params4] at hA hval
  obtain ⟨v0, vs0, d0, ds0, p0, q0, hargs, rfl, rfl, h0, r0⟩ := trodAll_cons hA
  obtain ⟨v1, vs1, d1, ds1, p1, q1, rfl, rfl, rfl, h1, r1⟩ := trodAll_cons r0
  obtain ⟨v2, vs2, d2, ds2, p2, q2, rfl, rfl, rfl, h2, r2⟩ := trodAll_cons r1
  obtain ⟨rfl, rfl, rfl⟩ := trodAll_nil r2
  obtain rfl : args = #[v0, v1, v2] := by cases args; simp_all
  obtain ⟨rfl, rfl⟩ := trodVars_none hV
  have k0 := h0
  have lt0 : ∀ x ∈ p0, x.block < W.heap.size := by obtain ⟨m, hm⟩ := k0; exact DataW.trod_lt m _ _ _ hm
  have k1 := h1
  have lt1 : ∀ x ∈ p1, x.block < W.heap.size := by obtain ⟨m, hm⟩ := k1; exact DataW.trod_lt m _ _ _ hm
  have k2 := h2
  have lt2 : ∀ x ∈ p2, x.block < W.heap.size := by obtain ⟨m, hm⟩ := k2; exact DataW.trod_lt m _ _ _ hm
  obtain ⟨ls0, e0, g0, ok0⟩ := open_ag tab tab2 (t := 43) (ts := [.sl true 22 (.sl true 5 (.int .u8)), .sl true 5 (.int .u8), .sl true 3 (.int .i64), .sl true 3 (.int .i64)]) rfl rfl (hval 0 43 v0 rfl rfl) h0
  obtain ⟨x0, ls0_0, rfl, e0_0⟩ := leaf_cons e0
  obtain ⟨x1, ls0_1, rfl, e0_1⟩ := leaf_cons e0_0
  obtain ⟨x2, ls0_2, rfl, e0_2⟩ := leaf_cons e0_1
  obtain ⟨x3, ls0_3, rfl, e0_3⟩ := leaf_cons e0_2
  obtain rfl := leaf_nil e0_3
  obtain ⟨x4, g1, ok1⟩ := open_one tab tab2 (t := 3) (u := .int .i64) rfl rfl (hval 1 3 v1 rfl rfl) h1
  obtain ⟨x5, g2, ok2⟩ := open_one tab tab2 (t := 44) (u := .sl true 119 (.pair (.int .i64) (.int .i64))) rfl rfl (hval 2 44 v2 rfl rfl) h2
  clear hA0 hval0
  have cs := kn_law s_l_FnExactSetKeys (args := [.ag [⟨.sl false 22 (.sl false 5 (.int .u8)), x0⟩, ⟨.sl false 5 (.int .u8), x1⟩, ⟨.sl false 3 (.int .i64), x2⟩, ⟨.sl false 3 (.int .i64), x3⟩], .one ⟨.int .i64, x4⟩, .one ⟨.sl false 119 (.pair (.int .i64) (.int .i64)), x5⟩]) rfl (y := true) (pure_FnExactSetKeys x0 x1 x2 x3 x4 x5 g0 g1 g2) rfl
  refine (law_calls (vals := [v0, v1, v2]) (w := W) cs ⟨_, _, [], [], rfl, rfl, ok0 [], ⟨_, _, [], [], rfl, rfl, ok1 [], ⟨_, _, [], [], rfl, rfl, ok2 [], ⟨rfl, rfl⟩⟩⟩⟩).mono fun e W' ⟨he, bel⟩ => ?_
  subst he
  exact ⟨_, rfl, _, _, _, [], _, [], hW', trodAll_mk1 (shut_bool Try.underlying4 _), (trodAll_cons_mk (Below.trod laidOut (by kernel_rfl) (of_decide_eq_true (by kernel_rfl)) k0 bel lt0) (trodAll_cons_mk (Below.trod laidOut (by kernel_rfl) (of_decide_eq_true (by kernel_rfl)) k1 bel lt1) (trodAll_cons_mk (Below.trod laidOut (by kernel_rfl) (of_decide_eq_true (by kernel_rfl)) k2 bel lt2) trodAll_mk0))), rfl, bel.frame _, fun h => by cases h⟩
set_option maxHeartbeats 8000000 in
theorem fnExactSetKeys_closed : joinedFacts Try.pinned.checked.prog 4 Try.f4 Rows.fnExactSetKeysSpec Rows.fnExactSetKeysRow = true := by
  unfold joinedFacts
  simp only [Bool.and_eq_true]
  and_intros
  all_goals as_aux_lemma => kernel_rfl
theorem fnExactSetKeys_over : Rows.fnExactSetKeysRow.holds Try.pinned (OpenSpec.ofChange Rows.fnExactSetKeysSpec) :=
  OpenClaim.holds_of_wide 4 Try.f4 rfl rfl rfl rfl rfl rfl rfl ⟨rfl, rfl, rfl, rfl, rfl⟩ rfl rfl rfl rfl rfl (by kernel_rfl) Try.func4 fnExactSetKeys_closed
    (of_decide_eq_true (by kernel_rfl)) (by unfold Func.isWrapper; first | (rw [if_pos (by decide +kernel)]; kernel_rfl) | (rw [if_neg (by decide +kernel)]; exact ⟨rfl, rfl⟩))
    (fun os started H enc _ => fnExactSetKeys_lifted os started H enc)
/-- the statement -/
theorem fnExactSetKeys_holds : Rows.FnExactSetKeysSaid := fnExactSetKeys_over
end Go.Proofs.Ytijemcbcchnnjaa
#print axioms Go.Proofs.Ytijemcbcchnnjaa.fnExactSetKeys_holds
