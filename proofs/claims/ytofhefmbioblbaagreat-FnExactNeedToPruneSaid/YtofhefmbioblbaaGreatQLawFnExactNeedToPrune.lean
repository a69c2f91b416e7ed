/- For every input the law FnExactNeedToPrune returns true, and each argument reads behind the call as it read before. No condition. -/
import Derived.Test.YtofhefmbioblbaaGreatQNpL
set_option linter.unusedVariables false
set_option maxRecDepth 100000
namespace Go.Proofs.YtofhefmbioblbaaGreat
open Go.V Go.ChangeShapes Go.WideShapes Go.ChangeAt Go.RowKit
open Go.ChangeMaps (open_string shut_string)
theorem fnExactNeedToPrune_lifted (os : Os) (started : os.Started) (H : Type) (enc : TypeId × Value → H) :
    ReturnsInHanded {} Tryz.checked os 11 .any (Rows.fnExactNeedToPruneSpec.pre6 enc Tryz.prog Tryz.f11 Rows.fnExactNeedToPruneRow.domain false) (Rows.fnExactNeedToPruneSpec.post enc Tryz.prog Tryz.f11 false true false false) := by
  refine returnsInHanded_of_change (C := Tryz.checked) own started (by kernel_rfl) Tryz.func11
    (ChangeSpec.witness6 (enc := enc) (C := Tryz.checked) false ⟨#[], #[.agg #[.slice none 0 0, .int .i64 0, .bool false, .int .i64 0], .int .i64 0], []⟩ 8 (by kernel_rfl) (by kernel_rfl) (by kernel_rfl) (by kernel_rfl)) ?_
  intro W base args ds gs Dh hval0 hW hcnd _
  have hval : ∀ (j : Nat) t v, Tryz.f11.params[j]? = some t → args[j]? = some v → Value.okWide Tryz.prog W .any base t v := hval0
  have hW' := hW
  obtain ⟨p, q, hA0, hV, rfl, hfz, hnd⟩ := hW
  have hA : DataW.TrodAll enc Tryz.prog W 0 (fun _ => true) true Tryz.f11.params.toList args.toList ds p := hA0
  rw [Tryz.params11] at hA hval
  obtain ⟨v0, vs0, d0, ds0, p0, q0, hargs, rfl, rfl, h0, r0⟩ := trodAll_cons hA
  obtain ⟨v1, vs1, d1, ds1, p1, q1, rfl, rfl, rfl, h1, r1⟩ := trodAll_cons r0
  obtain ⟨rfl, rfl, rfl⟩ := trodAll_nil r1
  obtain rfl : args = #[v0, v1] := by cases args; simp_all
  obtain ⟨rfl, rfl⟩ := trodVars_none hV
  have k0 := h0
  have lt0 : ∀ x ∈ p0, x.block < W.heap.size := by obtain ⟨m, hm⟩ := k0; exact DataW.trod_lt m _ _ _ hm
  have k1 := h1
  have lt1 : ∀ x ∈ p1, x.block < W.heap.size := by obtain ⟨m, hm⟩ := k1; exact DataW.trod_lt m _ _ _ hm
  obtain ⟨ls0, e0, g0, ok0⟩ := AjB tab AkX (t := 24) (ts := [.sl true 65 (.sl true 5 (.int .u8)), .int .i64, .bool, .int .i64]) rfl rfl (hval 0 24 v0 rfl rfl) h0
  obtain ⟨x0, ls0_0, rfl, e0_0⟩ := NO e0
  obtain ⟨x1, ls0_1, rfl, e0_1⟩ := NO e0_0
  obtain ⟨x2, ls0_2, rfl, e0_2⟩ := NO e0_1
  obtain ⟨x3, ls0_3, rfl, e0_3⟩ := NO e0_2
  obtain rfl := Air e0_3
  obtain ⟨x4, g1, ok1⟩ := Ahz tab AkX (t := 3) (u := .int .i64) rfl rfl (hval 1 3 v1 rfl rfl) h1
  clear hA0 hval0
  have cs : B6 Tryz.prog 11 [.ag [⟨.sl false 65 (.sl false 5 (.int .u8)), x0⟩, ⟨.int .i64, x1⟩, ⟨.bool, x2⟩, ⟨.int .i64, x3⟩], .one ⟨.int .i64, x4⟩] [] ⟨[.one ⟨.bool, true⟩], [], []⟩ := Akj Ov ((x0, x1, x2, x3, ()), x4, ()) (Nm x0 x1 x2 x3 x4 g0 g1)
  refine (Ahk (vals := [v0, v1]) (w := W) cs ⟨_, _, [], [], rfl, rfl, ok0 [], ⟨_, _, [], [], rfl, rfl, ok1 [], ⟨rfl, rfl⟩⟩⟩ (AaF W)).mono fun e W' ⟨he, bel⟩ => ?_
  subst he
  exact ⟨_, rfl, _, _, _, [], _, [], hW', trodAll_mk1 (shut_bool Tryz.underlying4 _), (trodAll_cons_mk (Below.trod Adj (by kernel_rfl) (of_decide_eq_true (by kernel_rfl)) k0 bel lt0) (trodAll_cons_mk (Below.trod Adj (by kernel_rfl) (of_decide_eq_true (by kernel_rfl)) k1 bel lt1) trodAll_mk0)), rfl, bel.frame _, fun h => by cases h⟩
set_option maxHeartbeats 8000000 in
theorem fnExactNeedToPrune_closed : joinedFacts Tryz.pinned.checked.prog 11 Tryz.f11 Rows.fnExactNeedToPruneSpec Rows.fnExactNeedToPruneRow = true := by
  unfold joinedFacts
  simp only [Bool.and_eq_true]
  and_intros
  all_goals as_aux_lemma => kernel_rfl
theorem fnExactNeedToPrune_over : Rows.fnExactNeedToPruneRow.holds Tryz.pinned (OpenSpec.ofChange Rows.fnExactNeedToPruneSpec) :=
  OpenClaim.holds_of_wide 11 Tryz.f11 rfl rfl rfl rfl rfl rfl rfl ⟨rfl, rfl, rfl, rfl, rfl⟩ rfl rfl rfl rfl rfl (by kernel_rfl) Tryz.func11 fnExactNeedToPrune_closed
    (of_decide_eq_true (by kernel_rfl)) (by unfold Func.isWrapper; first | (rw [if_pos (by decide +kernel)]; kernel_rfl) | (rw [if_neg (by decide +kernel)]; exact ⟨rfl, rfl⟩))
    (fun os started H enc _ => fnExactNeedToPrune_lifted os started H enc)
/-- the statement -/
theorem fnExactNeedToPrune_holds : Rows.FnExactNeedToPruneSaid := fnExactNeedToPrune_over
end Go.Proofs.YtofhefmbioblbaaGreat
#print axioms Go.Proofs.YtofhefmbioblbaaGreat.fnExactNeedToPrune_holds
