/- For every input the law FnExactOpenStore returns true, and each argument reads behind the call as it read before. No condition. -/
import Derived.Test.YtofhefmbioblbaaGreatQOsL
set_option linter.unusedVariables false
set_option maxRecDepth 100000
namespace Go.Proofs.YtofhefmbioblbaaGreat
open Go.V Go.ChangeShapes Go.WideShapes Go.ChangeAt Go.RowKit
open Go.ChangeMaps (open_string shut_string)
theorem fnExactOpenStore_lifted (os : Os) (started : os.Started) (H : Type) (enc : TypeId × Value → H) :
    ReturnsInHanded {} Tryz.checked os 8 .any (Rows.fnExactOpenStoreSpec.pre6 enc Tryz.prog Tryz.f8 Rows.fnExactOpenStoreRow.domain false) (Rows.fnExactOpenStoreSpec.post enc Tryz.prog Tryz.f8 false true false false) := by
  refine returnsInHanded_of_change (C := Tryz.checked) own started (by kernel_rfl) Tryz.func8
    (ChangeSpec.witness6 (enc := enc) (C := Tryz.checked) false ⟨#[], #[.agg #[.slice none 0 0, .int .i64 0, .bool false, .int .i64 0]], []⟩ 8 (by kernel_rfl) (by kernel_rfl) (by kernel_rfl) (by kernel_rfl)) ?_
  intro W base args ds gs CQ hval0 hW hcnd _
  have hval : ∀ (j : Nat) t v, Tryz.f8.params[j]? = some t → args[j]? = some v → Value.okWide Tryz.prog W .any base t v := hval0
  have hW' := hW
  obtain ⟨p, q, hA0, hV, rfl, hfz, hnd⟩ := hW
  have hA : DataW.TrodAll enc Tryz.prog W 0 (fun _ => true) true Tryz.f8.params.toList args.toList ds p := hA0
  rw [Tryz.params8] at hA hval
  obtain ⟨v0, vs0, d0, ds0, p0, q0, hargs, rfl, rfl, h0, r0⟩ := trodAll_cons hA
  obtain ⟨rfl, rfl, rfl⟩ := trodAll_nil r0
  obtain rfl : args = #[v0] := by cases args; simp_all
  obtain ⟨rfl, rfl⟩ := trodVars_none hV
  have k0 := h0
  have lt0 : ∀ x ∈ p0, x.block < W.heap.size := by obtain ⟨m, hm⟩ := k0; exact DataW.trod_lt m _ _ _ hm
  obtain ⟨ls0, e0, g0, ok0⟩ := Agj tab Aj8 (t := 24) (ts := [.sl true 65 (.sl true 5 (.int .u8)), .int .i64, .bool, .int .i64]) rfl rfl (hval 0 24 v0 rfl rfl) h0
  obtain ⟨x0, ls0_0, rfl, e0_0⟩ := L3 e0
  obtain ⟨x1, ls0_1, rfl, e0_1⟩ := L3 e0_0
  obtain ⟨x2, ls0_2, rfl, e0_2⟩ := L3 e0_1
  obtain ⟨x3, ls0_3, rfl, e0_3⟩ := L3 e0_2
  obtain rfl := AeF e0_3
  clear hA0 hval0
  have cs : Cy Tryz.prog 8 [.ag [⟨.sl false 65 (.sl false 5 (.int .u8)), x0⟩, ⟨.int .i64, x1⟩, ⟨.bool, x2⟩, ⟨.int .i64, x3⟩]] [] ⟨[.one ⟨.bool, true⟩], [], []⟩ := AgD NU ((x0, x1, x2, x3, ()), ()) (Nb x0 x1 x2 x3 g0)
  refine (AcO (vals := [v0]) (w := W) cs ⟨_, _, [], [], rfl, rfl, ok0 [], ⟨rfl, rfl⟩⟩ (W5 W)).mono fun e W' ⟨he, bel⟩ => ?_
  subst he
  exact ⟨_, rfl, _, _, _, [], _, [], hW', trodAll_mk1 (shut_bool Tryz.underlying4 _), (trodAll_cons_mk (Below.trod Agp (by kernel_rfl) (of_decide_eq_true (by kernel_rfl)) k0 bel lt0) trodAll_mk0), rfl, bel.frame _, fun h => by cases h⟩
set_option maxHeartbeats 8000000 in
theorem fnExactOpenStore_closed : joinedFacts Tryz.pinned.checked.prog 8 Tryz.f8 Rows.fnExactOpenStoreSpec Rows.fnExactOpenStoreRow = true := by
  unfold joinedFacts
  simp only [Bool.and_eq_true]
  and_intros
  all_goals as_aux_lemma => kernel_rfl
theorem fnExactOpenStore_over : Rows.fnExactOpenStoreRow.holds Tryz.pinned (OpenSpec.ofChange Rows.fnExactOpenStoreSpec) :=
  OpenClaim.holds_of_wide 8 Tryz.f8 rfl rfl rfl rfl rfl rfl rfl ⟨rfl, rfl, rfl, rfl, rfl⟩ rfl rfl rfl rfl rfl (by kernel_rfl) Tryz.func8 fnExactOpenStore_closed
    (of_decide_eq_true (by kernel_rfl)) (by unfold Func.isWrapper; first | (rw [if_pos (by decide +kernel)]; kernel_rfl) | (rw [if_neg (by decide +kernel)]; exact ⟨rfl, rfl⟩))
    (fun os started H enc _ => fnExactOpenStore_lifted os started H enc)
/-- the statement -/
theorem fnExactOpenStore_holds : Rows.FnExactOpenStoreSaid := fnExactOpenStore_over
end Go.Proofs.YtofhefmbioblbaaGreat
#print axioms Go.Proofs.YtofhefmbioblbaaGreat.fnExactOpenStore_holds
