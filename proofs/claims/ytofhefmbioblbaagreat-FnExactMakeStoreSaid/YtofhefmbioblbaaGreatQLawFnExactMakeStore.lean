/- For every input the law FnExactMakeStore returns true, and each argument reads behind the call as it read before. No condition. -/
import Derived.Test.YtofhefmbioblbaaGreatQMsI
set_option linter.unusedVariables false
set_option maxRecDepth 100000
namespace Go.Proofs.YtofhefmbioblbaaGreat
open Go.V Go.ChangeShapes Go.WideShapes Go.ChangeAt Go.RowKit
open Go.ChangeMaps (open_string shut_string)
theorem fnExactMakeStore_lifted (os : Os) (started : os.Started) (H : Type) (enc : TypeId × Value → H) :
    ReturnsInHanded {} Tryz.checked os 3 .any (Rows.fnExactMakeStoreSpec.pre6 enc Tryz.prog Tryz.f3 Rows.fnExactMakeStoreRow.domain false) (Rows.fnExactMakeStoreSpec.post enc Tryz.prog Tryz.f3 false true false false) := by
  refine returnsInHanded_of_change (C := Tryz.checked) own started (by kernel_rfl) Tryz.func3
    (ChangeSpec.witness6 (enc := enc) (C := Tryz.checked) false ⟨#[], #[.agg #[.slice none 0 0, .int .i64 0, .bool false, .int .i64 0], .int .i64 0, .agg #[.int .i64 0, .string ⟨#[]⟩, .slice none 0 0, .slice none 0 0]], []⟩ 8 (by kernel_rfl) (by kernel_rfl) (by kernel_rfl) (by kernel_rfl)) ?_
  intro W base args ds gs Cq hval0 hW hcnd _
  have hval : ∀ (j : Nat) t v, Tryz.f3.params[j]? = some t → args[j]? = some v → Value.okWide Tryz.prog W .any base t v := hval0
  have hW' := hW
  obtain ⟨p, q, hA0, hV, rfl, hfz, hnd⟩ := hW
  have hA : DataW.TrodAll enc Tryz.prog W 0 (fun _ => true) true Tryz.f3.params.toList args.toList ds p := hA0
  rw [Tryz.params3] at hA hval
  obtain ⟨v0, vs0, d0, ds0, p0, q0, hargs, rfl, rfl, h0, r0⟩ := trodAll_cons hA
  obtain ⟨v1, vs1, d1, ds1, p1, q1, rfl, rfl, rfl, h1, r1⟩ := trodAll_cons r0
  obtain ⟨v2, vs2, d2, ds2, p2, q2, rfl, rfl, rfl, h2, r2⟩ := trodAll_cons r1
  obtain ⟨rfl, rfl, rfl⟩ := trodAll_nil r2
  obtain rfl : args = #[v0, v1, v2] := by cases args; simp_all
  obtain ⟨rfl, rfl⟩ := trodVars_none hV
  have k0 := h0
  have lt0 : ∀ x ∈ p0, x.block < W.heap.size := by obtain ⟨m, hm⟩ := k0; exact DataW.trod_lt m _ _ _ hm
  have k1 := h1
  have lt1 : ∀ x ∈ p1, x.block < W.heap.size := by obtain ⟨m, hm⟩ := k1; exact DataW.trod_lt m _ _ _ hm
  have k2 := h2
  have lt2 : ∀ x ∈ p2, x.block < W.heap.size := by obtain ⟨m, hm⟩ := k2; exact DataW.trod_lt m _ _ _ hm
  obtain ⟨ls0, e0, g0, ok0⟩ := X5 tab Aby (t := 24) (ts := [.sl true 65 (.sl true 5 (.int .u8)), .int .i64, .bool, .int .i64]) rfl rfl (hval 0 24 v0 rfl rfl) h0
  obtain ⟨x0, ls0_0, rfl, e0_0⟩ := EI e0
  obtain ⟨x1, ls0_1, rfl, e0_1⟩ := EI e0_0
  obtain ⟨x2, ls0_2, rfl, e0_2⟩ := EI e0_1
  obtain ⟨x3, ls0_3, rfl, e0_3⟩ := EI e0_2
  obtain rfl := Wa e0_3
  obtain ⟨x4, g1, ok1⟩ := AbS tab Aby (t := 3) (u := .int .i64) rfl rfl (hval 1 3 v1 rfl rfl) h1
  obtain ⟨ls2, e2, g2, ok2⟩ := X5 tab Aby (t := 28) (ts := [.int .i64, .str, .sl true 202 (.pair (.int .i64) (.int .i64)), .sl true 171 (.sl true 154 (.pair (.int .i64) (.pair (.int .i64) .str)))]) rfl rfl (hval 2 28 v2 rfl rfl) h2
  obtain ⟨x5, ls2_0, rfl, e2_0⟩ := EI e2
  obtain ⟨x6, ls2_1, rfl, e2_1⟩ := EI e2_0
  obtain ⟨x7, ls2_2, rfl, e2_2⟩ := EI e2_1
  obtain ⟨x8, ls2_3, rfl, e2_3⟩ := EI e2_2
  obtain rfl := Wa e2_3
  clear hA0 hval0
  have cs : CN Tryz.prog 3 [.ag [⟨.sl false 65 (.sl false 5 (.int .u8)), x0⟩, ⟨.int .i64, x1⟩, ⟨.bool, x2⟩, ⟨.int .i64, x3⟩], .one ⟨.int .i64, x4⟩, .ag [⟨.int .i64, x5⟩, ⟨.str, x6⟩, ⟨.sl false 202 (.pair (.int .i64) (.int .i64)), x7⟩, ⟨.sl false 171 (.sl false 154 (.pair (.int .i64) (.pair (.int .i64) .str))), x8⟩]] [] ⟨[.one ⟨.bool, true⟩], [], []⟩ := Ac2 MA ((x0, x1, x2, x3, ()), x4, (x5, x6, x7, x8, ()), ()) (Mm x0 x1 x2 x3 x4 x5 x6 x7 x8 g0 g1 g2)
  refine (Z1 (vals := [v0, v1, v2]) (w := W) cs ⟨_, _, [], [], rfl, rfl, ok0 [], ⟨_, _, [], [], rfl, rfl, ok1 [], ⟨_, _, [], [], rfl, rfl, ok2 [], ⟨rfl, rfl⟩⟩⟩⟩ (Ab1 W)).mono fun e W' ⟨he, bel⟩ => ?_
  subst he
  exact ⟨_, rfl, _, _, _, [], _, [], hW', trodAll_mk1 (shut_bool Tryz.underlying4 _), (trodAll_cons_mk (Below.trod Te (by kernel_rfl) (of_decide_eq_true (by kernel_rfl)) k0 bel lt0) (trodAll_cons_mk (Below.trod Te (by kernel_rfl) (of_decide_eq_true (by kernel_rfl)) k1 bel lt1) (trodAll_cons_mk (Below.trod Te (by kernel_rfl) (of_decide_eq_true (by kernel_rfl)) k2 bel lt2) trodAll_mk0))), rfl, bel.frame _, fun h => by cases h⟩
set_option maxHeartbeats 8000000 in
theorem fnExactMakeStore_closed : joinedFacts Tryz.pinned.checked.prog 3 Tryz.f3 Rows.fnExactMakeStoreSpec Rows.fnExactMakeStoreRow = true := by
  unfold joinedFacts
  simp only [Bool.and_eq_true]
  and_intros
  all_goals as_aux_lemma => kernel_rfl
theorem fnExactMakeStore_over : Rows.fnExactMakeStoreRow.holds Tryz.pinned (OpenSpec.ofChange Rows.fnExactMakeStoreSpec) :=
  OpenClaim.holds_of_wide 3 Tryz.f3 rfl rfl rfl rfl rfl rfl rfl ⟨rfl, rfl, rfl, rfl, rfl⟩ rfl rfl rfl rfl rfl (by kernel_rfl) Tryz.func3 fnExactMakeStore_closed
    (of_decide_eq_true (by kernel_rfl)) (by unfold Func.isWrapper; first | (rw [if_pos (by decide +kernel)]; kernel_rfl) | (rw [if_neg (by decide +kernel)]; exact ⟨rfl, rfl⟩))
    (fun os started H enc _ => fnExactMakeStore_lifted os started H enc)
/-- the statement -/
theorem fnExactMakeStore_holds : Rows.FnExactMakeStoreSaid := fnExactMakeStore_over
end Go.Proofs.YtofhefmbioblbaaGreat
#print axioms Go.Proofs.YtofhefmbioblbaaGreat.fnExactMakeStore_holds
