/-
  P4: the reference's good changes and lengths.
-/
import Derived.Test.YtdicgiljgelkfaaP3
set_option linter.unusedVariables false
set_option linter.unusedSimpArgs false
set_option maxRecDepth 100000
namespace Go.V.G
open Go.V

theorem s_Good_eq {B : Nat} {c : List Prt} (h : Sm B c) (hB : B ≤ 1099511627776) : s_GoodChange c = some (good c) := by
  have hlen := Nat.le_trans h.len hB
  have hput := Nat.le_trans h.put hB
  unfold s_GoodChange
  refine Ok.eq (Ok.bind (Q := fun r => match r with
    | .inl _ => good c = true
    | .inr b => b = false ∧ good c = false) ?_ ?_)
  · refine Ok.loop (fun y => y.1 = c ∧ y.2.2.2.1 = c ∧ y.2.2.2.2.1 = ((List.length c : Nat) : Int) ∧ ∃ i : Nat, y.2.2.2.2.2 = ((i : Nat) : Int) ∧ i ≤ c.length ∧ y.2.1 = src (c.take i) ∧ y.2.2.1 = tgt (c.take i) ∧ y.2.1 ≤ 120 ∧ y.2.2.1 ≤ 120 ∧
        okk 0 c = okk (before c i) (c.drop i) ∧ ∀ p ∈ c.take i, Some1 p) (fun y => (((List.length c : Nat) : Int) - y.2.2.2.2.2).toNat)
      ⟨rfl, rfl, rfl, 0, rfl, Nat.zero_le _, by simp [src], by simp [tgt], by simp, by simp, by simp [before], fun p hp => by simp at hp⟩ ?_
    rintro ⟨c0, s, t, c', n, i'⟩ ⟨e1, e2, e3, i, e4, hi, e5, e6, h1, h2, hk, hs⟩
    dsimp only at e1 e2 e3 e4 e5 e6 h1 h2
    subst e1 e2 e3 e4
    unfold s_GoodChange_L1
    dsimp only
    refine Ok.ite (fun hc => ?_) fun hc => ?_
    · have hlt : i < c'.length := by simpa using hc
      have hmem : c'[i] ∈ c' := List.getElem_mem hlt
      have hpf := h.fit _ hmem
      have hpp := psum_mem hmem
      refine Ok.yes (by simp) (Ok.bind_eq (r := c'[i]) (by simp [List.getElem?_eq_getElem hlt]) (Ok.bind_eq (s_kind_eq _ _ _) ?_))
      rw [okk_drop hlt] at hk
      have n1 := src_nonneg hs
      have n2 := tgt_nonneg hs
      have a1 := src_at hlt
      have a2 := tgt_at hlt
      -- what falls at this part
      have bad : (kd c'[i] = 0 ∨ kd c'[i] = before c' i ∨ 120 < c'[i].1 ∨ 120 < c'[i].2.1 ∨ 120 < c'[i].2.2.length) → good c' = false := by
        intro hb
        cases hg : good c' with
        | false => rfl
        | true =>
          exfalso
          obtain ⟨g1, g2, g3⟩ := good_spec hg
          have q := okk_some g1
          have n3 := src_nonneg (l := c'.drop (i + 1)) fun p h => q p (mem_drop h)
          have n4 := tgt_nonneg (l := c'.drop (i + 1)) fun p h => q p (mem_drop h)
          have p1 := q _ hmem
          have k0 := p1.k; have d0 := p1.d
          rw [g1] at hk
          have hk' := hk.symm
          simp only [Bool.and_eq_true, Bool.not_eq_true', decide_eq_false_iff_not] at hk'
          rcases hb with hb | hb | hb | hb | hb
          · exact p1.ne hb
          · exact hk'.1.2 hb
          · omega
          · omega
          · omega
      refine Ok.bind (Q := fun v => ∃ b : Bool, v = (c', s, t, c', ((List.length c' : Nat) : Int), ((i : Nat) : Int), b, c'[i].1, c'[i].2.1, c'[i].2.2) ∧
          (b = true → kd c'[i] = 0 ∨ kd c'[i] = before c' i ∨ 120 < c'[i].1 ∨ 120 < c'[i].2.1 ∨ 120 < c'[i].2.2.length) ∧
          (b = false → kd c'[i] ≠ 0 ∧ kd c'[i] ≠ before c' i ∧ c'[i].1 ≤ 120 ∧ c'[i].2.1 ≤ 120 ∧ c'[i].2.2.length ≤ 120)) ?_ ?_
      · refine Ok.ite (fun h0 => ?_) fun h0 => ?_
        · have h0' : kd c'[i] = 0 := by simpa using h0
          exact Ok.mk ⟨true, rfl, fun _ => .inl h0', fun h => by cases h⟩
        · have h0' : ¬ kd c'[i] = 0 := by simpa using h0
          refine Ok.ite (fun hp => ?_) fun hp => ?_
          · have hp' : 0 < i := by simpa using hp
            have e : IntKind.wrap .i64 ((i : Int) - 1) = ((i - 1 : Nat) : Int) := by rw [w64 (by omega) (by omega)]; omega
            have hl1 : i - 1 < c'.length := by omega
            have hne : ¬ i = 0 := by omega
            have hb : before c' i = kd c'[i - 1] := by simp [before, hne, List.getElem?_eq_getElem hl1]
            refine Ok.yes (by simp [e]) (Ok.bind_eq (r := c'[i - 1]) (by simp [e, List.getElem?_eq_getElem hl1]) (Ok.bind_eq (s_kind_eq _ _ _) ?_))
            rw [hb]
            refine Ok.ite (fun hq => ?_) fun hq => ?_
            · have hq' : kd c'[i - 1] = kd c'[i] := by simpa using hq
              exact Ok.mk ⟨true, rfl, fun _ => .inr (.inl hq'.symm), fun h => by cases h⟩
            have hq' : ¬ kd c'[i - 1] = kd c'[i] := by simpa using hq
            refine Ok.ite (fun hq1 => Ok.mk ⟨true, rfl, fun _ => .inr (.inr (.inl (by simpa using hq1))), fun h => by cases h⟩) fun hq1 => ?_
            refine Ok.ite (fun hq2 => Ok.mk ⟨true, rfl, fun _ => .inr (.inr (.inr (.inl (by simpa using hq2)))), fun h => by cases h⟩) fun hq2 => ?_
            refine Ok.mk ⟨_, rfl, fun hq3 => .inr (.inr (.inr (.inr ?_))), fun hq3 => ⟨h0', fun h => hq' h.symm, by simpa using hq1, by simpa using hq2, ?_⟩⟩
            · simp only [decide_eq_true_eq] at hq3; omega
            · simp only [decide_eq_false_iff_not] at hq3; omega
          · have hi0 : i = 0 := by
              have : ¬ (0 : Int) < (i : Int) := by simpa using hp
              omega
            subst hi0
            have hb : before c' 0 = 0 := rfl
            rw [hb]
            refine Ok.ite (fun hq1 => Ok.mk ⟨true, rfl, fun _ => .inr (.inr (.inl (by simpa using hq1))), fun h => by cases h⟩) fun hq1 => ?_
            refine Ok.ite (fun hq2 => Ok.mk ⟨true, rfl, fun _ => .inr (.inr (.inr (.inl (by simpa using hq2)))), fun h => by cases h⟩) fun hq2 => ?_
            refine Ok.mk ⟨_, rfl, fun hq3 => .inr (.inr (.inr (.inr ?_))), fun hq3 => ⟨h0', h0', by simpa using hq1, by simpa using hq2, ?_⟩⟩
            · simp only [decide_eq_true_eq] at hq3; omega
            · simp only [decide_eq_false_iff_not] at hq3; omega
      rintro _ ⟨b, rfl, hb1, hb2⟩
      dsimp only
      cases b with
      | true => exact Ok.yes rfl (Ok.mk ⟨rfl, bad (hb1 rfl)⟩)
      | false =>
        refine Ok.no (by simp) ?_
        obtain ⟨g1, g2, g3, g4, g5⟩ := hb2 rfl
        have p1 := some1_of g1
        have k0 := p1.k; have d0 := p1.d
        have w1 : IntKind.wrap .i64 (c'[i].1 + c'[i].2.1) = c'[i].1 + c'[i].2.1 := w64 (by omega) (by omega)
        have w2 : IntKind.wrap .i64 (s + (c'[i].1 + c'[i].2.1)) = s + (c'[i].1 + c'[i].2.1) := w64 (by omega) (by omega)
        have w3 : IntKind.wrap .i64 (c'[i].1 + ((List.length c'[i].2.2 : Nat) : Int)) = c'[i].1 + ((List.length c'[i].2.2 : Nat) : Int) := w64 (by omega) (by omega)
        have w4 : IntKind.wrap .i64 (t + (c'[i].1 + ((List.length c'[i].2.2 : Nat) : Int))) = t + (c'[i].1 + ((List.length c'[i].2.2 : Nat) : Int)) := w64 (by omega) (by omega)
        rw [w1, w2, w3, w4]
        have over : (120 < s + (c'[i].1 + c'[i].2.1) ∨ 120 < t + (c'[i].1 + ((List.length c'[i].2.2 : Nat) : Int))) → good c' = false := by
          intro ho
          cases hg : good c' with
          | false => rfl
          | true =>
            exfalso
            obtain ⟨q1, q2, q3⟩ := good_spec hg
            have q := okk_some q1
            have n3 := src_nonneg (l := c'.drop (i + 1)) fun p h => q p (mem_drop h)
            have n4 := tgt_nonneg (l := c'.drop (i + 1)) fun p h => q p (mem_drop h)
            omega
        refine Ok.bind (Q := fun v => v = (c', s + (c'[i].1 + c'[i].2.1), t + (c'[i].1 + ((List.length c'[i].2.2 : Nat) : Int)), c', ((List.length c' : Nat) : Int), ((i : Nat) : Int), decide (120 < s + (c'[i].1 + c'[i].2.1) ∨ 120 < t + (c'[i].1 + ((List.length c'[i].2.2 : Nat) : Int))))) ?_ ?_
        · refine Ok.ite (fun h => Ok.mk ?_) fun h => Ok.mk ?_
          · have : 120 < s + (c'[i].1 + c'[i].2.1) := by simpa using h
            simp [this]
          · have : ¬ 120 < s + (c'[i].1 + c'[i].2.1) := by simpa using h
            simp [this]
        rintro _ rfl
        dsimp only
        refine Ok.ite (fun hb => Ok.mk ⟨rfl, over (by simpa using hb)⟩) fun hb => Ok.mk ⟨⟨rfl, rfl, rfl, i + 1, idx_succ hlen hlt, by omega, ?_, ?_, ?_, ?_, ?_, ?_⟩, ?_⟩
        · rw [src_take hlt, e5]
        · rw [tgt_take hlt, e6]
        · have : ¬ (120 < s + (c'[i].1 + c'[i].2.1) ∨ 120 < t + (c'[i].1 + ((List.length c'[i].2.2 : Nat) : Int))) := by simpa using hb
          dsimp only; omega
        · have : ¬ (120 < s + (c'[i].1 + c'[i].2.1) ∨ 120 < t + (c'[i].1 + ((List.length c'[i].2.2 : Nat) : Int))) := by simpa using hb
          dsimp only; omega
        · rw [hk, before_succ hlt]; simp [g1, g2]
        · intro p hp
          rw [List.take_succ_eq_append_getElem hlt] at hp
          rcases List.mem_append.1 hp with hp | hp
          · exact hs p hp
          · rw [List.mem_singleton.1 hp]; exact p1
        · rw [idx_succ hlen hlt]; dsimp only; omega
    · have : i = c'.length := by
        have : ¬ ((i : Int) < ((List.length c' : Nat) : Int)) := by simpa using hc
        omega
      subst this
      rw [List.take_length] at e5 e6
      refine Ok.mk ?_
      unfold good
      rw [hk]
      simp [okk]
      omega
  · rintro (y | b) hr
    · exact Ok.mk hr.symm
    · obtain ⟨rfl, hk⟩ := hr
      exact Ok.mk hk.symm

theorem s_Source_eq {B : Nat} {c : List Prt} (h : Sm B c) (hB : B ≤ 1099511627776) (hs : ∀ p ∈ c, Some1 p) (hle : src c ≤ 1000000) : s_l1Source c = some (src c) := by
  have hlen := Nat.le_trans h.len hB
  unfold s_l1Source
  have : loopG s_l1Source_L1 (0, c, ((List.length c : Nat) : Int), 0) = some (src c) := by
    have := loop_run s_l1Source_L1 (fun k => (src (c.take k), c, ((List.length c : Nat) : Int), (k : Int))) c.length (src c) (by
      intro i hlt
      have n1 := src_nonneg (l := c.take i) fun p h => hs p (mem_take h)
      have n3 := src_nonneg (l := c.drop (i + 1)) fun p h => hs p (mem_drop h)
      have p1 := hs _ (List.getElem_mem hlt)
      have k0 := p1.k; have d0 := p1.d
      have a1 := src_at hlt
      have w1 : IntKind.wrap .i64 (c[i].1 + c[i].2.1) = c[i].1 + c[i].2.1 := w64 (by omega) (by omega)
      have w2 : IntKind.wrap .i64 (src (c.take i) + (c[i].1 + c[i].2.1)) = src (c.take i) + (c[i].1 + c[i].2.1) := w64 (by omega) (by omega)
      have hi : ((i : Nat) : Int) < ((List.length c : Nat) : Int) := by omega
      simp [s_l1Source_L1, hi, List.getElem?_eq_getElem hlt, w1, w2, src_take hlt, idx_succ hlen hlt]) (by simp [s_l1Source_L1])
    simpa [src] using this
  rw [this]; rfl
theorem s_Target_eq {B : Nat} {c : List Prt} (h : Sm B c) (hB : B ≤ 1099511627776) (hs : ∀ p ∈ c, Some1 p) (hle : tgt c ≤ 1000000) : s_l1Target c = some (tgt c) := by
  have hlen := Nat.le_trans h.len hB
  unfold s_l1Target
  have : loopG s_l1Target_L1 (0, c, ((List.length c : Nat) : Int), 0) = some (tgt c) := by
    have := loop_run s_l1Target_L1 (fun k => (tgt (c.take k), c, ((List.length c : Nat) : Int), (k : Int))) c.length (tgt c) (by
      intro i hlt
      have n1 := tgt_nonneg (l := c.take i) fun p h => hs p (mem_take h)
      have n3 := tgt_nonneg (l := c.drop (i + 1)) fun p h => hs p (mem_drop h)
      have p1 := hs _ (List.getElem_mem hlt)
      have k0 := p1.k
      have a1 := tgt_at hlt
      have w1 : IntKind.wrap .i64 (c[i].1 + ((List.length c[i].2.2 : Nat) : Int)) = c[i].1 + ((List.length c[i].2.2 : Nat) : Int) := w64 (by omega) (by omega)
      have w2 : IntKind.wrap .i64 (tgt (c.take i) + (c[i].1 + ((List.length c[i].2.2 : Nat) : Int))) = tgt (c.take i) + (c[i].1 + ((List.length c[i].2.2 : Nat) : Int)) := w64 (by omega) (by omega)
      have hi : ((i : Nat) : Int) < ((List.length c : Nat) : Int) := by omega
      simp [s_l1Target_L1, hi, List.getElem?_eq_getElem hlt, w1, w2, tgt_take hlt, idx_succ hlen hlt]) (by simp [s_l1Target_L1])
    simpa [tgt] using this
  rw [this]; rfl
theorem s_LengthsOf_eq {B : Nat} {c : List Prt} (h : Sm B c) (hB : B ≤ 1099511627776) : s_LengthsOf c = some (lensOf c) := by
  unfold s_LengthsOf lensOf
  rw [s_Good_eq h hB, Option.bind_some]
  cases hg : good c with
  | false => simp
  | true =>
    obtain ⟨h1, h2, h3⟩ := good_spec hg
    simp [s_Source_eq h hB (okk_some h1) (by omega), s_Target_eq h hB (okk_some h1) (by omega)]
theorem s_In_eq (n lo hi : Int) : s_l1In n lo hi = some (decide (lo ≤ n ∧ n ≤ hi)) := by
  unfold s_l1In
  by_cases h1 : lo ≤ n <;> simp [h1]
theorem i_within_eq (n lo hi : Int) : i_within n lo hi = some (decide (lo ≤ n ∧ n ≤ hi)) := by
  unfold i_within
  by_cases h1 : lo ≤ n <;> simp [h1]
end Go.V.G
