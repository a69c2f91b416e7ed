import Derived.Test.YthpnmoiohfiggaaQFbC
import Derived.OrdersIn
import Derived.OrdersHeld
import Derived.AtR
import Derived.Laws.World
set_option linter.unusedVariables false
set_option linter.unusedSimpArgs false
set_option maxRecDepth 100000
namespace Go.V.G
open Go.V
theorem rsum_take {l : List Rn} {i : Nat} (h : i < l.length) : rsum (l.take (i + 1)) = rsum (l.take i) + l[i].2 := by
  rw [List.take_succ_eq_append_getElem h, rsum_append]; simp [rsum]
theorem rsum_take_le {l : List Rn} (hp : Pos l) (i : Nat) : 0 ≤ rsum (l.take i) ∧ rsum (l.take i) ≤ rsum l := by
  have h2 : rsum l = rsum (l.take i) + rsum (l.drop i) := by rw [← rsum_append, List.take_append_drop]
  have h3 := rsum_nonneg (l := l.drop i) fun q hq => hp q (List.mem_of_mem_drop hq)
  have h4 := rsum_nonneg (l := l.take i) fun q hq => hp q (List.mem_of_mem_take hq)
  omega
theorem someRuns_good {l : List Rn} {n : Int} (h : goodRuns l n 60 = true) : i_someRuns l = some true := by
  obtain ⟨⟨q1, q2⟩, q3, q4⟩ := goodRuns_iff.1 h
  have hp := q4.pos
  have hsum := q4.sum
  have hlen := rlen_le hp
  unfold i_someRuns
  have hl := loop_run i_someRuns_L1 (fun i => (l, rsum (l.take i), l, ((l.length : Nat) : Int), ((i : Nat) : Int))) l.length (.inl (l, rsum l)) (fun i hi => by
    have hm := rsum_mem hp _ (List.getElem_mem hi)
    have h1 := hp _ (List.getElem_mem hi)
    have ht := rsum_take_le hp i
    have ht2 := rsum_take_le hp (i + 1)
    have e1 := rsum_take hi
    have w : IntKind.wrap .i64 (rsum (l.take i) + l[i].2) = rsum (l.take (i + 1)) := by rw [w64 (by omega) (by omega), e1]
    have hlt : ((i : Nat) : Int) < ((l.length : Nat) : Int) := by omega
    unfold i_someRuns_L1
    dsimp only
    rw [if_pos (decide_eq_true hlt), if_pos (by simp), Int.toNat_natCast, List.getElem?_eq_getElem hi, Option.bind_some, i_within_eq, Option.bind_some, if_neg (by simp; omega), Option.bind_some]
    dsimp only
    rw [if_neg (by simp; omega), w, idx_succ (show l.length ≤ 1099511627776 by omega) hi]) (by
    unfold i_someRuns_L1
    dsimp only
    rw [if_neg (by simp), List.take_length])
  rw [show loopG i_someRuns_L1 (l, 0, l, ((l.length : Nat) : Int), 0) = some (.inl (l, rsum l)) from hl, Option.bind_some]
  dsimp only
  rw [i_GoodRuns_eq (by omega), hsum, h]; rfl
theorem revOf_eq {l : List Rn} {n k : Int} (h : goodRuns l n 60 = true) (h0 : 0 ≤ k) (hk : k < n) : i_RevOf l k = (revs l)[k.toNat]? := by
  obtain ⟨⟨q1, q2⟩, q3, q4⟩ := goodRuns_iff.1 h
  have hl := revs_len q4.pos
  have hsum := q4.sum
  have hk2 : k.toNat < (revs l).length := by omega
  unfold i_RevOf
  rw [someRuns_good h, Option.bind_some, if_neg (by simp), i_revs_eq q4.pos (by omega), Option.bind_some, i_within_eq, Option.bind_some, w64 (by omega) (by omega), if_neg (by simp; omega), if_pos (by simpa using h0),
    if_pos (by simp; omega), Nat.zero_add, List.getElem?_eq_getElem hk2, Option.bind_some]
def rbytes (l : List Rn) : List Int := l.flatMap fun r => [r.1, r.2]
theorem rbytes_take {l : List Rn} {i : Nat} (h : i < l.length) : rbytes (l.take (i + 1)) = rbytes (l.take i) ++ [l[i].1, l[i].2] := by
  unfold rbytes
  rw [List.take_succ_eq_append_getElem h, List.flatMap_append, List.flatMap_singleton]
theorem rbytes_len : ∀ l : List Rn, (rbytes l).length = 2 * l.length
  | [] => rfl
  | r :: l => by
    have := rbytes_len l
    simp only [rbytes, List.flatMap_cons, List.length_append, List.length_cons, List.length_nil] at this ⊢; omega
theorem pairs2_rbytes : ∀ l : List Rn, pairs2 (rbytes l) = l
  | [] => rfl
  | r :: l => by
    have := pairs2_rbytes l
    simp only [rbytes, List.flatMap_cons, List.cons_append, List.nil_append, pairs2] at this ⊢
    rw [this]
theorem writeRuns_eq {l : List Rn} {n : Int} (h : goodRuns l n 60 = true) : i_WriteRuns l = some (rbytes l, true) := by
  obtain ⟨⟨q1, q2⟩, q3, q4⟩ := goodRuns_iff.1 h
  have hp := q4.pos
  have hsum := q4.sum
  have hlen := rlen_le hp
  unfold i_WriteRuns i_writeRuns
  have hl := loop_run i_writeRuns_L1 (fun i => (rbytes (l.take i), l, ((l.length : Nat) : Int), ((i : Nat) : Int))) l.length (rbytes l) (fun i hi => by
    have hm := rsum_mem hp _ (List.getElem_mem hi)
    have h1 := hp _ (List.getElem_mem hi)
    have hr : 0 ≤ l[i].1 ∧ l[i].1 ≤ 60 := by
      have := List.all_eq_true.1 q3 _ (List.getElem_mem hi)
      simpa using this
    have w1 : IntKind.wrap .u8 l[i].1 = l[i].1 := wu8 (by omega) (by omega)
    have w2 : IntKind.wrap .u8 l[i].2 = l[i].2 := wu8 (by omega) (by omega)
    have hlt : ((i : Nat) : Int) < ((l.length : Nat) : Int) := by omega
    unfold i_writeRuns_L1
    dsimp only
    rw [if_pos (decide_eq_true hlt), if_pos (by simp), Int.toNat_natCast, List.getElem?_eq_getElem hi, Option.bind_some, if_pos (room8 (by rw [rbytes_len, List.length_take]; simp; omega) (by omega)), w1, w2, rbytes_take hi,
      idx_succ (show l.length ≤ 1099511627776 by omega) hi]) (by
    unfold i_writeRuns_L1
    dsimp only
    rw [if_neg (by simp), List.take_length])
  rw [someRuns_good h, Option.bind_some, if_neg (by simp), show loopG i_writeRuns_L1 ([], l, ((l.length : Nat) : Int), 0) = some (rbytes l) from hl]
  rfl
theorem readRuns_eq {l : List Rn} {n : Int} (h : goodRuns l n 60 = true) : i_ReadRuns (rbytes l) = some (l, true) := by
  obtain ⟨⟨q1, q2⟩, q3, q4⟩ := goodRuns_iff.1 h
  have hp := q4.pos
  have hsum := q4.sum
  have hlen := rlen_le hp
  have hbl := rbytes_len l
  unfold i_ReadRuns
  rw [if_pos, if_pos (by omega), pairs2_rbytes, someRuns_good h]
  · rfl
  · refine ⟨by omega, fun v hv => ?_⟩
    obtain ⟨r, hr, hv⟩ := List.mem_flatMap.1 hv
    have h1 := hp r hr
    have h2 := rsum_mem hp r hr
    have h3 := List.all_eq_true.1 q3 r hr
    simp only [decide_eq_true_eq] at h3
    simp only [List.mem_cons, List.not_mem_nil, or_false] at hv
    rcases hv with rfl | rfl <;> omega
def carRuns (l : List Rn) (c : List Prt) (rev : Int) : List Rn × Bool := if good c = true ∧ goodRuns l (src c) 60 = true ∧ (0 ≤ rev ∧ rev ≤ 60) then (carR l c rev, true) else ([], false)
theorem i_CarryRuns_eq {B : Nat} {l : List Rn} {c : List Prt} {rev : Int} (h : Sm B c) (hB : B ≤ 1099511627776) (hl : l.length ≤ 1099511627776) : i_CarryRuns l c rev = some (carRuns l c rev) := by
  unfold i_CarryRuns carRuns
  rw [i_LengthsOf_eq h hB, Option.bind_some]
  unfold lensOf
  by_cases hg : good c = true
  · simp only [hg, if_true, Bool.not_true, Bool.false_eq_true, if_false, true_and]
    rw [i_GoodRuns_eq hl, Option.bind_some]
    by_cases hr : goodRuns l (src c) 60 = true
    · simp only [hr, Bool.not_true, Bool.false_eq_true, if_false, true_and, i_within_eq, Option.bind_some]
      by_cases hv : 0 ≤ rev ∧ rev ≤ 60
      · obtain ⟨_, _, q4⟩ := goodRuns_iff.1 hr
        simp only [hv, and_self, decide_true, Bool.not_true, Bool.false_eq_true, if_false, if_true, i_carryRuns_eq hg q4.pos q4.sum, Option.bind_some]
      · simp only [hv, decide_false, Bool.not_false, if_true, if_false]
    · have hr' : goodRuns l (src c) 60 = false := by simpa using hr
      simp [hr']
  · have hg' : good c = false := by simpa using hg
    simp [hg']
theorem s_CarryRuns_eq {B : Nat} {l : List Rn} {c : List Prt} {rev : Int} (h : Sm B c) (hB : B ≤ 1099511627776) (hl : l.length ≤ 1099511627776) : s_CarryRuns l c rev = some (carRuns l c rev) := by
  unfold s_CarryRuns carRuns
  rw [s_Good_eq h hB, Option.bind_some]
  by_cases hg : good c = true
  · obtain ⟨g1, g2, g3⟩ := good_spec hg
    simp only [hg, Bool.not_true, Bool.false_eq_true, if_false, true_and, s_Source_eq h hB (okk_some g1) (by omega), Option.bind_some]
    rw [s_GoodRuns_eq hl, Option.bind_some]
    by_cases hr : goodRuns l (src c) 60 = true
    · simp only [hr, Bool.not_true, Bool.false_eq_true, if_false, true_and, s_In_eq, Option.bind_some]
      by_cases hv : 0 ≤ rev ∧ rev ≤ 60
      · obtain ⟨_, _, q4⟩ := goodRuns_iff.1 hr
        simp only [hv, and_self, decide_true, Bool.not_true, Bool.false_eq_true, if_false, if_true, s_Carry9_eq hg q4.pos q4.sum, Option.bind_some]
      · simp only [hv, decide_false, Bool.not_false, if_true, if_false]
    · have hr' : goodRuns l (src c) 60 = false := by simpa using hr
      simp [hr']
  · have hg' : good c = false := by simpa using hg
    simp [hg']
theorem brg_put {rev : Int} {a : List Int} {c : List Prt} (hs : ∀ p ∈ c, Some1 p) (ha : ((a.length : Nat) : Int) = src c) {i j : Nat} (hi : i < c.length) (hj : j < c[i].2.2.length) :
    (brg rev a c)[(tgt (c.take i)).toNat + j]? = some rev ∧ tgt (c.take i) + ((j : Nat) : Int) < tgt c := by
  have h1 := brg_append rev (c.take i) (c.drop i) a fun p hp => hs p (mem_take hp)
  rw [List.take_append_drop] at h1
  have hsrc : src c = src (c.take i) + src (c.drop i) := by rw [← src_append, List.take_append_drop]
  have htgt : tgt c = tgt (c.take i) + tgt (c.drop i) := by rw [← tgt_append, List.take_append_drop]
  have n1 := src_nonneg (l := c.take i) fun p h => hs p (mem_take h)
  have n2 := src_nonneg (l := c.drop i) fun p h => hs p (mem_drop h)
  have n3 := tgt_nonneg (l := c.take i) fun p h => hs p (mem_take h)
  have l1 := brg_len rev c a hs ha
  have l2 := brg_len rev (c.drop i) (a.drop (src (c.take i)).toNat) (fun p h => hs p (mem_drop h)) (by rw [List.length_drop]; omega)
  have l3 : (brg rev a c).length = (brg rev a (c.take i)).length + (brg rev (a.drop (src (c.take i)).toNat) (c.drop i)).length := by rw [h1, List.length_append]
  have hX : (brg rev a (c.take i)).length = (tgt (c.take i)).toNat := by omega
  have hpi := hs _ (List.getElem_mem hi)
  have hk : c[i].1 = 0 := by
    have hne := hpi.ne
    unfold kd at hne
    have hput : c[i].2.2 ≠ [] := fun e => by rw [e] at hj; simp at hj
    rw [if_neg (fun h => hput h.2.2), if_neg (fun h => hput h.2.2)] at hne
    by_cases h0 : c[i].2.2 ≠ [] ∧ c[i].1 = 0 ∧ c[i].2.1 = 0
    · exact h0.2.1
    · rw [if_neg h0] at hne; exact absurd rfl hne
  refine ⟨?_, ?_⟩
  · rw [h1, ← hX, List.getElem?_append_right (by omega), Nat.add_sub_cancel_left, List.drop_eq_getElem_cons hi, brg, hk]
    simp only [Int.toNat_zero, List.take_zero, List.nil_append]
    rw [List.getElem?_append_left (by rw [List.length_replicate]; exact hj), List.getElem?_replicate, if_pos hj]
  · have := tgt_at hi
    have n4 := tgt_nonneg (l := c.drop (i + 1)) fun p h => hs p (mem_drop h)
    omega
theorem runs_ok2 {code : List Int} {a s : Int} {n f : Int} (h0 : 0 ≤ n) (hn : n ≤ 121) (h : At code 600 a) : Ok (s_l1Cur_runs_f n f code a s) fun r => r.1.length ≤ 131 ∧ To code a 500 r.2.1 r.2.2.1 := by
  unfold s_l1Cur_runs_f
  refine Ok.bind (Q := fun v => v.1.length ≤ 121 ∧ To code a 484 v.2.1 v.2.2.1) ?_ ?_
  · refine Ok.loop (fun y => 0 ≤ y.1 ∧ y.1 ≤ n ∧ ((y.2.2.1.length : Nat) : Int) ≤ n - y.1 ∧ To code a (4 * (n - y.1)) y.2.2.2.1 y.2.2.2.2.1) (fun y => y.1.toNat) ⟨h0, by simp, by simp, (To.refl _ _).more (by simp)⟩ ?_
    rintro ⟨m, f', l, c, a', s'⟩ ⟨h1, h2, h3, t⟩
    dsimp only at h1 h2 h3 t
    unfold s_l1Cur_runs_f_L1
    dsimp only
    refine Ok.ite (fun hc => ?_) fun hc => Ok.mk ⟨by dsimp only; omega, t.more (by omega)⟩
    have hm : 0 < m := by simpa using hc
    refine (pick_ok (t.at (j := 2) (h.less (by omega)))).bind ?_
    rintro ⟨k, c2, a2, s2⟩ ⟨hk, t2⟩
    dsimp only at hk t2 ⊢
    have t2 := t.trans t2
    have e : IntKind.wrap .i64 (1 + k) = 1 + k := w64 (by omega) (by omega)
    rw [e]
    refine Ok.bind (Q := fun v => v.1 = m ∧ v.2.2.1 = l ∧ (1 ≤ v.2.2.2.1 ∧ v.2.2.2.1 ≤ m) ∧ To code a (4 * (n - m) + 2) v.2.2.2.2.1 v.2.2.2.2.2.1) ?_ ?_
    · refine Ok.ite (fun hq => Ok.mk ⟨rfl, rfl, by dsimp only; omega, t2⟩) fun hq => Ok.mk ⟨rfl, rfl, ?_, t2⟩
      have : ¬ m < 1 + k := by simpa using hq
      dsimp only; omega
    rintro ⟨m', f2, l', j, c3, a3, s3⟩ ⟨q1, q2, q3, t3⟩
    dsimp only at q1 q2 q3 t3 ⊢
    subst q1 q2
    refine (pick_ok (t3.at (j := 2) (h.less (by omega)))).bind ?_
    rintro ⟨k2, c4, a4, s4⟩ ⟨hk2, t4⟩
    dsimp only at hk2 t4 ⊢
    refine Ok.bind_eq (s_l9Add_eq (by omega) _ _) ?_
    have e2 : IntKind.wrap .i64 (m' - j) = m' - j := w64 (by omega) (by omega)
    rw [e2]
    have hal := addr_len l' (k2, j)
    exact Ok.mk ⟨⟨by dsimp only; omega, by dsimp only; omega, by dsimp only; omega, (t3.trans t4).more (by dsimp only; omega)⟩, by dsimp only; omega⟩
  rintro ⟨l, c, a', s'⟩ ⟨h1, t⟩
  dsimp only at h1 t ⊢
  refine (pick_ok (t.at (j := 2) (h.less (by omega)))).bind ?_
  rintro ⟨k, c2, a2, s2⟩ ⟨hk, t2⟩
  dsimp only at hk t2 ⊢
  have t2 := t.trans t2
  refine Ok.bind (Q := fun v => v.1.length ≤ 131 ∧ To code a 500 v.2.1 v.2.2.1) ?_ (fun v hv => Ok.mk hv)
  refine Ok.ite (fun _ => ?_) fun _ => ?_
  · refine (among_ok (t2.at (j := 2) (h.less (by omega))) (by simp)).bind ?_
    rintro ⟨x, c3, a3, s3⟩ ⟨_, t3⟩
    dsimp only at t3 ⊢
    have t3 := t2.trans t3
    refine (among_ok (t3.at (j := 2) (h.less (by omega))) (by simp)).bind ?_
    rintro ⟨y, c4, a4, s4⟩ ⟨_, t4⟩
    dsimp only at t4 ⊢
    exact Ok.yes (room8 (by simp; omega) (by omega)) (Ok.mk ⟨by simp; omega, (t3.trans t4).more (by omega)⟩)
  · refine Ok.bind (Q := fun v => v.1.length ≤ 131 ∧ To code a 500 v.2.1 v.2.2.1) ?_ (fun v hv => Ok.mk hv)
    refine Ok.ite (fun _ => ?_) fun _ => Ok.mk ⟨by dsimp only; omega, t2.more (by omega)⟩
    refine Ok.bind (Q := fun v => v.1.length ≤ 131 ∧ To code a 500 v.2.1 v.2.2.1) ?_ (fun v hv => Ok.mk hv)
    refine Ok.ite (fun hc => ?_) fun _ => Ok.mk ⟨by dsimp only; omega, t2.more (by omega)⟩
    have hl : 0 < l.length := by simpa [List.length_pos_iff] using hc
    have e : IntKind.wrap .i64 (((List.length l : Nat) : Int) - 1) = ((l.length - 1 : Nat) : Int) := by rw [w64 (by omega) (by omega)]; omega
    rw [e]
    have hg : l[0 + Int.toNat ((l.length - 1 : Nat) : Int)]? = some l[l.length - 1] := by rw [Nat.zero_add, Int.toNat_natCast]; exact List.getElem?_eq_getElem (by omega)
    exact Ok.yes (by simp) (Ok.yes (by simp; omega) (Ok.bind_eq hg (Ok.bind_eq hg (Ok.yes (room8 (by simp; omega) (by omega)) (Ok.mk ⟨by simp; omega, t2.more (by omega)⟩)))))
theorem drawCarryRuns_ok {code : List Int} (hb : Bytes code) : Ok (s_DrawCarryRuns code) fun r => r.1.length ≤ 131 ∧ Sm 853 r.2.1 := by
  have h : At code 100000 0 := ⟨hb, by omega, by omega⟩
  unfold s_DrawCarryRuns
  refine (size_ok (h.less (by omega))).bind ?_
  rintro ⟨n, c1, a1, s1⟩ ⟨hn, t1⟩
  dsimp only at hn t1 ⊢
  refine (changeOf_ok 120 (by omega) (by omega) (by omega) (t1.at (h.less (by omega)))).bind ?_
  rintro ⟨x, c2, a2, s2⟩ ⟨hx, t2⟩
  dsimp only at hx t2 ⊢
  have t2 := t1.trans t2
  refine (one_ok (t2.at (j := 2) (h.less (by omega)))).bind ?_
  rintro ⟨f, c3, a3, s3⟩ t3
  dsimp only at t3 ⊢
  have t3 := t2.trans t3
  have e : IntKind.wrap .i64 (n + 1) = n + 1 := w64 (by omega) (by omega)
  rw [e]
  refine Ok.bind (Q := fun v => (0 ≤ v.1 ∧ v.1 ≤ 121) ∧ v.2.1 = x ∧ To code 0 1300 v.2.2.1 v.2.2.2.1) ?_ ?_
  · refine Ok.ite (fun _ => Ok.mk ⟨by dsimp only; omega, rfl, t3.more (by omega)⟩) fun _ => Ok.mk ⟨by dsimp only; omega, rfl, t3.more (by omega)⟩
  rintro ⟨m, x', c4, a4, s4⟩ ⟨hm, e1, t4⟩
  dsimp only at hm e1 t4 ⊢
  subst e1
  refine (pick_ok (t4.at (j := 2) (h.less (by omega)))).bind ?_
  rintro ⟨k, c5, a5, s5⟩ ⟨hk, t5⟩
  dsimp only at hk t5 ⊢
  have t5 := t4.trans t5
  refine (one_ok (t5.at (j := 2) (h.less (by omega)))).bind ?_
  rintro ⟨g, c6, a6, s6⟩ t6
  dsimp only at t6 ⊢
  have t6 := t5.trans t6
  refine Ok.bind (Q := fun v => v.1 = m ∧ v.2.1 = x' ∧ To code 0 1400 v.2.2.2.1 v.2.2.2.2.1) ?_ ?_
  · refine Ok.ite (fun _ => ?_) fun _ => Ok.mk ⟨rfl, rfl, t6.more (by omega)⟩
    refine (among_ok (t6.at (j := 2) (h.less (by omega))) (by simp)).bind ?_
    rintro ⟨y, c7, a7, s7⟩ ⟨_, t7⟩
    exact Ok.mk ⟨rfl, rfl, (t6.trans t7).more (by omega)⟩
  rintro ⟨m2, x2, rv, c8, a8, s8⟩ ⟨e1, e2, t8⟩
  dsimp only at e1 e2 t8 ⊢
  subst e1 e2
  refine (runs_ok2 hm.1 hm.2 (t8.at (h.less (by omega)))).bind ?_
  rintro ⟨l, c9, a9, s9⟩ ⟨hl, t9⟩
  exact Ok.mk ⟨hl, hx.mono (by omega)⟩
end Go.V.G

set_option linter.unusedVariables false
set_option linter.unusedSimpArgs false
set_option maxRecDepth 100000
namespace Go.V.G
open Go.V
theorem brought_inner {l : List Rn} {c : List Prt} {rev : Int} (hg : good c = true) (hr : goodRuns l (src c) 60 = true) (hv : 0 ≤ rev ∧ rev ≤ 60) {i : Nat} (hi : i < c.length) :
    loopG l_FnBrought_L1 (rev, carR l c rev, tgt (c.take i), 0, c, ((c.length : Nat) : Int), ((i : Nat) : Int), c[i].1, c[i].2.1, c[i].2.2) = some (.inl (rev, carR l c rev, tgt (c.take i), c, ((c.length : Nat) : Int), ((i : Nat) : Int), c[i].1, c[i].2.1, c[i].2.2)) := by
  obtain ⟨g1, g2, g3⟩ := good_spec hg
  have hs := okk_some g1
  obtain ⟨k1, k2⟩ := carR_spec hg hr (Int.le_refl 60) hv (Int.le_refl 60)
  obtain ⟨_, _, q4⟩ := goodRuns_iff.1 hr
  have hall : (((revs l).length : Nat) : Int) = src c := by rw [revs_len q4.pos, q4.sum]
  have hsm := good_sm hg
  have hput : c[i].2.2.length ≤ 240 := Nat.le_trans (psum_mem (List.getElem_mem hi)) hsm.put
  have n3 := tgt_nonneg (l := c.take i) fun p h => hs p (mem_take h)
  exact loop_run l_FnBrought_L1 (fun j => (rev, carR l c rev, tgt (c.take i), ((j : Nat) : Int), c, ((c.length : Nat) : Int), ((i : Nat) : Int), c[i].1, c[i].2.1, c[i].2.2)) c[i].2.2.length _ (fun j hj => by
    obtain ⟨p1, p2⟩ := brg_put (rev := rev) (a := revs l) hs hall hi hj
    have w : IntKind.wrap .i64 (tgt (c.take i) + ((j : Nat) : Int)) = tgt (c.take i) + ((j : Nat) : Int) := w64 (by omega) (by omega)
    have hlt : ((j : Nat) : Int) < ((c[i].2.2.length : Nat) : Int) := by omega
    have e : (tgt (c.take i) + ((j : Nat) : Int)).toNat = (tgt (c.take i)).toNat + j := by omega
    unfold l_FnBrought_L1
    dsimp only
    rw [if_pos (decide_eq_true hlt), w, revOf_eq k1 (by omega) p2, k2, e, p1, Option.bind_some, if_neg (by simp), idx_succ (show c[i].2.2.length ≤ 1099511627776 by omega) hj]) (by
    unfold l_FnBrought_L1
    dsimp only
    rw [if_neg (by simp)])
theorem brought_outer {l : List Rn} {c : List Prt} {rev : Int} (hg : good c = true) (hr : goodRuns l (src c) 60 = true) (hv : 0 ≤ rev ∧ rev ≤ 60) :
    loopG l_FnBrought_L2 (rev, carR l c rev, 0, c, ((c.length : Nat) : Int), 0) = some (.inl (carR l c rev)) := by
  obtain ⟨g1, g2, g3⟩ := good_spec hg
  have hs := okk_some g1
  have hsm := good_sm hg
  have hclen := hsm.len
  have := loop_run l_FnBrought_L2 (fun i => (rev, carR l c rev, tgt (c.take i), c, ((c.length : Nat) : Int), ((i : Nat) : Int))) c.length (.inl (carR l c rev)) (fun i hi => by
    have hpi := hs _ (List.getElem_mem hi)
    have k0 := hpi.k
    have n3 := tgt_nonneg (l := c.take i) fun p h => hs p (mem_take h)
    have n4 := tgt_nonneg (l := c.drop (i + 1)) fun p h => hs p (mem_drop h)
    have ta := tgt_at hi
    have tt := tgt_take hi
    have w1 : IntKind.wrap .i64 (c[i].1 + ((c[i].2.2.length : Nat) : Int)) = c[i].1 + ((c[i].2.2.length : Nat) : Int) := w64 (by omega) (by omega)
    have w2 : IntKind.wrap .i64 (tgt (c.take i) + (c[i].1 + ((c[i].2.2.length : Nat) : Int))) = tgt (c.take (i + 1)) := by rw [w64 (by omega) (by omega), tt]
    have hlt : ((i : Nat) : Int) < ((c.length : Nat) : Int) := by omega
    have hge : c[0 + Int.toNat ((i : Nat) : Int)]? = some c[i] := by rw [Nat.zero_add, Int.toNat_natCast]; exact List.getElem?_eq_getElem hi
    unfold l_FnBrought_L2
    dsimp only
    rw [if_pos (decide_eq_true hlt), if_pos (by simp), if_pos (decide_eq_true hlt), hge, Option.bind_some, Option.bind_some, Option.bind_some, brought_inner hg hr hv hi, Option.bind_some]
    dsimp only
    rw [w1, w2, idx_succ (show c.length ≤ 1099511627776 by omega) hi]) (by
    unfold l_FnBrought_L2
    dsimp only
    rw [if_neg (by simp)])
  simpa [tgt] using this
theorem brought_law (code : List Int) (hb : Bytes code) : l_FnBrought code = some true := by
  unfold l_FnBrought
  refine Ok.eq (Ok.ite (fun _ => Ok.mk rfl) fun _ => ?_)
  refine (drawCarryRuns_ok hb).bind ?_
  rintro ⟨l, c, rev⟩ ⟨hl, hc⟩
  dsimp only at hl hc ⊢
  refine Ok.bind_eq (i_CarryRuns_eq hc (by omega) (by omega)) (Ok.bind_eq (s_CarryRuns_eq hc (by omega) (by omega)) ?_)
  by_cases hh : good c = true ∧ goodRuns l (src c) 60 = true ∧ (0 ≤ rev ∧ rev ≤ 60)
  · obtain ⟨hg, hr, hv⟩ := hh
    have hcr : carRuns l c rev = (carR l c rev, true) := if_pos ⟨hg, hr, hv⟩
    rw [hcr]
    obtain ⟨k1, k2⟩ := carR_spec hg hr (Int.le_refl 60) hv (Int.le_refl 60)
    obtain ⟨⟨q1, _⟩, _, q4⟩ := goodRuns_iff.1 k1
    have hlen := rlen_le q4.pos
    have hsum := q4.sum
    have hlc : (carR l c rev).length ≤ 1048576 := by omega
    refine Ok.bind_eq (r := (c, rev, carR l c rev, true, false)) (by rw [if_neg (by simp), sameRuns_self hlc]; rfl) ?_
    dsimp only
    refine Ok.no (by simp) (Ok.no (by simp) (Ok.bind_eq (s_LengthsOf_eq hc (by omega)) ?_))
    unfold lensOf
    rw [if_pos hg]
    refine Ok.bind_eq (i_GoodRuns_eq (by omega) _ _) ?_
    dsimp only
    rw [k1]
    refine Ok.no (by simp) (Ok.bind_eq (brought_outer hg hr hv) ?_)
    dsimp only
    refine Ok.bind_eq (writeRuns_eq k1) (Ok.bind_eq (readRuns_eq k1) ?_)
    dsimp only
    refine Ok.bind_eq (r := true) (by rw [if_pos rfl, if_pos rfl, sameRuns_self hlc]; rfl) (Ok.mk rfl)
  · have hcr : carRuns l c rev = ([], false) := if_neg hh
    rw [hcr]
    refine Ok.bind_eq (r := (c, rev, [], false, false)) (by rw [if_neg (by simp), sameRuns_self (by simp)]; rfl) ?_
    dsimp only
    exact Ok.no (by simp) (Ok.yes (by simp) (Ok.mk rfl))
end Go.V.G
namespace Go.Proofs.Ythpnmoiohfiggaa
open Go.V
theorem pure_FnBrought {e : TypeId} (x0 : List Int) (g0 : Fits (.sl false e (.int .u8)) x0) : G.l_FnBrought x0 = some true := G.brought_law x0 (G.bytes_of g0)
end Go.Proofs.Ythpnmoiohfiggaa

namespace Go
section
variable {F : Fence} {n : Nat} {P : Program} {ops : Array Oper} {Q : Exit → Act → World → Prop} {md : Region.Mode} {S : World → Prop}
def noDefer (ops : Array Oper) : Bool := ops.all fun o => match o.op with | .defer _ => false | _ => true
theorem noDefer_spec (h : noDefer ops = true) (j : Nat) (o : Oper) (hj : ops[j]? = some o) (c : Call) : o.op ≠ .defer c := by
  intro e
  unfold noDefer at h
  rw [Array.all_eq_true] at h
  obtain ⟨hlt, hv⟩ := Array.getElem?_eq_some_iff.1 hj
  have := h j hlt
  rw [hv, e] at this
  cases this
def YieldsIfF (P : Program) (ops : Array Oper) (S : World → Prop) (o : Oper) (v : Value) (a : Act) : Prop := YieldsIf P ops S o v a ∧ ∀ w, o.about P w a.eval = none
theorem YieldsIfF.wpOpIn {i : Nat} {o : Oper} {v : Value} {a : Act} (hd : ∀ c, o.op ≠ .defer c) (hi : ops[i]? = some o) (hy : YieldsIfF P ops S o v a)
    {K : Act → World → Prop} {w : World} (hS : S w) (h : K (a.put o.dst v) w) : wpOpIn F n P ops Q i K a w := by
  unfold Go.wpOpIn
  simp only [hi]
  have hab : ∀ f, o.about P w a.eval = some f → F.fn f := fun f hf => by rw [hy.2 w] at hf; cases hf
  rcases hy.1 with ⟨hw, hv⟩ | ⟨hw, rfl⟩
  · simp only [hw, if_true, Oper.wpIn, Oper.semAt_eq _ _ _ hd, hv w hS, Oper.uponIn]; exact ⟨hab, h⟩
  · simp only [hw, Bool.false_eq_true, if_false]; exact ⟨hab, h⟩
theorem YieldsIfF.of_same {o : Oper} {v : Value} {a a' : Act} (hy : YieldsIfF P ops S o v a) (he : execOp a'.eval o = execOp a.eval o)
    (hw : Region.wanted o (yielded ops a'.tmps) = Region.wanted o (yielded ops a.tmps)) (hb : ∀ w, o.about P w a'.eval = o.about P w a.eval) : YieldsIfF P ops S o v a' :=
  ⟨hy.1.of_same he hw, fun w => by rw [hb w]; exact hy.2 w⟩
theorem wpOpIn_putIf {j : Nat} {oi oj : Oper} {v : Value} (hdj : ∀ c, oj.op ≠ .defer c) (hj : ops[j]? = some oj) (hap : oi.apart ops oj = true)
    (hsi : ∀ cs b, oi.op ≠ .select cs b) (hsj : ∀ cs b, oj.op ≠ .select cs b)
    (hQ : ∀ c a w, Q (.panic c) (a.put oi.dst v) w → Q (.panic c) a w) {K : Act → World → Prop} {a : Act} {w : World}
    (hy : YieldsIfF P ops S oi v a) (h : wpOpIn F n P ops Q j K (a.put oi.dst v) w) :
    wpOpIn F n P ops Q j (fun a' w' => YieldsIfF P ops S oi v a' ∧ K (a'.put oi.dst v) w') a w := by
  obtain ⟨h1, h2, h3⟩ := Oper.apart_spec hap
  have keep : ∀ (a : Act), YieldsIfF P ops S oi v a → ∀ u, YieldsIfF P ops S oi v (a.put oj.dst u) := fun a hy u =>
    hy.of_same (execOp_put oi hsi a oj.dst u h3) (wanted_put oi a oj.dst u h3) (fun w => about_put oi w a oj.dst u h3)
  have keepD : ∀ d, YieldsIfF P ops S oi v { a with defers := d :: a.defers } := fun d => hy.of_same rfl rfl (fun _ => rfl)
  unfold wpOpIn at *
  simp only [hj] at *
  rw [wanted_put oj a oi.dst v h1, about_put oj w a oi.dst v h1] at h
  split
  · rename_i hw
    simp only [hw, if_true] at h
    unfold Oper.wpIn at *
    rw [about_put oj w a oi.dst v h1] at h
    refine ⟨h.1, ?_⟩
    have h := h.2
    rw [Oper.semAt_eq _ _ _ hdj, execOp_put oj hsj a oi.dst v h1] at h
    rw [Oper.semAt_eq _ _ _ hdj]
    generalize (execOp a.eval oj).run P w = r at *
    cases r with
    | ok x w' =>
      cases x <;> simp only [Oper.uponIn] at h ⊢
      case value u => exact ⟨keep a hy u, by rw [← Act.put_comm a v u h2]; exact h⟩
      case skip => exact ⟨keep a hy _, by rw [← Act.put_comm a v undef h2]; exact h⟩
      case defer d =>
        refine ⟨keep _ (keepD d) _, ?_⟩
        rw [← Act.put_comm _ v undef h2, ← Act.put_defers]
        exact h
      case enter f args =>
        refine ⟨h.1, CallsIn.mono h.2 fun e w'' he => ?_⟩
        cases e with
        | returned u => exact ⟨keep a hy u, by rw [← Act.put_comm a v u h2]; exact he⟩
        | panicked c => exact hQ _ _ _ he
        | outgrown => exact he
      case row row args => exact ⟨h.1, RowsIn.mono h.2 fun u w'' he => ⟨keep a hy u, by rw [← Act.put_comm a v u h2]; exact he⟩⟩
      case round l f tmps assign body =>
        refine ⟨h.1, RoundIn.mono h.2 fun e w'' he => ?_⟩
        cases e with
        | returned u => exact ⟨keep a hy u, by rw [← Act.put_comm a v u h2]; exact he⟩
        | panicked c => exact hQ _ _ _ he
        | outgrown => exact he
    | halt x w' =>
      cases x <;> simp only [Oper.uponIn] at h ⊢
      case panic u => exact hQ _ _ _ h
  · rename_i hw
    simp only [hw] at h
    exact ⟨h.1, keep a hy _, by rw [← Act.put_comm a v undef h2]; exact h.2⟩
def wpAnyHI (F : Fence) (n : Nat) (P : Program) (md : Region.Mode) (ops : Array Oper) (Q : Exit → Act → World → Prop) (S : World → Prop) : Nat → Array Bool → Act → World → Prop
  | 0, listed, a, w => Region.ready md ops listed = [] ∧ Q .normal a w
  | fuel + 1, listed, a, w =>
    (Region.ready md ops listed = [] → Q .normal a w) ∧
    ∀ i ∈ Region.ready md ops listed, wpOpIn F n P ops Q i (fun a' w' => S w' ∧ wpAnyHI F n P md ops Q S fuel (listed.setIfInBounds i true) a' w') a w
theorem wpAnyIn_of_held : ∀ (fuel : Nat) (listed : Array Bool) (a : Act) (w : World), wpAnyHI F n P md ops Q S fuel listed a w → wpAnyIn F n P md ops Q fuel listed a w
  | 0, _, _, _, h => h
  | fuel + 1, _, _, _, h => ⟨h.1, fun i hi => wpOpIn_mono (fun a' w' h' => wpAnyIn_of_held fuel _ a' w' h'.2) (h.2 i hi)⟩
theorem wpAnyHI_first {i : Nat} {oi : Oper} {v : Value} (hdf : noDefer ops = true) (hi : ops[i]? = some oi) (hsel : ∀ (j : Nat) (o : Oper) cs b, ops[j]? = some o → o.op ≠ .select cs b)
    (hQ : ∀ c a w, Q (.panic c) (a.put oi.dst v) w → Q (.panic c) a w) :
    ∀ (fuel : Nat) (listed : Array Bool) (a : Act) (w : World),
      (∀ j oj, ops[j]? = some oj → j ≠ i → listed.getD j true = false → (∀ e ∈ oj.after, Region.binds md e = true → e.on ≠ i) → oi.apart ops oj = true) →
      i ∈ Region.ready md ops listed → YieldsIfF P ops S oi v a → S w →
      wpAnyHI F n P md ops Q S fuel (listed.setIfInBounds i true) (a.put oi.dst v) w → wpAnyHI F n P md ops Q S (fuel + 1) listed a w := by
  intro fuel
  induction fuel with
  | zero =>
    intro listed a w _ hr hy hS H
    refine ⟨fun h => (by rw [h] at hr; cases hr), fun j hj => ?_⟩
    by_cases hji : j = i
    · subst hji; exact hy.wpOpIn (noDefer_spec hdf _ _ hi) hi hS ⟨hS, H⟩
    · have := ready_mono hj hji
      rw [H.1] at this
      cases this
  | succ fuel ih =>
    intro listed a w hfree hr hy hS H
    refine ⟨fun h => (by rw [h] at hr; cases hr), fun j hj => ?_⟩
    by_cases hji : j = i
    · subst hji; exact hy.wpOpIn (noDefer_spec hdf _ _ hi) hi hS ⟨hS, H⟩
    · have h1 := H.2 j (ready_mono hj hji)
      obtain ⟨hjun, oj, hoj, hall⟩ := mem_ready.1 hj
      have hnot : ∀ e ∈ oj.after, Region.binds md e = true → e.on ≠ i := fun e he hb heq => by
        have h1 := hall e he hb
        have h0 := (mem_ready.1 hr).1
        rw [heq] at h1
        rcases Nat.lt_or_ge i listed.size with h' | h'
        · simp [h'] at h0 h1; rw [h0] at h1; cases h1
        · simp [Array.getElem?_eq_none h'] at h1
      have h2 := wpOpIn_putIf (noDefer_spec hdf _ _ hoj) hoj (hfree j oj hoj hji hjun hnot) (fun cs b => hsel i oi cs b hi) (fun cs b => hsel j oj cs b hoj) hQ hy h1
      have hfree' : ∀ k ok, ops[k]? = some ok → k ≠ i → (listed.setIfInBounds j true).getD k true = false →
          (∀ e ∈ ok.after, Region.binds md e = true → e.on ≠ i) → oi.apart ops ok = true := fun k ok hk hki hun hno => by
        refine hfree k ok hk hki ?_ hno
        by_cases hjk : j = k
        · subst hjk; exact hjun
        · rw [getD_set_ne true hjk] at hun; exact hun
      refine wpOpIn_mono (fun a' w' h3 => ⟨h3.2.1, ih (listed.setIfInBounds j true) a' w' hfree' (ready_mono hr (Ne.symm hji)) h3.1 h3.2.1 ?_⟩) h2
      rw [Array.setIfInBounds_comm _ _ hji]
      exact h3.2.2
theorem wpAnyHI_take (i : Nat) {oi : Oper} (v : Value) {fuel : Nat} {listed : Array Bool} {a : Act} {w : World} (hi : ops[i]? = some oi) (hdf : noDefer ops = true)
    (hs : Region.noSelect ops = true) (hf : Region.free md ops listed i = true) (hr : (Region.ready md ops listed).contains i = true)
    (hQ : ∀ c a w, Q (.panic c) (a.put oi.dst v) w → Q (.panic c) a w) (hy : YieldsIfF P ops S oi v a) (hS : S w)
    (h : wpAnyHI F n P md ops Q S fuel (listed.setIfInBounds i true) (a.put oi.dst v) w) : wpAnyHI F n P md ops Q S (fuel + 1) listed a w :=
  wpAnyHI_first hdf hi (Region.noSelect_spec hs) hQ fuel listed a w (Region.free_spec hi hf) (by simpa using hr) hy hS h
theorem wpAnyHI_all {rs : List Nat} {fuel : Nat} {listed : Array Bool} {a : Act} {w : World} (hr : Region.ready md ops listed = rs) (hne : rs ≠ [])
    (h : ∀ i ∈ rs, wpOpIn F n P ops Q i (fun a' w' => S w' ∧ wpAnyHI F n P md ops Q S fuel (listed.setIfInBounds i true) a' w') a w) : wpAnyHI F n P md ops Q S (fuel + 1) listed a w :=
  ⟨fun h0 => absurd (hr ▸ h0) hne, hr ▸ h⟩
theorem wpAnyHI_done {listed : Array Bool} {a : Act} {w : World} (hr : Region.ready md ops listed = []) (h : Q .normal a w) :
    ∀ fuel, wpAnyHI F n P md ops Q S fuel listed a w
  | 0 => ⟨hr, h⟩
  | _ + 1 => ⟨fun _ => h, by rw [hr]; simp⟩
theorem wpOpIn_value {i : Nat} {o : Oper} {K : Act → World → Prop} {a : Act} {w w' : World} (v : Value) (hi : ops[i]? = some o) (hd : ∀ c, o.op ≠ .defer c) (hw : Region.wanted o (yielded ops a.tmps) = true)
    (hab : o.about P w a.eval = none) (h : (execOp a.eval o).run P w = .ok (.value v) w') (hK : K (a.put o.dst v) w') : wpOpIn F n P ops Q i K a w := by
  unfold wpOpIn
  rw [hi]
  simp only
  rw [if_pos hw]
  unfold Oper.wpIn
  rw [Oper.semAt_eq _ _ _ hd, h]
  exact ⟨fun f hf => (by rw [hab] at hf; cases hf), hK⟩
theorem wpOpIn_skip {i : Nat} {o : Oper} {K : Act → World → Prop} {a : Act} {w w' : World} (hi : ops[i]? = some o) (hd : ∀ c, o.op ≠ .defer c) (hw : Region.wanted o (yielded ops a.tmps) = true)
    (hab : o.about P w a.eval = none) (h : (execOp a.eval o).run P w = .ok .skip w') (hK : K (a.put o.dst undef) w') : wpOpIn F n P ops Q i K a w := by
  unfold wpOpIn
  rw [hi]
  simp only
  rw [if_pos hw]
  unfold Oper.wpIn
  rw [Oper.semAt_eq _ _ _ hd, h]
  exact ⟨fun f hf => (by rw [hab] at hf; cases hf), hK⟩
theorem wpIn_region_heldI {id : Nat} {a : Act} {w : World} (S : World → Prop) (hm : P.follows .mixedOrders = true)
    (h : wpAnyHI F n P .any ops Q S ops.size (Array.replicate ops.size false) a w.drew) : (Code.region id ops true).wpIn F n P Q a w :=
  wpIn_region_any hm (wpAnyIn_of_held _ _ _ _ h)
end
end Go
