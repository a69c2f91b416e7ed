import Derived.Test.YtdicgiljgelkfaaQP0
/-
  P19: disks: blocks are copied, written, read; what is drawn.
-/
set_option linter.unusedVariables false
set_option linter.unusedSimpArgs false
set_option maxRecDepth 100000
namespace Go.V.G
open Go.V
abbrev Bls := List (List Int)
/-- not too large for any room -/
structure Bd (bl : Bls) : Prop where
  n : bl.length ≤ 100000
  b : ∀ x ∈ bl, 0 < x.length ∧ x.length ≤ 100000
def gd (bl : Bls) (wr lf : Int) : Bool := decide (40 ≤ bl.length ∧ bl.length ≤ 160) && (bl.all (fun b => b.length == 128) && (decide (0 ≤ wr ∧ wr ≤ 1000000000) && decide (-1 ≤ lf ∧ lf ≤ 1000000)))
abbrev Dsk := Bls × (Int × (Bool × Int))

theorem clone_eq {x : List Int} (h : 0 < x.length ∧ x.length ≤ 100000) : slices_Clone_byte_byte x = some x := by
  unfold slices_Clone_byte_byte
  cases x with
  | nil => simp at h
  | cons a x =>
    have hr : roomFor (List.length ([] : List Int) + List.length (a :: x)) 1 = true := by
      have := h.2
      simp only [List.length_nil, roomFor, decide_eq_true_eq]; omega
    simp only [bothQ, List.isEmpty_cons, Bool.false_eq_true, if_false, Option.bind_some, hr, if_true, List.nil_append]

theorem copyBlocks_eq {bl : Bls} (h : Bd bl) : i_copyBlocks bl = some bl := by
  have hn := h.n
  unfold i_copyBlocks
  refine Ok.eq (Ok.bind (Q := fun r => r = bl) ?_ (fun r hr => Ok.mk hr))
  refine Ok.loop (fun y => ∃ k : Nat, k ≤ bl.length ∧ y = (bl.take k, bl, ((bl.length : Nat) : Int), ((k : Nat) : Int))) (fun y => (((bl.length : Nat) : Int) - y.2.2.2).toNat) ⟨0, by omega, by simp⟩ ?_
  rintro _ ⟨k, hk, rfl⟩
  unfold i_copyBlocks_L1
  dsimp only
  refine Ok.ite (fun hc => ?_) fun hc => ?_
  · have hlt : k < bl.length := by simpa using hc
    refine Ok.yes (by simp) ?_
    have hg : bl[Int.toNat ((k : Nat) : Int)]? = some bl[k] := by simp [hlt]
    refine Ok.bind_eq hg (Ok.bind_eq (clone_eq (h.b _ (List.getElem_mem hlt))) ?_)
    have e1 : IntKind.wrap .i64 (((k : Nat) : Int) + 1) = (((k + 1 : Nat)) : Int) := by rw [w64 (by omega) (by omega)]; omega
    refine Ok.yes ?_ (Ok.mk ⟨⟨k + 1, by omega, ?_⟩, ?_⟩)
    · simp only [List.length_take, List.length_singleton, roomFor, decide_eq_true_eq]; omega
    · rw [e1, List.take_succ_eq_append_getElem hlt]
    · dsimp only; rw [e1]; omega
  · have : k = bl.length := by simp at hc; omega
    refine Ok.mk ?_
    dsimp only
    rw [this, List.take_length]

theorem own_eq {bl : Bls} (h : Bd bl) (wr : Int) (on : Bool) (lf : Int) : s_l2Own bl wr on lf = some (bl, wr, on, lf) := by
  have hn := h.n
  unfold s_l2Own
  refine Ok.eq (Ok.bind (Q := fun r => r.1 = bl ∧ r.2.2.1 = wr ∧ r.2.2.2.1 = on ∧ r.2.2.2.2.1 = lf) ?_ (fun r hr => Ok.mk (by rw [hr.1, hr.2.1, hr.2.2.1, hr.2.2.2])))
  refine Ok.loop (fun y => ∃ k : Nat, k ≤ bl.length ∧ y.1 = bl.take k ∧ y.2.1 = bl ∧ y.2.2.1 = ((bl.length : Nat) : Int) ∧ y.2.2.2.1 = ((k : Nat) : Int) ∧ y.2.2.2.2.2.1 = wr ∧ y.2.2.2.2.2.2.1 = on ∧ y.2.2.2.2.2.2.2.1 = lf) (fun y => (((bl.length : Nat) : Int) - y.2.2.2.1).toNat) ⟨0, by omega, by simp, rfl, rfl, rfl, rfl, rfl, rfl⟩ ?_
  rintro ⟨a, b, c, d, e, f, g, i, j⟩ ⟨k, hk, q1, q2, q3, q4, q5, q6, q7⟩
  dsimp only at q1 q2 q3 q4 q5 q6 q7
  subst q1 q2 q3 q4 q5 q6 q7
  unfold s_l2Own_L1
  dsimp only
  refine Ok.ite (fun hc => ?_) fun hc => ?_
  · have hlt : k < b.length := by simpa using hc
    refine Ok.yes (by simp) ?_
    have hg : b[Int.toNat ((k : Nat) : Int)]? = some b[k] := by simp [hlt]
    have hb := h.b _ (List.getElem_mem hlt)
    have e1 : IntKind.wrap .i64 (((k : Nat) : Int) + 1) = (((k + 1 : Nat)) : Int) := by rw [w64 (by omega) (by omega)]; omega
    refine Ok.bind_eq hg (Ok.yes ?_ (Ok.yes ?_ (Ok.mk ⟨⟨k + 1, by omega, ?_, rfl, rfl, ?_, rfl, rfl, rfl⟩, ?_⟩)))
    · simp only [List.length_nil, roomFor, decide_eq_true_eq]; omega
    · simp only [List.length_take, List.length_singleton, roomFor, decide_eq_true_eq]; omega
    · rw [List.take_succ_eq_append_getElem hlt, List.nil_append]
    · dsimp only; rw [e1]
    · dsimp only; rw [e1]; omega
  · have : k = b.length := by simp at hc; omega
    refine Ok.mk ⟨?_, rfl, rfl, rfl⟩
    dsimp only
    rw [this, List.take_length]

theorem index_eq {bl : Bls} (h : Bd bl) : Ok (slices_IndexFunc_byte_byte_i_areBlocks_1 bl) fun r => (0 ≤ r ↔ ¬ bl.all (fun b => b.length == 128) = true) := by
  have hn := h.n
  unfold slices_IndexFunc_byte_byte_i_areBlocks_1
  refine Ok.bind (Q := fun r => match r with | .inl _ => bl.all (fun b => b.length == 128) = true | .inr i => 0 ≤ i ∧ ¬ bl.all (fun b => b.length == 128) = true) ?_ ?_
  · refine Ok.loop (fun y => ∃ k : Nat, k ≤ bl.length ∧ y = (bl, ((bl.length : Nat) : Int), ((k : Nat) : Int)) ∧ ∀ j (hj : j < bl.length), j < k → bl[j].length = 128) (fun y => (((bl.length : Nat) : Int) - y.2.2).toNat) ⟨0, by omega, rfl, fun _ _ h => absurd h (by omega)⟩ ?_
    rintro _ ⟨k, hk, rfl, hall⟩
    unfold slices_IndexFunc_byte_byte_i_areBlocks_1_L1
    dsimp only
    refine Ok.ite (fun hc => ?_) fun hc => ?_
    · have hlt : k < bl.length := by simpa using hc
      refine Ok.yes (by simp) ?_
      have hg : bl[Int.toNat ((k : Nat) : Int)]? = some bl[k] := by simp [hlt]
      refine Ok.bind_eq hg (Ok.bind_eq rfl (Ok.ite (fun hb => Ok.mk ⟨by omega, ?_⟩) fun hb => ?_))
      · have hb' : ¬ bl[k].length = 128 := by simp at hb; omega
        intro hx
        have := List.all_eq_true.1 hx _ (List.getElem_mem hlt)
        simp at this
        exact hb' this
      · have hb' : bl[k].length = 128 := by simp at hb; omega
        have e1 : IntKind.wrap .i64 (((k : Nat) : Int) + 1) = (((k + 1 : Nat)) : Int) := by rw [w64 (by omega) (by omega)]; omega
        refine Ok.mk ⟨⟨k + 1, by omega, by rw [e1], fun j hj hjk => ?_⟩, ?_⟩
        · by_cases hjk2 : j = k
          · subst hjk2; exact hb'
          · exact hall j hj (by omega)
        · dsimp only; rw [e1]; omega
    · have : k = bl.length := by simp at hc; omega
      refine Ok.mk ?_
      dsimp only
      rw [List.all_eq_true]
      intro x hx
      obtain ⟨j, hj, rfl⟩ := List.getElem_of_mem hx
      simp [hall j hj (by omega)]
  · rintro (u | i) hr
    · refine Ok.mk ?_
      simp only at hr
      simp [hr]
    · refine Ok.mk ?_
      simp only at hr
      simp only [hr.1, true_iff]; exact hr.2

theorem i_good_eq {bl : Bls} (h : Bd bl) (wr : Int) (on : Bool) (lf : Int) : i_GoodDisk bl wr on lf = some (gd bl wr lf) := by
  have hn := h.n
  have hA : i_areBlocks bl = some (decide (40 ≤ bl.length ∧ bl.length ≤ 160) && bl.all (fun b => b.length == 128)) := by
    unfold i_areBlocks
    refine Ok.eq (Ok.bind (Q := fun r => r = _) ?_ (fun r hr => Ok.mk hr))
    refine Ok.bind_eq (i_within_eq _ _ _) ?_
    refine Ok.ite (fun hc => ?_) fun hc => Ok.mk ?_
    · refine Ok.bind (Q := fun r => r = !(bl.all (fun b => b.length == 128))) ?_ (fun r hr => Ok.mk ?_)
      · unfold slices_ContainsFunc_byte_byte_i_areBlocks_1
        refine (index_eq h).bind fun r hr => Ok.mk ?_
        cases ha : bl.all (fun b => b.length == 128) with
        | true => rw [ha] at hr; simpa using hr
        | false => rw [ha] at hr; simpa using hr
      · have hc' : 40 ≤ bl.length ∧ bl.length ≤ 160 := by simp at hc; omega
        rw [hr]; simp [hc']
    · have hc' : ¬ (40 ≤ bl.length ∧ bl.length ≤ 160) := by simp at hc; omega
      simp [hc']
  unfold i_GoodDisk gd
  refine Ok.eq (Ok.bind (Q := fun r => r = _) ?_ (fun r hr => Ok.mk hr))
  refine Ok.bind_eq hA ?_
  refine Ok.ite (fun hc => ?_) fun hc => Ok.mk ?_
  · simp only [Bool.and_eq_true] at hc
    refine Ok.bind_eq (i_within_eq _ _ _) (Ok.ite (fun hw => Ok.bind_eq (i_within_eq _ _ _) (Ok.mk ?_)) fun hw => Ok.mk ?_)
    · simp only [decide_eq_true_eq] at hw
      simp [hc.1, hc.2, hw]
    · simp only [decide_eq_true_eq] at hw
      simp [hw]
  · have : (decide (40 ≤ bl.length ∧ bl.length ≤ 160) && bl.all (fun b => b.length == 128)) = false := by simpa using hc
    rw [← Bool.and_assoc, this, Bool.false_and]

theorem s_good_eq {bl : Bls} (h : Bd bl) (wr : Int) (on : Bool) (lf : Int) : s_GoodDisk bl wr on lf = some (gd bl wr lf) := by
  have hn := h.n
  unfold s_GoodDisk gd
  refine Ok.eq (Ok.bind (Q := fun r => r = (!(decide (40 ≤ bl.length ∧ bl.length ≤ 160) && (decide (0 ≤ wr ∧ wr ≤ 1000000000) && decide (-1 ≤ lf ∧ lf ≤ 1000000))), bl, wr, on, lf)) ?_ ?_)
  · refine Ok.bind_eq (s_In_eq _ _ _) (Ok.ite (fun hc => Ok.mk ?_) fun hc => ?_)
    · have hc' : ¬ (40 ≤ bl.length ∧ bl.length ≤ 160) := by simp at hc; omega
      simp [hc']
    · have hc' : 40 ≤ bl.length ∧ bl.length ≤ 160 := by simp at hc; omega
      refine Ok.bind_eq (s_In_eq _ _ _) (Ok.ite (fun hw => Ok.mk ?_) fun hw => Ok.bind_eq (s_In_eq _ _ _) (Ok.mk ?_))
      · have hw' : ¬ (0 ≤ wr ∧ wr ≤ 1000000000) := by simpa only [Bool.not_eq_true', decide_eq_false_iff_not] using hw
        simp [hw']
      · have hw' : 0 ≤ wr ∧ wr ≤ 1000000000 := by simpa using hw
        simp [hc', hw']
  · rintro _ rfl
    dsimp only
    refine Ok.ite (fun hc => Ok.mk ?_) fun hc => ?_
    · have hc' : (decide (40 ≤ bl.length ∧ bl.length ≤ 160) && (decide (0 ≤ wr ∧ wr ≤ 1000000000) && decide (-1 ≤ lf ∧ lf ≤ 1000000))) = false := by simpa only [Bool.not_not, Bool.not_eq_true', Bool.not_eq_true, Bool.not_eq_false'] using hc
      cases h1 : decide (40 ≤ bl.length ∧ bl.length ≤ 160) with
      | false => simp
      | true => rw [h1, Bool.true_and] at hc'; rw [hc']; simp
    · have hc' : (decide (40 ≤ bl.length ∧ bl.length ≤ 160) && (decide (0 ≤ wr ∧ wr ≤ 1000000000) && decide (-1 ≤ lf ∧ lf ≤ 1000000))) = true := by simpa using hc
      rw [Bool.and_eq_true] at hc'
      rw [hc'.1, hc'.2, Bool.true_and, Bool.and_true]
      refine Ok.bind (Q := fun r => match r with | .inl _ => bl.all (fun b => b.length == 128) = true | .inr i => i = false ∧ ¬ bl.all (fun b => b.length == 128) = true) ?_ ?_
      · refine Ok.loop (fun y => ∃ k : Nat, k ≤ bl.length ∧ y = (bl, ((bl.length : Nat) : Int), ((k : Nat) : Int)) ∧ ∀ j (hj : j < bl.length), j < k → bl[j].length = 128) (fun y => (((bl.length : Nat) : Int) - y.2.2).toNat) ⟨0, by omega, rfl, fun _ _ h => absurd h (by omega)⟩ ?_
        rintro _ ⟨k, hk, rfl, hall⟩
        unfold s_GoodDisk_L1
        dsimp only
        refine Ok.ite (fun hc => ?_) fun hc => ?_
        · have hlt : k < bl.length := by simpa using hc
          refine Ok.yes (by simp) ?_
          have hg : bl[Int.toNat ((k : Nat) : Int)]? = some bl[k] := by simp [hlt]
          refine Ok.bind_eq hg (Ok.ite (fun hb => Ok.mk ⟨rfl, ?_⟩) fun hb => ?_)
          · have hb' : ¬ bl[k].length = 128 := by simp at hb; omega
            intro hx
            have := List.all_eq_true.1 hx _ (List.getElem_mem hlt)
            simp at this
            exact hb' this
          · have hb' : bl[k].length = 128 := by simp at hb; omega
            have e1 : IntKind.wrap .i64 (((k : Nat) : Int) + 1) = (((k + 1 : Nat)) : Int) := by rw [w64 (by omega) (by omega)]; omega
            refine Ok.mk ⟨⟨k + 1, by omega, by rw [e1], fun j hj hjk => ?_⟩, ?_⟩
            · by_cases hjk2 : j = k
              · subst hjk2; exact hb'
              · exact hall j hj (by omega)
            · dsimp only; rw [e1]; omega
        · have : k = bl.length := by simp at hc; omega
          refine Ok.mk ?_
          dsimp only
          rw [List.all_eq_true]
          intro x hx
          obtain ⟨j, hj, rfl⟩ := List.getElem_of_mem hx
          simp [hall j hj (by omega)]
      · rintro (u | i) hr
        · exact Ok.mk hr.symm
        · refine Ok.mk ?_
          simp only at hr
          rw [hr.1]
          simpa using hr.2

theorem same_self {bl : Bls} (h : Bd bl) : l_sameBlocks bl bl = some true := by
  have hn := h.n
  unfold l_sameBlocks
  refine Ok.eq (Ok.no (by simp) (Ok.bind (Q := fun r => r = .inl ()) ?_ (fun r hr => by subst hr; exact Ok.mk rfl)))
  refine Ok.loop (fun y => ∃ k : Nat, k ≤ bl.length ∧ y = (bl, bl, ((bl.length : Nat) : Int), ((k : Nat) : Int))) (fun y => (((bl.length : Nat) : Int) - y.2.2.2).toNat) ⟨0, by omega, rfl⟩ ?_
  rintro _ ⟨k, hk, rfl⟩
  unfold l_sameBlocks_L1
  dsimp only
  refine Ok.ite (fun hc => ?_) fun hc => Ok.mk rfl
  have hlt : k < bl.length := by simpa using hc
  have hg : bl[Int.toNat ((k : Nat) : Int)]? = some bl[k] := by simp [hlt]
  have e1 : IntKind.wrap .i64 (((k : Nat) : Int) + 1) = (((k + 1 : Nat)) : Int) := by rw [w64 (by omega) (by omega)]; omega
  refine Ok.yes (by simp) (Ok.bind_eq hg (Ok.yes (by simp) (Ok.bind_eq hg (Ok.no (by simp) (Ok.mk ⟨⟨k + 1, by omega, by rw [e1]⟩, ?_⟩)))))
  dsimp only; rw [e1]; omega
end Go.V.G

/-
  P20: a block is written; disks are drawn.
-/
set_option linter.unusedVariables false
set_option linter.unusedSimpArgs false
set_option maxRecDepth 100000
namespace Go.V.G
open Go.V
theorem Bd.set {bl : Bls} (h : Bd bl) {x : List Int} (hx : 0 < x.length ∧ x.length ≤ 100000) (i : Nat) : Bd (bl.set i x) :=
  ⟨by rw [List.length_set]; exact h.n, fun y hy => by
    rcases List.mem_or_eq_of_mem_set hy with hy | rfl
    · exact h.b y hy
    · exact hx⟩

def putR (a : Int) (data : List Int) (bl : Bls) (wr : Int) (on : Bool) (lf : Int) : Bool × Dsk :=
  if on = false then (false, bl, wr, on, lf) else if lf = 0 then (false, bl, wr, false, lf) else
    (true, bl.set a.toNat data, IntKind.wrap .i64 (wr + 1), on, if 0 < lf then IntKind.wrap .i64 (lf - 1) else lf)
theorem s_put_eq {a : Int} {data : List Int} {bl : Bls} (hd : data.length ≤ 100000) (h0 : 0 ≤ a) (h1 : a < bl.length) (wr : Int) (on : Bool) (lf : Int) : s_l2Put_o a data bl wr on lf = some (putR a data bl wr on lf) := by
  unfold s_l2Put_o putR
  have hg : bl[Int.toNat a]? = some bl[a.toNat] := List.getElem?_eq_getElem (by omega)
  have hr : roomFor (List.length ([] : List Int) + List.length data) 1 = true := by simp only [List.length_nil, roomFor, decide_eq_true_eq]; omega
  cases on with
  | false => simp
  | true =>
    by_cases hl : lf = 0
    · simp [hl]
    · by_cases hp : 0 < lf
      · simp only [Bool.not_true, Bool.false_eq_true, if_false, hl, decide_false, hp, decide_true, if_true, Option.bind_some, hr, h0, h1, hg, reduceCtorEq, List.nil_append, Nat.zero_add]
      · simp only [Bool.not_true, Bool.false_eq_true, if_false, hl, decide_false, hp, if_true, Option.bind_some, hr, h0, h1, hg, decide_true, reduceCtorEq, List.nil_append, Nat.zero_add]
theorem i_put_eq {a : Int} {data : List Int} {bl : Bls} (hd : 0 < data.length ∧ data.length ≤ 100000) (h0 : 0 ≤ a) (h1 : a < bl.length) (wr : Int) (lf : Int) : i_Disk_write_o a data bl wr true lf = some (putR a data bl wr true lf) := by
  unfold i_Disk_write_o putR
  have hg : bl[Int.toNat a]? = some bl[a.toNat] := List.getElem?_eq_getElem (by omega)
  by_cases hl : lf = 0
  · simp [hl]
  · by_cases hp : 0 < lf
    · simp only [Bool.false_eq_true, if_false, hl, decide_false, hp, decide_true, if_true, Option.bind_some, clone_eq hd, h0, h1, hg, reduceCtorEq, Nat.zero_add]
    · simp only [Bool.false_eq_true, if_false, hl, decide_false, hp, if_true, Option.bind_some, clone_eq hd, h0, h1, hg, decide_true, reduceCtorEq, Nat.zero_add]

/-- what writing a block answers -/
def wbR (bl : Bls) (wr : Int) (on : Bool) (lf : Int) (a : Int) (data : List Int) : Int × Dsk :=
  if gd bl wr lf = false ∨ wr = 1000000000 ∨ ¬ data.length = 128 then (1, [], 0, false, 0) else if on = false then (2, bl, wr, on, lf) else
  if ¬ (0 ≤ a ∧ a < bl.length) then (3, bl, wr, on, lf) else
    (if (putR a data bl wr on lf).1 then 0 else 2, (putR a data bl wr on lf).2)

theorem has_eq {bl : Bls} (h : Bd bl) (wr : Int) (on : Bool) (lf a : Int) : i_Disk_has bl wr on lf a = some (decide (0 ≤ a ∧ a < bl.length)) := by
  have hn := h.n
  unfold i_Disk_has
  rw [w64 (by omega) (by omega), i_within_eq]
  refine congrArg some ?_
  by_cases h0 : 0 ≤ a ∧ a < bl.length
  · have : 0 ≤ a ∧ a ≤ ((bl.length : Nat) : Int) - 1 := by omega
    simp only [this, h0, decide_true, and_self]
  · have : ¬ (0 ≤ a ∧ a ≤ ((bl.length : Nat) : Int) - 1) := by omega
    rw [decide_eq_false this, decide_eq_false h0]

theorem copied_eq {bl : Bls} (h : Bd bl) (wr : Int) (on : Bool) (lf : Int) : i_Disk_copied bl wr on lf = some (bl, wr, on, lf) := by
  unfold i_Disk_copied
  rw [copyBlocks_eq h]; rfl

theorem i_wb_eq {bl : Bls} (h : Bd bl) (wr : Int) (on : Bool) (lf a : Int) {data : List Int} (hd : 0 < data.length ∧ data.length ≤ 100000) : i_WriteBlock bl wr on lf a data = some (wbR bl wr on lf a data) := by
  unfold i_WriteBlock
  refine Ok.eq (Ok.bind (Q := fun v => v = (a, data, decide (gd bl wr lf = false ∨ wr = 1000000000 ∨ ¬ data.length = 128), bl, wr, on, lf, 0, false, 0)) ?_ ?_)
  · refine Ok.bind_eq (i_good_eq h wr on lf) (Ok.ite (fun hc => Ok.mk ?_) fun hc => Ok.ite (fun hw => Ok.mk ?_) fun hw => Ok.mk ?_)
    · have : gd bl wr lf = false := by simpa using hc
      simp [this]
    · have : wr = 1000000000 := by simpa using hw
      simp [this]
    · have h1 : gd bl wr lf = true := by simpa using hc
      have h2 : ¬ wr = 1000000000 := by simpa using hw
      have : (¬ (((data.length : Nat) : Int) = 128)) ↔ ¬ data.length = 128 := by omega
      simp [h1, h2, this]
  rintro _ rfl
  dsimp only
  refine Ok.ite (fun hc => Ok.mk ?_) fun hc => ?_
  · unfold wbR; rw [if_pos (of_decide_eq_true hc)]
  have hb : ¬ (gd bl wr lf = false ∨ wr = 1000000000 ∨ ¬ data.length = 128) := fun hx => hc (decide_eq_true hx)
  refine Ok.ite (fun ho => ?_) fun ho => ?_
  · have ho' : on = false := by simpa using ho
    exact Ok.bind_eq (copied_eq h wr on lf) (Ok.mk (by unfold wbR; rw [if_neg hb, if_pos ho']))
  have ho' : on = true := by simpa using ho
  subst ho'
  refine Ok.bind_eq (has_eq h wr true lf a) (Ok.ite (fun hh => ?_) fun hh => ?_)
  · have hh' : ¬ (0 ≤ a ∧ a < bl.length) := by simpa only [Bool.not_eq_true', decide_eq_false_iff_not] using hh
    exact Ok.bind_eq (copied_eq h wr true lf) (Ok.mk (by unfold wbR; rw [if_neg hb, if_neg (by simp), if_pos hh']))
  · have hh' : 0 ≤ a ∧ a < bl.length := by simpa only [Bool.not_eq_true', decide_eq_false_iff_not, Decidable.not_not] using hh
    have hw : wbR bl wr true lf a data = (if (putR a data bl wr true lf).1 then 0 else 2, (putR a data bl wr true lf).2) := by unfold wbR; rw [if_neg hb, if_neg (by simp), if_neg (by simpa using hh')]
    rw [hw]
    refine Ok.bind_eq (copied_eq h wr true lf) (Ok.bind_eq (i_put_eq hd hh'.1 hh'.2 wr lf) (Ok.ite (fun hp => Ok.mk ?_) fun hp => Ok.mk ?_))
    · have : (putR a data bl wr true lf).1 = false := by simpa using hp
      simp [this]
    · have : (putR a data bl wr true lf).1 = true := by simpa using hp
      simp [this]

theorem s_wb_eq {bl : Bls} (h : Bd bl) (wr : Int) (on : Bool) (lf a : Int) {data : List Int} (hd : 0 < data.length ∧ data.length ≤ 100000) : s_WriteBlock bl wr on lf a data = some (wbR bl wr on lf a data) := by
  have hn := h.n
  unfold s_WriteBlock
  refine Ok.eq (Ok.bind (Q := fun v => v = (a, data, decide (gd bl wr lf = false ∨ wr = 1000000000 ∨ ¬ data.length = 128), bl, wr, on, lf, 0, false, 0)) ?_ ?_)
  · refine Ok.bind_eq (s_good_eq h wr on lf) (Ok.ite (fun hc => Ok.mk ?_) fun hc => Ok.ite (fun hw => Ok.mk ?_) fun hw => Ok.mk ?_)
    · have : gd bl wr lf = false := by simpa using hc
      simp [this]
    · have : wr = 1000000000 := by simpa using hw
      simp [this]
    · have h1 : gd bl wr lf = true := by simpa using hc
      have h2 : ¬ wr = 1000000000 := by simpa using hw
      have : (¬ (((data.length : Nat) : Int) = 128)) ↔ ¬ data.length = 128 := by omega
      simp [h1, h2, this]
  rintro _ rfl
  dsimp only
  refine Ok.ite (fun hc => Ok.mk ?_) fun hc => ?_
  · unfold wbR; rw [if_pos (of_decide_eq_true hc)]
  have hb : ¬ (gd bl wr lf = false ∨ wr = 1000000000 ∨ ¬ data.length = 128) := fun hx => hc (decide_eq_true hx)
  refine Ok.bind_eq (own_eq h wr on lf) (Ok.ite (fun ho => ?_) fun ho => ?_)
  · have ho' : on = false := by simpa using ho
    exact Ok.mk (by unfold wbR; rw [if_neg hb, if_pos ho'])
  have ho' : on = true := by simpa using ho
  subst ho'
  dsimp only
  rw [w64 (by omega) (by omega)]
  refine Ok.bind_eq (s_In_eq _ _ _) (Ok.ite (fun hh => ?_) fun hh => ?_)
  · have hh' : ¬ (0 ≤ a ∧ a < bl.length) := by
      have : ¬ (0 ≤ a ∧ a ≤ ((bl.length : Nat) : Int) - 1) := by simpa only [Bool.not_eq_true', decide_eq_false_iff_not] using hh
      omega
    exact Ok.mk (by unfold wbR; rw [if_neg hb, if_neg (by simp), if_pos hh'])
  · have hh' : 0 ≤ a ∧ a < bl.length := by
      have : 0 ≤ a ∧ a ≤ ((bl.length : Nat) : Int) - 1 := by simpa only [Bool.not_eq_true', decide_eq_false_iff_not, Decidable.not_not] using hh
      omega
    have hw : wbR bl wr true lf a data = (if (putR a data bl wr true lf).1 then 0 else 2, (putR a data bl wr true lf).2) := by unfold wbR; rw [if_neg hb, if_neg (by simp), if_neg (by simpa using hh')]
    rw [hw]
    refine Ok.bind_eq (s_put_eq hd.2 hh'.1 hh'.2 wr true lf) (Ok.ite (fun hp => Ok.mk ?_) fun hp => Ok.mk ?_)
    · have : (putR a data bl wr true lf).1 = false := by simpa using hp
      simp [this]
    · have : (putR a data bl wr true lf).1 = true := by simpa using hp
      simp [this]

/-! ### draws -/
theorem block_ok {code : List Int} {a s : Int} (h : At code 14 a) : Ok (s_l1Cur_block_f code a s) fun r => r.1.length = 128 ∧ To code a 14 r.2.1 r.2.2.1 := by
  unfold s_l1Cur_block_f
  refine Ok.yes (by decide) (Ok.yes (by decide) (Ok.yes (by decide) ((pick_ok (h.less (by omega))).bind ?_)))
  rintro ⟨n, c, a1, s1⟩ ⟨⟨h0, h1⟩, t⟩
  dsimp only at h0 h1 t ⊢
  have hn : n ≤ 4 := by omega
  refine Ok.bind (Q := fun r => r.1.length = 128 ∧ To code a 14 r.2.1 r.2.2.1) ?_ (fun r hr => Ok.mk hr)
  refine Ok.loop (fun y => y.1.length = 128 ∧ 0 ≤ y.2.1 ∧ y.2.1 ≤ 4 ∧ To code a (14 - 3 * y.2.1) y.2.2.1 y.2.2.2.1) (fun y => y.2.1.toNat) ⟨by simp, h0, hn, t.more (by dsimp only; omega)⟩ ?_
  rintro ⟨l, k, c2, a2, s2⟩ ⟨q1, q2, q3, q4⟩
  dsimp only at q1 q2 q3 q4
  unfold s_l1Cur_block_f_L1
  refine Ok.ite (fun hc => ?_) fun hc => Ok.mk ⟨q1, q4.more (by omega)⟩
  have hk : 0 < k := by simpa using hc
  refine (pick_ok (q4.at (j := 2) (h.less (by omega)))).bind ?_
  rintro ⟨i, c3, a3, s3⟩ ⟨⟨i0, i1⟩, t3⟩
  dsimp only at i0 i1 t3 ⊢
  have t4 := q4.trans t3
  refine (next_ok (t4.at (j := 1) (h.less (by omega)))).bind ?_
  rintro ⟨b, c4, a4, s4⟩ ⟨hb, t5⟩
  dsimp only at hb t5 ⊢
  have hi : i.toNat < l.length := by omega
  have hg : l[0 + Int.toNat i]? = some l[i.toNat] := by rw [Nat.zero_add]; exact List.getElem?_eq_getElem hi
  have e : IntKind.wrap .i64 (k - 1) = k - 1 := w64 (by omega) (by omega)
  refine Ok.yes (by simpa using i0) (Ok.yes (by simp; omega) (Ok.bind_eq hg (Ok.bind_eq hg (Ok.mk ⟨⟨by simp [q1], ?_, ?_, ?_⟩, ?_⟩))))
  · dsimp only; rw [e]; omega
  · dsimp only; rw [e]; omega
  · dsimp only; rw [e]; exact (t4.trans t5).more (by omega)
  · dsimp only; rw [e]; omega
end Go.V.G

/-
  P21: disks and places are drawn.
-/
set_option linter.unusedVariables false
set_option linter.unusedSimpArgs false
set_option maxRecDepth 100000
namespace Go.V.G
open Go.V
theorem newDisk_ok {m : Int} (h0 : 40 ≤ m) (h1 : m ≤ 160) : Ok (s_NewDisk m) fun r => (r.2.1.length : Int) = m ∧ (∀ x ∈ r.2.1, x.length = 128) := by
  unfold s_NewDisk
  refine Ok.bind_eq (s_In_eq _ _ _) (Ok.no (by simp [h0, h1]) ?_)
  refine Ok.bind (Q := fun r => (r.2.2.2.1.length : Int) = m ∧ (∀ x ∈ r.2.2.2.1, x.length = 128)) ?_ (fun r hr => Ok.mk hr)
  refine Ok.loop (fun y => 0 ≤ y.1 ∧ y.1 + (y.2.2.2.2.1.length : Int) = m ∧ ∀ x ∈ y.2.2.2.2.1, x.length = 128) (fun y => y.1.toNat) ⟨by dsimp only; omega, by simp, by simp⟩ ?_
  rintro ⟨n, a, b, c, bl, d, e, f⟩ ⟨q1, q2, q3⟩
  dsimp only at q1 q2 q3
  unfold s_NewDisk_L1
  refine Ok.ite (fun hc => ?_) fun hc => Ok.mk ⟨?_, q3⟩
  · have hn : 0 < n := by simpa using hc
    have e1 : IntKind.wrap .i64 (n - 1) = n - 1 := w64 (by omega) (by omega)
    refine Ok.yes (by decide) (Ok.yes (by decide) (Ok.yes (by decide) (Ok.yes ?_ (Ok.mk ⟨⟨?_, ?_, ?_⟩, ?_⟩))))
    · simp only [List.length_singleton, roomFor, decide_eq_true_eq]; omega
    · dsimp only; rw [e1]; omega
    · dsimp only; rw [e1, List.length_append, List.length_singleton]; omega
    · intro x hx
      rcases List.mem_append.1 hx with hx | hx
      · exact q3 x hx
      · rw [List.mem_singleton.1 hx]; simp
    · dsimp only; rw [e1]; omega
  · have hn : n = 0 := by simp at hc; omega
    dsimp only
    omega

theorem disk_ok {code : List Int} {a s : Int} (h : At code 100 a) : Ok (s_l1Cur_disk_f code a s) fun r => Bd r.1 ∧ r.1.length ≤ 160 ∧ To code a 100 r.2.2.2.2.1 r.2.2.2.2.2.1 := by
  unfold s_l1Cur_disk_f
  refine (pick_ok (h.less (by omega))).bind ?_
  rintro ⟨n, c1, a1, s1⟩ ⟨⟨n0, n1⟩, t1⟩
  dsimp only at n0 n1 t1 ⊢
  rw [w64 (by omega) (by omega)]
  refine (newDisk_ok (by omega) (by omega)).bind ?_
  rintro ⟨k, bl, wr, on, lf⟩ ⟨b1, b2⟩
  dsimp only at b1 b2 ⊢
  refine (pick_ok (t1.at (j := 2) (h.less (by omega)))).bind ?_
  rintro ⟨m, c2, a2, s2⟩ ⟨⟨m0, m1⟩, t2⟩
  dsimp only at m0 m1 t2 ⊢
  have t2' := t1.trans t2
  have hm : m ≤ 3 := by omega
  refine Ok.bind (Q := fun r => ((40 : Int) ≤ (r.2.2.2.1.length : Int) ∧ (r.2.2.2.1.length : Int) ≤ 160) ∧ (∀ x ∈ r.2.2.2.1, x.length = 128) ∧ To code a 52 r.2.2.2.2.2.2.2.1 r.2.2.2.2.2.2.2.2.1) ?_ ?_
  · refine Ok.loop (fun y => (0 ≤ y.1 ∧ y.1 ≤ 3) ∧ ((40 : Int) ≤ (y.2.2.2.2.1.length : Int) ∧ (y.2.2.2.2.1.length : Int) ≤ 160) ∧ (∀ x ∈ y.2.2.2.2.1, x.length = 128) ∧ To code a (52 - 16 * y.1) y.2.2.2.2.2.2.2.2.1 y.2.2.2.2.2.2.2.2.2.1) (fun y => y.1.toNat) ⟨⟨m0, hm⟩, ⟨by dsimp only; omega, by dsimp only; omega⟩, b2, t2'.more (by dsimp only; omega)⟩ ?_
    rintro ⟨k, x1, x2, x3, bl, wr, on, lf, c3, a3, s3⟩ ⟨q1, q2, q3, q4⟩
    dsimp only at q1 q2 q3 q4
    unfold s_l1Cur_disk_f_L1
    refine Ok.ite (fun hc => ?_) fun hc => Ok.mk ⟨q2, q3, q4.more (by omega)⟩
    have hk : 0 < k := by simpa using hc
    refine (pick_ok (q4.at (j := 2) (h.less (by omega)))).bind ?_
    rintro ⟨i, c4, a4, s4⟩ ⟨⟨i0, i1⟩, t4⟩
    dsimp only at i0 i1 t4 ⊢
    have t4' := q4.trans t4
    refine (block_ok (t4'.at (j := 14) (h.less (by omega)))).bind ?_
    rintro ⟨dt, c5, a5, s5⟩ ⟨d1, t5⟩
    dsimp only at d1 t5 ⊢
    have t5' := t4'.trans t5
    have e1 : IntKind.wrap .i64 (k - 1) = k - 1 := w64 (by omega) (by omega)
    refine Ok.bind_eq (s_put_eq (by omega) i0 (by omega) wr on lf) (Ok.mk ?_)
    have hput : (putR i dt bl wr on lf).2.1 = bl ∨ (putR i dt bl wr on lf).2.1 = bl.set i.toNat dt := by
      unfold putR
      split
      · exact .inl rfl
      · split
        · exact .inl rfl
        · exact .inr rfl
    refine ⟨⟨⟨by dsimp only; rw [e1]; omega, by dsimp only; rw [e1]; omega⟩, ?_, ?_, ?_⟩, ?_⟩
    · dsimp only
      rcases hput with h | h <;> rw [h]
      · exact q2
      · rw [List.length_set]; exact q2
    · dsimp only
      rcases hput with h | h <;> rw [h]
      · exact q3
      · intro x hx
        rcases List.mem_or_eq_of_mem_set hx with hx | rfl
        · exact q3 x hx
        · exact d1
    · dsimp only; rw [e1]; exact t5'.more (by omega)
    · dsimp only; rw [e1]; omega
  rintro ⟨x1, x2, x3, bl, wr, on, lf, c3, a3, s3⟩ ⟨q2, q3, t3⟩
  dsimp only at q2 q3 t3 ⊢
  refine (one_ok (t3.at (j := 2) (h.less (by omega)))).bind ?_
  rintro ⟨o, c4, a4, s4⟩ t4
  dsimp only at t4 ⊢
  have t4' := t3.trans t4
  refine Ok.bind (Q := fun r => r.2.2.2.1 = bl ∧ To code a 56 r.2.2.2.2.2.2.2.1 r.2.2.2.2.2.2.2.2.1) ?_ ?_
  · refine Ok.ite (fun _ => ?_) fun _ => Ok.mk ⟨rfl, t4'.more (by omega)⟩
    refine (pick_ok (t4'.at (j := 2) (h.less (by omega)))).bind ?_
    rintro ⟨i, c5, a5, s5⟩ ⟨_, t5⟩
    exact Ok.mk ⟨rfl, t4'.trans t5⟩
  rintro ⟨y1, y2, y3, bl', wr', on', lf', c5, a5, s5⟩ ⟨e5, t5⟩
  dsimp only at e5 t5 ⊢
  subst e5
  refine (pick_ok (t5.at (j := 2) (h.less (by omega)))).bind ?_
  rintro ⟨i, c6, a6, s6⟩ ⟨_, t6⟩
  dsimp only at t6 ⊢
  have t6' := t5.trans t6
  have hB : Bd bl' := ⟨by omega, fun x hx => by rw [q3 x hx]; omega⟩
  have hG : ∀ {o : Option (Int × (Bool × (Int × (Bls × (Int × (Bool × (Int × (List Int × (Int × Int)))))))))}, Ok o (fun r => (Bd r.2.2.2.1 ∧ r.2.2.2.1.length ≤ 160) ∧ To code a 60 r.2.2.2.2.2.2.2.1 r.2.2.2.2.2.2.2.2.1) →
      Ok (Option.bind o fun v => some (v.1, v.2.1, v.2.2.1, v.2.2.2.1, v.2.2.2.2.1, v.2.2.2.2.2.1, v.2.2.2.2.2.2.1, v.2.2.2.2.2.2.2.1, v.2.2.2.2.2.2.2.2.1, v.2.2.2.2.2.2.2.2.2)) (fun r => (Bd r.2.2.2.1 ∧ r.2.2.2.1.length ≤ 160) ∧ To code a 60 r.2.2.2.2.2.2.2.1 r.2.2.2.2.2.2.2.2.1) := fun ho => ho.bind fun r hr => Ok.mk hr
  refine Ok.bind (Q := fun r => (Bd r.2.2.2.1 ∧ r.2.2.2.1.length ≤ 160) ∧ To code a 60 r.2.2.2.2.2.2.2.1 r.2.2.2.2.2.2.2.2.1) ?_ ?_
  · refine Ok.ite (fun _ => Ok.mk ⟨⟨hB, by dsimp only; omega⟩, t6'.more (by omega)⟩) fun _ => hG (Ok.ite (fun _ => ?_) fun _ => hG (Ok.ite (fun _ => ?_) fun _ => hG (Ok.ite (fun _ => ?_) fun _ => hG (Ok.ite (fun _ => ?_) fun _ => Ok.mk ⟨⟨hB, by dsimp only; omega⟩, t6'.more (by omega)⟩))))
    · refine (among_ok (t6'.at (j := 2) (h.less (by omega))) (by simp)).bind ?_
      rintro ⟨x, c7, a7, s7⟩ ⟨_, t7⟩
      exact Ok.mk ⟨⟨hB, by dsimp only; omega⟩, t6'.trans t7⟩
    · refine (among_ok (t6'.at (j := 2) (h.less (by omega))) (by simp)).bind ?_
      rintro ⟨x, c7, a7, s7⟩ ⟨_, t7⟩
      exact Ok.mk ⟨⟨hB, by dsimp only; omega⟩, t6'.trans t7⟩
    · have h3 : 3 < bl'.length := by omega
      have hg : bl'[0 + Int.toNat 3]? = some bl'[3] := List.getElem?_eq_getElem h3
      have hl := q3 _ (List.getElem_mem h3)
      refine Ok.yes (by decide) (Ok.yes (by simp; omega) (Ok.bind_eq hg (Ok.bind_eq hg (Ok.yes (by decide) (Ok.yes (by decide) (Ok.yes (by simp [hl]) (Ok.yes (by simp) (Ok.yes (by decide) (Ok.yes (by simp; omega) (Ok.bind_eq hg (Ok.bind_eq hg (Ok.mk ⟨⟨?_, ?_⟩, t6'.more (by omega)⟩))))))))))))
      · exact hB.set (by simp [hl]) _
      · dsimp only; rw [List.length_set]; omega
    · refine Ok.yes (by decide) (Ok.yes (by decide) (Ok.yes (by simp; omega) (Ok.yes (by simp) (Ok.mk ⟨⟨?_, ?_⟩, t6'.more (by omega)⟩))))
      · refine ⟨by dsimp only; simp; omega, fun x hx => hB.b x ?_⟩
        exact List.mem_of_mem_drop (List.mem_of_mem_take hx)
      · dsimp only; simp; omega
  rintro ⟨z1, z2, z3, bl2, wr2, on2, lf2, c7, a7, s7⟩ ⟨⟨z4, z5⟩, t7⟩
  exact Ok.mk ⟨z4, z5, t7.more (by omega)⟩

theorem drawWrite_ok {code : List Int} (hb : Bytes code) : Ok (s_DrawWriteBlock code) fun r => (0 < r.2.1.length ∧ r.2.1.length ≤ 100000) ∧ Bd r.2.2.1 ∧ r.2.2.1.length ≤ 160 := by
  have h : At code 200 0 := ⟨hb, by omega, by omega⟩
  unfold s_DrawWriteBlock
  refine (disk_ok (h.less (by omega))).bind ?_
  rintro ⟨bl, wr, on, lf, c1, a1, s1⟩ ⟨b1, b2, t1⟩
  dsimp only at b1 b2 t1 ⊢
  refine (block_ok (t1.at (j := 14) (h.less (by omega)))).bind ?_
  rintro ⟨d, c2, a2, s2⟩ ⟨d1, t2⟩
  dsimp only at d1 t2 ⊢
  have t2' := t1.trans t2
  refine (one_ok (t2'.at (j := 2) (h.less (by omega)))).bind ?_
  rintro ⟨o, c3, a3, s3⟩ t3
  dsimp only at t3 ⊢
  have t3' := t2'.trans t3
  refine Ok.bind (Q := fun r => (0 < r.1.length ∧ r.1.length ≤ 100000) ∧ r.2.2.2.2.1 = bl ∧ To code 0 116 r.2.2.2.2.2.2.2.2.1 r.2.2.2.2.2.2.2.2.2.1) ?_ ?_
  · refine Ok.ite (fun _ => ?_) fun _ => Ok.mk ⟨by dsimp only; omega, rfl, t3'⟩
    refine Ok.yes (by decide) (Ok.yes (by decide) (Ok.yes (by simp; omega) (Ok.yes (by simp) (Ok.mk ⟨?_, rfl, t3'⟩))))
    simp [d1]
  rintro ⟨d', x1, x2, x3, bl', wr', on', lf', c4, a4, s4⟩ ⟨q1, q2, t4⟩
  dsimp only at q1 q2 t4 ⊢
  subst q2
  refine Ok.bind (Q := fun r => r.1 = bl') ?_ ?_
  · unfold s_l1Cur_place_l_f
    refine (one_ok (t4.at (j := 2) (h.less (by omega)))).bind ?_
    rintro ⟨o2, c5, a5, s5⟩ t5
    dsimp only at t5 ⊢
    have t5' := t4.trans t5
    refine Ok.ite (fun _ => ?_) fun _ => ?_
    · exact (among_ok (t5'.at (j := 2) (h.less (by omega))) (by simp)).bind fun r _ => Ok.mk rfl
    · exact (pick_ok (t5'.at (j := 2) (h.less (by omega)))).bind fun r _ => Ok.mk rfl
  rintro ⟨e1, e2⟩ he
  dsimp only at he
  subst he
  exact Ok.mk ⟨q1, b1, b2⟩
end Go.V.G
