import Derived.Test.YtijemcbcchnnjaaQTrA
set_option linter.unusedVariables false
set_option linter.unusedSimpArgs false
set_option maxRecDepth 100000
namespace Go.V.G
open Go.V
def Ris (l : List Int) : Prop := ∀ i j (hi : i < l.length) (hj : j < l.length), i < j → l[i] < l[j]
theorem ris_of {n : Nat} {bits l : List Int} (h : upB n bits l = true) : Ris l ∧ ∀ i (hi : i < l.length), 33 ≤ l[i] ∧ l[i] ≤ (n : Int) - 1 ∧ bit bits l[i].toNat = true := by
  have hg : ∀ i (hi : i < l.length), (33 ≤ l[i] ∧ l[i] ≤ (n : Int) - 1) ∧ bit bits l[i].toNat = true ∧ (0 < i → l[i - 1]?.getD 0 < l[i]) := fun i hi => by
    have := all_range.1 h i hi
    unfold upG at this
    rw [List.getElem?_eq_getElem hi, Option.getD_some] at this
    simp only [Bool.and_eq_true, decide_eq_true_eq] at this
    exact this
  refine ⟨fun i j hi hj hij => ?_, fun i hi => ⟨(hg i hi).1.1, (hg i hi).1.2, (hg i hi).2.1⟩⟩
  induction j with
  | zero => omega
  | succ j ih =>
    have h1 := (hg (j + 1) hj).2.2 (by omega)
    rw [show j + 1 - 1 = j from rfl, List.getElem?_eq_getElem (by omega), Option.getD_some] at h1
    by_cases hjj : i = j
    · subst hjj; exact h1
    · have := ih (by omega) (by omega)
      omega
structure Spot (l : List Int) (n : Int) (k : Nat) : Prop where
  le : k ≤ l.length
  lo : ∀ j (h : j < l.length), j < k → l[j] < n
  hi : ∀ j (h : j < l.length), k ≤ j → n ≤ l[j]
theorem Spot.one {l : List Int} {n : Int} {k m : Nat} (h : Spot l n k) (h' : Spot l n m) : k = m := by
  rcases Nat.lt_trichotomy k m with hl | hl | hl
  · have h1 := h.hi k (by have := h'.le; omega) (Nat.le_refl _)
    have h2 := h'.lo k (by have := h'.le; omega) hl
    omega
  · exact hl
  · have h1 := h'.hi m (by have := h.le; omega) (Nat.le_refl _)
    have h2 := h.lo m (by have := h.le; omega) hl
    omega
def putI (l : List Int) (n : Int) (k : Nat) : List Int := if l[k]? = some n then l else l.take k ++ ([n] ++ l.drop k)
theorem s_put_eq' {l : List Int} (hl : l.length ≤ 1048576) (hr : Ris l) (n : Int) : ∃ k, Spot l n k ∧ s_l5Put l n = some (putI l n k) := by
  unfold s_l5Put
  have hloop : Ok (loopG s_l5Put_L1 (l, n, 0)) fun v => ∃ k : Nat, Spot l n k ∧ v = (l, n, ((k : Nat) : Int)) := by
    refine Ok.loop (fun y => ∃ k : Nat, k ≤ l.length ∧ (∀ j (h : j < l.length), j < k → l[j] < n) ∧ y = (l, n, ((k : Nat) : Int))) (fun y => (((l.length : Nat) : Int) - y.2.2).toNat) ⟨0, by omega, fun j h hj => absurd hj (by omega), rfl⟩ ?_
    rintro _ ⟨k, hk, hlo, rfl⟩
    unfold s_l5Put_L1
    dsimp only
    by_cases hlt : k < l.length
    · rw [if_pos (by simp; omega), if_pos (by simp), if_pos (by simp; omega), Nat.zero_add, Int.toNat_natCast, List.getElem?_eq_getElem hlt, Option.bind_some, Option.bind_some]
      dsimp only
      by_cases hc : l[k] < n
      · rw [if_pos (by simpa using hc), ix64 (by omega)]
        refine Ok.mk ⟨⟨k + 1, by omega, fun j h hj => ?_, rfl⟩, by dsimp only; omega⟩
        by_cases hjk : j = k
        · subst hjk; exact hc
        · exact hlo j h (by omega)
      · rw [if_neg (by simpa using hc)]
        refine Ok.mk ⟨k, ⟨hk, hlo, fun j h hj => ?_⟩, rfl⟩
        by_cases hjk : j = k
        · subst hjk; omega
        · have := hr k j hlt h (by omega); omega
    · rw [if_neg (by simp; omega), Option.bind_some]
      exact Ok.mk ⟨k, ⟨hk, hlo, fun j h hj => absurd h (by omega)⟩, rfl⟩
  obtain ⟨v, hv, k, hs, rfl⟩ := hloop
  refine ⟨k, hs, ?_⟩
  have hk := hs.le
  rw [hv, Option.bind_some]
  dsimp only
  have ins : ∀ (c : Bool), c = false → (if c = true then some l else
      if (decide ((0 : Int) ≤ 0)) = true then
      if (decide ((0 : Int) ≤ ((k : Nat) : Int))) = true then
      if (decide ((((k : Nat) : Int) : Int) ≤ ((List.length l : Nat) : Int))) = true then
      if (decide ((((List.length l : Nat) : Int) : Int) ≤ ((List.length l : Nat) : Int))) = true then
      if (roomFor (List.length ([] : List Int) + List.length ((l.drop (Int.toNat 0)).take (Int.toNat ((k : Nat) : Int) - Int.toNat 0))) 8) = true then
      if (roomFor (List.length (([] : List Int) ++ ((l.drop (Int.toNat 0)).take (Int.toNat ((k : Nat) : Int) - Int.toNat 0))) + List.length ([n] : List Int)) 8) = true then
      if (decide ((0 : Int) ≤ ((k : Nat) : Int))) = true then
      if (decide ((((k : Nat) : Int) : Int) ≤ ((List.length l : Nat) : Int))) = true then
      if (decide ((((List.length l : Nat) : Int) : Int) ≤ ((List.length l : Nat) : Int))) = true then
      if (decide ((((List.length l : Nat) : Int) : Int) ≤ ((List.length l : Nat) : Int))) = true then
      if (roomFor (List.length ((([] : List Int) ++ ((l.drop (Int.toNat 0)).take (Int.toNat ((k : Nat) : Int) - Int.toNat 0))) ++ ([n] : List Int)) + List.length ((l.drop (Int.toNat ((k : Nat) : Int))).take (Int.toNat ((List.length l : Nat) : Int) - Int.toNat ((k : Nat) : Int)))) 8) = true then
      some (((([] : List Int) ++ ((l.drop (Int.toNat 0)).take (Int.toNat ((k : Nat) : Int) - Int.toNat 0))) ++ ([n] : List Int)) ++ ((l.drop (Int.toNat ((k : Nat) : Int))).take (Int.toNat ((List.length l : Nat) : Int) - Int.toNat ((k : Nat) : Int))))
      else none else none else none else none else none else none else none else none else none else none else none) = some (l.take k ++ ([n] ++ l.drop k)) := by
    rintro c rfl
    have r1 : ∀ m : Nat, m ≤ 1048577 → roomFor m 8 = true := fun m hm => by simp only [roomFor, decide_eq_true_eq]; omega
    rw [if_neg (by simp), if_pos (by simp), if_pos (by simp), if_pos (by simp; omega), if_pos (by simp), if_pos (r1 _ (by simp; omega)), if_pos (r1 _ (by simp; omega)), if_pos (by simp), if_pos (by simp; omega), if_pos (by simp), if_pos (by simp), if_pos (r1 _ (by simp; omega))]
    refine congrArg some ?_
    simp only [Int.toNat_natCast, List.nil_append, List.append_assoc]
    rw [show Int.toNat 0 = 0 from rfl, List.drop_zero, Nat.sub_zero, List.take_of_length_le (l := l.drop k) (by simp)]
  unfold putI
  by_cases hlt : k < l.length
  · rw [if_pos (by simp; omega), if_pos (by simp), if_pos (by simp; omega), Nat.zero_add, Int.toNat_natCast, List.getElem?_eq_getElem hlt, Option.bind_some, Option.bind_some]
    dsimp only
    by_cases hc : l[k] = n
    · rw [if_pos (by simpa using hc), if_pos (by rw [hc])]
    · rw [if_neg (show ¬ (some l[k] = some n) by simpa using hc)]
      exact ins _ (by simpa using hc)
  · rw [if_neg (by simp; omega), Option.bind_some, if_neg (show ¬ (l[k]? = some n) by rw [List.getElem?_eq_none (by omega)]; simp)]
    exact ins false rfl
theorem less_eq (a b : Int) : cmp_Less_int a b = some (decide (a < b)) := by
  unfold cmp_Less_int cmp_isNaN_int; simp
theorem bsi_eq {l : List Int} (hl : l.length ≤ 1048576) (hr : Ris l) (n : Int) : ∃ k, Spot l n k ∧ slices_BinarySearch_int_int l n = some (((k : Nat) : Int), decide (l[k]? = some n)) := by
  unfold slices_BinarySearch_int_int
  have hloop : Ok (loopG slices_BinarySearch_int_int_L1 (l, n, ((l.length : Nat) : Int), 0, ((l.length : Nat) : Int))) (fun r => ∃ k, Spot l n k ∧ r = (l, n, ((l.length : Nat) : Int), ((k : Nat) : Int))) := by
    refine Ok.loop (fun y => ∃ a b : Nat, a ≤ b ∧ b ≤ l.length ∧ (∀ j (h : j < l.length), j < a → l[j] < n) ∧ (∀ j (h : j < l.length), b ≤ j → n ≤ l[j]) ∧ y = (l, n, ((l.length : Nat) : Int), ((a : Nat) : Int), ((b : Nat) : Int)))
      (fun y => (y.2.2.2.2 - y.2.2.2.1).toNat) ⟨0, l.length, by omega, by omega, fun j h h2 => absurd h2 (by omega), fun j h h2 => absurd h2 (by omega), rfl⟩ ?_
    rintro _ ⟨a, b, hab, hb, h1, h2, rfl⟩
    unfold slices_BinarySearch_int_int_L1
    dsimp only
    refine Ok.ite (fun hc => ?_) fun hc => ?_
    · have hlt : a < b := by simpa using hc
      have e1 : IntKind.wrap .i64 (Int.fdiv (IntKind.wrap .u64 (IntKind.wrap .i64 (((a : Nat) : Int) + ((b : Nat) : Int)))) (2 ^ (min (Int.toNat 1) (IntKind.bits .u64)))) = (((a + b) / 2 : Nat) : Int) := by
        rw [w64 (n := ((a : Nat) : Int) + ((b : Nat) : Int)) (by omega) (by omega), wu64 (by omega) (by omega), show (2 : Int) ^ (min (Int.toNat 1) (IntKind.bits .u64)) = 2 from rfl, Int.fdiv_eq_ediv_of_nonneg _ (by omega), w64 (by omega) (by omega)]
        omega
      rw [e1]
      have hk : (a + b) / 2 < l.length := by omega
      refine Ok.yes (by simp) (Ok.yes (by simp; omega) ?_)
      rw [Int.toNat_natCast]
      refine Ok.bind_eq (List.getElem?_eq_getElem hk) (Ok.bind_eq (less_eq _ _) ?_)
      by_cases hlt2 : l[(a + b) / 2] < n
      · refine Ok.bind_eq (if_pos (by simpa using hlt2)) (Ok.mk ⟨⟨(a + b) / 2 + 1, b, by omega, hb, fun j h hj => ?_, h2, ?_⟩, ?_⟩)
        · by_cases hjj : j = (a + b) / 2
          · subst hjj; exact hlt2
          · have := hr j _ h hk (by omega); omega
        · rw [ix64 (by omega)]
        · dsimp only; rw [ix64 (by omega)]; omega
      · refine Ok.bind_eq (if_neg (by simpa using hlt2)) (Ok.mk ⟨⟨a, (a + b) / 2, by omega, by omega, h1, fun j h hj => ?_, rfl⟩, ?_⟩)
        · by_cases hjj : j = (a + b) / 2
          · subst hjj; omega
          · have := hr _ j hk h (by omega); omega
        · dsimp only; omega
    · have hlt : a = b := by simp at hc; omega
      subst hlt
      exact Ok.mk ⟨a, ⟨hb, h1, h2⟩, rfl⟩
  obtain ⟨r, hr', k, hs, rfl⟩ := hloop
  refine ⟨k, hs, ?_⟩
  rw [hr', Option.bind_some]
  dsimp only
  by_cases hlt : k < l.length
  · rw [if_pos (by simp; omega), if_pos (by simp), Int.toNat_natCast, List.getElem?_eq_getElem hlt, Option.bind_some]
    by_cases hc : l[k] = n
    · rw [if_pos (by simpa using hc), Option.bind_some, hc]; simp
    · rw [if_neg (by simpa using hc), if_pos (by simp), Option.bind_some]
      unfold slices_isNaN_int
      simp [hc]
  · rw [if_neg (by simp; omega), Option.bind_some, List.getElem?_eq_none (by omega)]; simp
theorem i_insert_eq {l : List Int} (hl : l.length ≤ 1048576) (hr : Ris l) (n : Int) : ∃ k, Spot l n k ∧ i_insert l n = some (putI l n k) := by
  obtain ⟨k, hs, hb⟩ := bsi_eq hl hr n
  refine ⟨k, hs, ?_⟩
  have hk := hs.le
  unfold i_insert putI
  rw [hb, Option.bind_some]
  dsimp only
  by_cases hc : l[k]? = some n
  · rw [if_pos (by simpa using hc), if_pos hc]
  · rw [if_neg (by simpa using hc), if_neg hc]
    unfold slices_Insert_int_int
    rw [if_pos ⟨by omega, by rw [Int.toNat_natCast]; exact hk, by simp, by simp; omega⟩, Option.bind_some, Int.toNat_natCast]
theorem cloneI_any {x : List Int} (h : x.length ≤ 1048576) : slices_Clone_int_int x = some x := by
  unfold slices_Clone_int_int
  have hr : roomFor (List.length ([] : List Int) + List.length x) 8 = true := by
    simp only [List.length_nil, roomFor, decide_eq_true_eq]; omega
  cases x with
  | nil => simp [bothQ, roomFor]
  | cons a x => simp only [bothQ, List.isEmpty_cons, Bool.false_eq_true, if_false, Option.bind_some, hr, if_true, List.nil_append]
structure GS (b : Bls) (x y z : List Int) : Prop where
  hb : 40 ≤ b.length ∧ b.length ≤ 160
  hx : x.length = 20
  hk : ∀ c ∈ b, c.length = 128
  hbits : ∀ i, i < 160 → bG b.length x i = true
  hy : upB b.length x y = true
  hz : upB b.length x z = true
theorem gs_of {b : Bls} {x y z : List Int} (h : gsp b x y z = true) : GS b x y z := by
  unfold gsp at h
  simp only [Bool.and_eq_true, decide_eq_true_eq] at h
  obtain ⟨⟨h1, h2, h3⟩, h4, h5, h6⟩ := h
  refine ⟨h1, h2, fun c hc => ?_, all_range.1 h4, h5, h6⟩
  have := List.all_eq_true.1 h3 c hc
  simpa using this
theorem GS.bd {b : Bls} {x y z : List Int} (g : GS b x y z) : Bd b := ⟨by have := g.hb; omega, fun c hc => by have := g.hk c hc; omega⟩
theorem i_copiedS_eq {b : Bls} {x y z : List Int} (g : GS b x y z) (h : SB b x y z) : i_Space_copied b x y z = some (b, x, y, z) := by
  unfold i_Space_copied
  rw [copyBlocks_eq g.bd, Option.bind_some, clone_any (by have := g.hx; omega), Option.bind_some, cloneI_any h.y, Option.bind_some, cloneI_any h.z]; rfl
theorem s_ownS_eq {b : Bls} {x y z : List Int} (g : GS b x y z) (h : SB b x y z) : s_l5Own b x y z = some (b, x, y, z) := by
  unfold s_l5Own
  have hb := g.hb
  have hl := loop_run s_l5Own_L1 (fun k => (b.take k, b, ((b.length : Nat) : Int), ((k : Nat) : Int), b, x, y, z)) b.length (b, b, x, y, z) (fun k hk => by
    unfold s_l5Own_L1
    dsimp only
    have hk2 := g.hk _ (List.getElem_mem hk)
    rw [if_pos (by simp; omega), if_pos (by simp), Int.toNat_natCast, List.getElem?_eq_getElem hk, Option.bind_some,
      if_pos (by simp only [List.length_nil, roomFor, decide_eq_true_eq]; omega),
      if_pos (by simp only [List.length_take, List.length_singleton, roomFor, decide_eq_true_eq]; omega), ix64 (by omega), List.take_succ_eq_append_getElem hk, List.nil_append]) (by
    unfold s_l5Own_L1
    dsimp only
    rw [if_neg (by simp), List.take_length])
  rw [show loopG s_l5Own_L1 ([], b, ((b.length : Nat) : Int), 0, b, x, y, z) = _ from hl, Option.bind_some]
  have hy := h.y; have hz := h.z; have hx := g.hx
  dsimp only
  rw [if_pos (by simp only [List.length_nil, roomFor, decide_eq_true_eq]; omega), if_pos (by simp only [List.length_nil, roomFor, decide_eq_true_eq]; omega), if_pos (by simp only [List.length_nil, roomFor, decide_eq_true_eq]; omega)]
  rfl
def zeroB : List Int := List.replicate 128 0
end Go.V.G

set_option linter.unusedVariables false
set_option linter.unusedSimpArgs false
set_option maxRecDepth 100000
namespace Go.V.G
open Go.V
theorem ofInt8 {r : Int} (h0 : 0 ≤ r) (h1 : r ≤ 255) : (BitVec.ofInt (IntKind.bits .u8) r).toNat = r.toNat := by
  obtain ⟨n, rfl⟩ := Int.eq_ofNat_of_zero_le h0
  show (BitVec.ofInt (IntKind.bits .u8) ((n : Nat) : Int)).toNat = Int.toNat ((n : Nat) : Int)
  rw [BitVec.ofInt_natCast, BitVec.toNat_ofNat, show IntKind.bits .u8 = 8 from rfl, Int.toNat_natCast]
  omega
theorem wub {r : Int} (h0 : 0 ≤ r) (h1 : r ≤ 255) : IntKind.wrap .u8 r = r := by rw [IntKind.wrap_u8]; omega
theorem ub_test {r : Int} (h0 : 0 ≤ r) (h1 : r ≤ 255) {j : Nat} (hj : j < 8) : ub r j = r.toNat.testBit j := by
  obtain ⟨n, rfl⟩ := Int.eq_ofNat_of_zero_le h0
  have hn : n ≤ 255 := by omega
  unfold ub
  rw [show min j (IntKind.bits .u8) = j from by show min j 8 = j; omega, Int.fdiv_eq_ediv_of_nonneg _ (by exact Int.le_of_lt (Int.pow_pos (by decide)))]
  have hp : (2 : Int) ^ j = ((2 ^ j : Nat) : Int) := by norm_cast
  rw [hp]
  have hq : ((n : Nat) : Int) / ((2 ^ j : Nat) : Int) = ((n / 2 ^ j : Nat) : Int) := by norm_cast
  rw [hq]
  have hle : n / 2 ^ j ≤ 255 := Nat.le_trans (Nat.div_le_self _ _) hn
  show _ = Nat.testBit (Int.toNat ((n : Nat) : Int)) j
  rw [Int.toNat_natCast, Nat.testBit_eq_decide_div_mod_eq]
  generalize n / 2 ^ j = q at hle
  rw [BitVec.toNat_and, ofInt8 (by omega) (by omega), ofInt8 (by omega) (by omega), Int.toNat_natCast, show (1 : Int).toNat = 1 from rfl, Nat.and_one_is_mod, wub (by omega) (by omega)]
  by_cases h : q % 2 = 1
  · rw [decide_eq_true h, decide_eq_true (by omega)]
  · rw [decide_eq_false h, decide_eq_false (by omega)]
theorem sb_val {r : Int} (h0 : 0 ≤ r) (h1 : r ≤ 255) {j : Nat} (hj : j < 8) : sb r j = ((r.toNat ||| 2 ^ j : Nat) : Int) ∧ r.toNat ||| 2 ^ j ≤ 255 := by
  have hr : r.toNat < 2 ^ 8 := by omega
  have hj2 : 2 ^ j < 2 ^ 8 := Nat.pow_lt_pow_right (by decide) hj
  have hor : r.toNat ||| 2 ^ j < 2 ^ 8 := Nat.or_lt_two_pow hr hj2
  have hp : (2 : Int) ^ j = ((2 ^ j : Nat) : Int) := by norm_cast
  unfold sb
  rw [show min j (IntKind.bits .u8) = j from by show min j 8 = j; omega, Int.one_mul, hp]
  clear hp
  generalize 2 ^ j = p at hj2 hor ⊢
  rw [wub (r := ((p : Nat) : Int)) (by omega) (by omega), BitVec.toNat_or, ofInt8 h0 h1, ofInt8 (by omega) (by omega), Int.toNat_natCast, wub (by omega) (by omega)]
  exact ⟨rfl, by omega⟩
def U8s (x : List Int) : Prop := ∀ v ∈ x, 0 ≤ v ∧ v ≤ 255
theorem bit_set {x : List Int} (hu : U8s x) {k j : Nat} (hk : k / 8 < x.length) (hj : j / 8 < x.length) : bit (setB x k) j = (decide (j = k) || bit x j) := by
  unfold bit setB
  have hgk : x[k / 8]? = some x[k / 8] := List.getElem?_eq_getElem hk
  have hgj : x[j / 8]? = some x[j / 8] := List.getElem?_eq_getElem hj
  have uk := hu _ (List.getElem_mem hk)
  have uj := hu _ (List.getElem_mem hj)
  rw [hgk, Option.getD_some]
  by_cases hd : j / 8 = k / 8
  · rw [hd, List.getElem?_set_self hk, Option.getD_some, hgk, Option.getD_some]
    obtain ⟨e1, e2⟩ := sb_val uk.1 uk.2 (Nat.mod_lt k (by decide))
    rw [e1, ub_test (by omega) (by omega) (Nat.mod_lt j (by decide)), ub_test uk.1 uk.2 (Nat.mod_lt j (by decide)), Int.toNat_natCast, Nat.testBit_or, Nat.testBit_two_pow]
    by_cases hjk : j = k
    · subst hjk; simp
    · have : ¬ (k % 8 = j % 8) := by omega
      rw [decide_eq_false hjk, decide_eq_false this]; simp
  · have hjk : ¬ j = k := by rintro rfl; exact hd rfl
    rw [List.getElem?_set_ne (Ne.symm hd), decide_eq_false hjk, Bool.false_or]
theorem u8_set {x : List Int} (hu : U8s x) {k : Nat} (hk : k / 8 < x.length) : U8s (setB x k) := by
  intro v hv
  unfold setB at hv
  rcases List.mem_or_eq_of_mem_set hv with hv | rfl
  · exact hu v hv
  · have uk := hu _ (List.getElem_mem hk)
    rw [List.getElem?_eq_getElem hk, Option.getD_some]
    obtain ⟨e1, e2⟩ := sb_val uk.1 uk.2 (Nat.mod_lt k (by decide))
    rw [e1]; omega
def cnt (x : List Int) : Nat → Nat
  | 0 => 0
  | n + 1 => cnt x n + (if bit x n = true then 0 else 1)
theorem cnt_set {x : List Int} (hu : U8s x) {k : Nat} (hk : k / 8 < x.length) (hb : bit x k = false) : ∀ n, n ≤ 8 * x.length → cnt (setB x k) n + (if k < n then 1 else 0) = cnt x n
  | 0, _ => rfl
  | n + 1, hn => by
    have ih := cnt_set hu hk hb n (by omega)
    simp only [cnt]
    rw [bit_set hu hk (show n / 8 < x.length by omega)]
    by_cases hnk : n = k
    · subst hnk
      rw [hb]
      simp at ih ⊢
      omega
    · rw [decide_eq_false hnk, Bool.false_or]
      split at ih <;> split <;> split <;> omega
theorem cnt_zero {x : List Int} : ∀ n, cnt x n = 0 ↔ ∀ k, k < n → bit x k = true
  | 0 => by simp [cnt]
  | n + 1 => by
    have ih := cnt_zero (x := x) n
    simp only [cnt]
    constructor
    · intro h k hk
      by_cases hkn : k = n
      · subst hkn
        cases hb : bit x k with
        | true => rfl
        | false => rw [hb] at h; simp at h
      · exact ih.1 (by omega) k (by omega)
    · intro h
      rw [ih.2 fun k hk => h k (by omega), h n (by omega)]; rfl
theorem cnt_le {x : List Int} : ∀ n, cnt x n ≤ n
  | 0 => Nat.le_refl _
  | n + 1 => by have := cnt_le (x := x) n; simp only [cnt]; split <;> omega
theorem ris_iff {l : List Int} : Ris l ↔ l.Pairwise (· < ·) := by
  rw [List.pairwise_iff_getElem]
  exact ⟨fun h i j hi hj hij => h i j hi hj hij, fun h i j hi hj hij => h i j hi hj hij⟩
theorem ris_put {l : List Int} (hr : Ris l) {n : Int} {k : Nat} (hs : Spot l n k) : Ris (putI l n k) := by
  unfold putI
  split
  · exact hr
  · rename_i hne
    rw [ris_iff] at hr ⊢
    have hlo : ∀ v ∈ l.take k, v < n := by
      intro v hv
      obtain ⟨j, hj, rfl⟩ := List.getElem_of_mem hv
      rw [List.length_take] at hj
      rw [List.getElem_take]
      exact hs.lo j (by omega) (by omega)
    have hhi : ∀ v ∈ l.drop k, n < v := by
      intro v hv
      obtain ⟨j, hj, rfl⟩ := List.getElem_of_mem hv
      rw [List.length_drop] at hj
      rw [List.getElem_drop]
      have hkj : k + j < l.length := by omega
      have h1 := hs.hi (k + j) hkj (by omega)
      by_cases hj0 : j = 0
      · subst hj0
        have : l[k]? = some l[k] := List.getElem?_eq_getElem (by omega)
        have hne' : ¬ l[k] = n := fun hh => hne (by rw [this, hh])
        simp only [Nat.add_zero] at h1 ⊢
        omega
      · have hk0 : k < l.length := by omega
        have h2 := hs.hi k hk0 (Nat.le_refl _)
        have h3 := (ris_iff.2 hr) k (k + j) hk0 hkj (by omega)
        omega
    rw [List.pairwise_append]
    refine ⟨hr.sublist (List.take_sublist _ _), ?_, ?_⟩
    · rw [List.pairwise_append]
      refine ⟨by simp, hr.sublist (List.drop_sublist _ _), ?_⟩
      intro a ha b hb
      simp only [List.mem_singleton] at ha
      subst ha
      exact hhi b hb
    · intro a ha b hb
      have h1 := hlo a ha
      rcases List.mem_append.1 hb with hb | hb
      · simp only [List.mem_singleton] at hb; subst hb; exact h1
      · have := hhi b hb; omega
theorem put_both2 {l : List Int} (hl : l.length ≤ 1048576) (hr : Ris l) (n : Int) : ∃ z, s_l5Put l n = some z ∧ i_insert l n = some z ∧ z.length ≤ l.length + 1 ∧ Ris z := by
  obtain ⟨k, hs, h1⟩ := s_put_eq' hl hr n
  obtain ⟨m, ht, h2⟩ := i_insert_eq hl hr n
  obtain rfl := hs.one ht
  refine ⟨_, h1, h2, ?_, ris_put hr hs⟩
  unfold putI
  split
  · omega
  · have := hs.le; simp; omega
structure Wk (n : Nat) (b : Bls) (x z : List Int) (lz : Nat) : Prop where
  hn : 40 ≤ n ∧ n ≤ 160
  hb : b.length = n
  hk : ∀ c ∈ b, c.length = 128
  hx : x.length = 20
  hu : U8s x
  hlow : ∀ k, k < 33 → bit x k = true
  hr : Ris z
  hz : z.length ≤ lz
abbrev Sp := Bls × (List Int × (List Int × List Int))
theorem take_wk {n : Nat} {b : Bls} {x y z : List Int} {lz : Nat} (h : Wk n b x z lz) (hlz : lz ≤ 1048000) :
    (cnt x n = 0 ∧ i_Space_take_oooo b x y z = some (0, false, b, x, y, z)) ∨
    ∃ k b' x' z', (33 ≤ k ∧ k < n) ∧ s_l5Take_oooo b x y z = some (((k : Nat) : Int), b', x', y, z') ∧ i_Space_take_oooo b x y z = some (((k : Nat) : Int), true, b', x', y, z') ∧ Wk n b' x' z' (lz + 1) ∧ cnt x' n + 1 = cnt x n := by
  have hn := h.hn; have hbl := h.hb; have hx := h.hx
  by_cases hall : ∀ k, k < n → bit x k = true
  · left
    refine ⟨(cnt_zero n).2 hall, ?_⟩
    unfold i_Space_take_oooo
    have hl := loop_run i_Space_take_oooo_L1 (fun k => (((b.length : Nat) : Int), ((k : Nat) : Int), b, x, y, z)) b.length (.inl (b, x, y, z)) (fun k hk => by
      unfold i_Space_take_oooo_L1
      dsimp only
      rw [if_pos (by simp; omega), i_usedO_eq (by omega) (by omega), Option.bind_some, hall k (by omega)]
      dsimp only
      rw [if_neg (by simp), ix64 (by omega)]) (by
      unfold i_Space_take_oooo_L1
      dsimp only
      rw [if_neg (by simp)])
    rw [show loopG i_Space_take_oooo_L1 (((b.length : Nat) : Int), 0, b, x, y, z) = _ from hl]
    rfl
  · right
    have hex : ∃ k, k < n ∧ bit x k = false ∧ ∀ j, j < k → bit x j = true := by
      have hex0 : ∃ k, k < n ∧ bit x k = false := by
        refine Classical.byContradiction fun hn => hall fun k hk => ?_
        cases hbk : bit x k with
        | true => rfl
        | false => exact absurd ⟨k, hk, hbk⟩ hn
      obtain ⟨k, hk⟩ := hex0
      induction k using Nat.strongRecOn with
      | _ k ih =>
        by_cases hxx : ∃ j, j < k ∧ bit x j = false
        · obtain ⟨j, hj, hp⟩ := hxx
          exact ih j hj ⟨by omega, hp⟩
        · refine ⟨k, hk.1, hk.2, fun j hj => ?_⟩
          cases hpj : bit x j with
          | true => rfl
          | false => exact absurd ⟨j, hj, hpj⟩ hxx
    obtain ⟨k, hk, hbk, hbefore⟩ := hex
    have hk33 : 33 ≤ k := by
      refine Classical.byContradiction fun hn => ?_
      have := h.hlow k (by omega)
      rw [hbk] at this; cases this
    obtain ⟨t', hp1, hp2, hp3, hp4⟩ := put_both2 (by have := h.hz; omega) h.hr ((k : Nat) : Int)
    have hkb : k < b.length := by omega
    refine ⟨k, b.set k zeroB, setB x k, t', ⟨hk33, hk⟩, ?_, ?_, ?_, ?_⟩
    · unfold s_l5Take_oooo
      have hl := loop_run s_l5Take_oooo_L1 (fun i => (((33 + i : Nat) : Int), b, x, y, z)) (k - 33) (.inr (((k : Nat) : Int), b.set k zeroB, setB x k, y, t')) (fun i hi => by
        unfold s_l5Take_oooo_L1
        dsimp only
        rw [if_pos (by simp; omega), s_used_eq (by omega) (by omega), Option.bind_some, hbefore (33 + i) (by omega), if_neg (by simp), ix64 (by omega)]
        rfl) (by
        unfold s_l5Take_oooo_L1
        dsimp only
        rw [show 33 + (k - 33) = k by omega, if_pos (by simp; omega), s_used_eq (by omega) (by omega), Option.bind_some, hbk, if_pos (show (!false) = true from rfl), s_set_eq (by omega) (by omega), Option.bind_some,
          if_pos (by simp), if_pos (by simp), if_pos (by simp [roomFor]), if_pos (by simp), if_pos (by simp; omega), Nat.zero_add, Int.toNat_natCast, List.getElem?_eq_getElem hkb, Option.bind_some, Option.bind_some, hp1]
        rfl)
      rw [show loopG s_l5Take_oooo_L1 (33, b, x, y, z) = _ from hl]
      rfl
    · unfold i_Space_take_oooo
      have hcl : slices_Clone_byte_byte (List.replicate (Int.toNat 128) (0 : Int)) = some zeroB := clone_any (by simp)
      have hlay : i_Space_lay_oooo ((k : Nat) : Int) (List.replicate (Int.toNat 128) (0 : Int)) b (setB x k) y z = some (b.set k zeroB, setB x k, y, t') := by
        unfold i_Space_lay_oooo
        rw [hcl, Option.bind_some, if_pos (by simp), if_pos (by simp; omega), Nat.zero_add, Int.toNat_natCast, List.getElem?_eq_getElem hkb, Option.bind_some, Option.bind_some, hp2]; rfl
      have hl := loop_run i_Space_take_oooo_L1 (fun i => (((b.length : Nat) : Int), ((i : Nat) : Int), b, x, y, z)) k (.inr (((k : Nat) : Int), true, b.set k zeroB, setB x k, y, t')) (fun i hi => by
        unfold i_Space_take_oooo_L1
        dsimp only
        rw [if_pos (by simp; omega), i_usedO_eq (by omega) (by omega), Option.bind_some, hbefore i hi]
        dsimp only
        rw [if_neg (by simp), ix64 (by omega)]) (by
        unfold i_Space_take_oooo_L1
        dsimp only
        have hk8 : k / 8 < x.length := by omega
        have hg8 : x[k / 8]? = some x[k / 8] := List.getElem?_eq_getElem hk8
        rw [if_pos (by simp; omega), i_usedO_eq (by omega) (by omega), Option.bind_some, hbk]
        dsimp only
        rw [dv8 (by omega), md8, if_pos (show (!false) = true from rfl), if_pos (by simp), if_pos (by simp; omega), if_pos (by simp; omega), Nat.zero_add, Int.toNat_natCast, hg8, Option.bind_some, if_pos (by simp), if_pos (by simp; omega), if_pos (by simp; omega), if_pos (by simp; omega),
          Option.bind_some, Option.bind_some, if_pos (by simp), if_pos (by simp), if_pos (by simp [roomFor])]
        have hsb : x.set (k / 8) (IntKind.wrap .u8 (((BitVec.ofInt (IntKind.bits .u8) x[k / 8] ||| BitVec.ofInt (IntKind.bits .u8) (IntKind.wrap .u8 (1 * 2 ^ (min (Int.toNat ((k % 8 : Nat) : Int)) (IntKind.bits .u8))))).toNat : Int))) = setB x k := by
          unfold setB sb; rw [hg8, Option.getD_some, Int.toNat_natCast]
        rw [hsb, hlay]
        rfl)
      rw [show loopG i_Space_take_oooo_L1 (((b.length : Nat) : Int), 0, b, x, y, z) = _ from hl]
      rfl
    · refine ⟨hn, by rw [List.length_set]; exact hbl, fun c hc => ?_, by unfold setB; rw [List.length_set]; exact hx, u8_set h.hu (by omega), fun j hj => ?_, hp4, by have := h.hz; omega⟩
      · rcases List.mem_or_eq_of_mem_set hc with hc | rfl
        · exact h.hk c hc
        · rfl
      · rw [bit_set h.hu (by omega) (by omega), h.hlow j hj, Bool.or_true]
    · have := cnt_set h.hu (show k / 8 < x.length by omega) hbk n (by omega)
      rw [if_pos hk] at this
      exact this
end Go.V.G

set_option linter.unusedVariables false
set_option linter.unusedSimpArgs false
set_option maxRecDepth 100000
namespace Go.V.G
open Go.V
theorem s_free_cnt {b : Bls} {x y z : List Int} (hb : b.length ≤ 160) (hx : x.length = 20) : s_l5Free b x y z = some ((cnt x b.length : Nat) : Int) := by
  unfold s_l5Free
  have hl := loop_run s_l5Free_L1 (fun k => (((cnt x k : Nat) : Int), ((b.length : Nat) : Int), ((k : Nat) : Int), b, x, y, z)) b.length ((cnt x b.length : Nat) : Int) (fun k hk => by
    unfold s_l5Free_L1
    dsimp only
    have hc := cnt_le (x := x) k
    rw [if_pos (by simp; omega), s_used_eq (by omega) (by omega), Option.bind_some]
    cases hbk : bit x k with
    | false =>
      rw [if_pos (show (!false) = true from rfl), Option.bind_some]
      dsimp only
      rw [ix64 (by omega), ix64 (by omega)]
      simp only [cnt, hbk]
      rfl
    | true =>
      rw [if_neg (by simp), Option.bind_some]
      dsimp only
      rw [ix64 (by omega)]
      simp only [cnt, hbk]
      rfl) (by
    unfold s_l5Free_L1
    dsimp only
    rw [if_neg (by simp)])
  rw [show loopG s_l5Free_L1 (0, ((b.length : Nat) : Int), 0, b, x, y, z) = _ from hl]; rfl
def nd (n : Nat) : Nat := if n = 0 then 1 else (n + 123) / 124
inductive Tks (y : List Int) : Nat → Bls → List Int → List Int → List Int → Bls → List Int → List Int → Prop where
  | nil (b : Bls) (x z : List Int) : Tks y 0 b x z [] b x z
  | snoc {m : Nat} {b : Bls} {x z l : List Int} {b1 : Bls} {x1 z1 : List Int} {k : Nat} {b2 : Bls} {x2 z2 : List Int} (h : Tks y m b x z l b1 x1 z1) (hs : s_l5Take_oooo b1 x1 y z1 = some (((k : Nat) : Int), b2, x2, y, z2))
      (hi : i_Space_take_oooo b1 x1 y z1 = some (((k : Nat) : Int), true, b2, x2, y, z2)) : Tks y (m + 1) b x z (l ++ [((k : Nat) : Int)]) b2 x2 z2
def blkOf (data list : List Int) (i : Nat) : List Int :=
  let own := (data.drop (124 * i)).take 124
  let next := if i + 1 < list.length then list[i + 1]?.getD 0 else 0
  let hd := [82, IntKind.wrap .u8 (next / 256), IntKind.wrap .u8 next, IntKind.wrap .u8 ((own.length : Nat) : Int)] ++ own
  hd ++ List.replicate (128 - hd.length) 0
theorem ris_len {l : List Int} (hr : Ris l) (hb : ∀ i (h : i < l.length), 33 ≤ l[i] ∧ l[i] ≤ 159) : l.length ≤ 127 := by
  have key : ∀ i (h : i < l.length), 33 + (i : Int) ≤ l[i] := by
    intro i
    induction i with
    | zero => intro h; have := hb 0 h; omega
    | succ i ih => intro h; have h1 := ih (by omega); have h2 := hr i (i + 1) (by omega) h (by omega); omega
  refine Classical.byContradiction fun hn => ?_
  have h1 := key 127 (by omega)
  have h2 := hb 127 (by omega)
  omega
end Go.V.G

set_option linter.unusedVariables false
set_option linter.unusedSimpArgs false
set_option maxRecDepth 100000
namespace Go.V.G
open Go.V
theorem put_both3 {l : List Int} (hl : l.length ≤ 1048576) (hr : Ris l) (n : Int) : ∃ z, s_l5Put l n = some z ∧ i_insert l n = some z ∧ z.length ≤ l.length + 1 ∧ Ris z ∧ ∀ v, v ∈ z ↔ v ∈ l ∨ v = n := by
  obtain ⟨k, hs, h1⟩ := s_put_eq' hl hr n
  obtain ⟨m, ht, h2⟩ := i_insert_eq hl hr n
  obtain rfl := hs.one ht
  refine ⟨_, h1, h2, ?_, ris_put hr hs, fun v => ?_⟩
  · unfold putI
    split
    · omega
    · have := hs.le; simp; omega
  · unfold putI
    split
    · rename_i h
      have hm := List.mem_of_getElem? h
      exact ⟨.inl, fun h' => h'.elim id fun e => by rw [e]; exact hm⟩
    · have e : v ∈ l ↔ v ∈ l.take k ∨ v ∈ l.drop k := by
        rw [← List.mem_append, List.take_append_drop]
      rw [e]
      simp only [List.mem_append, List.mem_singleton]
      constructor
      · rintro (h | h | h)
        · exact .inl (.inl h)
        · exact .inr h
        · exact .inl (.inr h)
      · rintro ((h | h) | h)
        · exact .inl h
        · exact .inr (.inr h)
        · exact .inr (.inl h)
structure Wq (b : Bls) (x z : List Int) (lz : Nat) : Prop where
  hb : 39 ≤ b.length ∧ b.length ≤ 160
  hx : x.length = 20
  hu : U8s x
  hr : Ris z
  hz : z.length ≤ lz
theorem take_q {b : Bls} {x y z : List Int} {lz : Nat} (h : Wq b x z lz) (hlz : lz ≤ 1048000) : Ok (s_l5Take_oooo b x y z) fun r =>
    r = (0, b, x, y, z) ∨ ∃ (k : Nat) (z' : List Int), (33 ≤ k ∧ k < b.length) ∧ bit x k = false ∧ s_l5Put z ((k : Nat) : Int) = some z' ∧ r = (((k : Nat) : Int), b.set k zeroB, setB x k, y, z') := by
  have hbl := h.hb; have hx := h.hx; have hz := h.hz
  unfold s_l5Take_oooo
  refine Ok.bind (Q := fun v => v = .inl (b, x, y, z) ∨ ∃ (k : Nat) (z' : List Int), (33 ≤ k ∧ k < b.length) ∧ bit x k = false ∧ s_l5Put z ((k : Nat) : Int) = some z' ∧ v = .inr (((k : Nat) : Int), b.set k zeroB, setB x k, y, z')) ?_ ?_
  · refine Ok.loop (fun s => ∃ i : Nat, 33 ≤ i ∧ i ≤ 160 ∧ s = (((i : Nat) : Int), b, x, y, z)) (fun s => (200 - s.1).toNat) ⟨33, by omega, by omega, rfl⟩ ?_
    rintro _ ⟨i, h33, hi, rfl⟩
    unfold s_l5Take_oooo_L1
    dsimp only
    refine Ok.ite (fun hc => ?_) fun hc => Ok.mk (.inl rfl)
    have hlt : i < b.length := by simpa using hc
    refine Ok.bind_eq (s_used_eq (by omega) (by omega)) ?_
    refine Ok.ite (fun hu => ?_) fun hu => ?_
    · have hbk : bit x i = false := by simpa using hu
      obtain ⟨z', hp1, _⟩ := put_both3 (by omega) h.hr ((i : Nat) : Int)
      have hg : b[0 + Int.toNat ((i : Nat) : Int)]? = some b[i] := by simp [hlt]
      refine Ok.bind_eq (s_set_eq (by omega) (by omega)) (Ok.yes (by simp) (Ok.yes (by simp) (Ok.yes (by simp [roomFor]) (Ok.yes (by simp) (Ok.yes (by simpa using hlt) (Ok.bind_eq hg (Ok.bind_eq hg (Ok.bind_eq hp1 (Ok.mk (.inr ⟨i, z', ⟨h33, hlt⟩, hbk, hp1, ?_⟩))))))))))
      simp [zeroB]
    · have e1 := ix64 (i := i) (by omega)
      refine Ok.mk ⟨⟨i + 1, by omega, by omega, by rw [e1]⟩, ?_⟩
      dsimp only; rw [e1]; omega
  · rintro v (rfl | ⟨k, z', h1, h2, h3, rfl⟩)
    · exact Ok.mk (.inl rfl)
    · exact Ok.mk (.inr ⟨k, z', h1, h2, h3, rfl⟩)
theorem Wq.take {b : Bls} {x z : List Int} {lz : Nat} (h : Wq b x z lz) (hlz : lz ≤ 1048000) {k : Nat} (hk : k < b.length) {z' : List Int} (hz' : s_l5Put z ((k : Nat) : Int) = some z') : Wq (b.set k zeroB) (setB x k) z' (lz + 1) := by
  have hbl := h.hb; have hx := h.hx; have hz := h.hz
  obtain ⟨z2, e1, _, e2, e3, _⟩ := put_both3 (by omega) h.hr ((k : Nat) : Int)
  rw [e1] at hz'
  obtain rfl := Option.some.inj hz'
  exact ⟨by rw [List.length_set]; exact hbl, by unfold setB; rw [List.length_set]; exact hx, u8_set h.hu (by omega), e3, by omega⟩
theorem u8_wrap (n : Int) : 0 ≤ IntKind.wrap .u8 n ∧ IntKind.wrap .u8 n ≤ 255 := by rw [IntKind.wrap_u8]; omega
end Go.V.G

set_option linter.unusedVariables false
set_option linter.unusedSimpArgs false
set_option maxRecDepth 100000
namespace Go.V.G
open Go.V
theorem index_ok {l : List Int} {n : Int} (hl : l.length ≤ 1048576) : Ok (slices_Index_int_int l n) fun r => (0 ≤ r ↔ n ∈ l) := by
  unfold slices_Index_int_int
  refine Ok.bind (Q := fun r => (r = .inl () ∧ n ∉ l) ∨ ∃ k : Int, r = .inr k ∧ 0 ≤ k ∧ n ∈ l) ?_ ?_
  · refine Ok.loop (fun y => ∃ k : Nat, k ≤ l.length ∧ y = (l, n, ((l.length : Nat) : Int), ((k : Nat) : Int)) ∧ ∀ j (h : j < l.length), j < k → l[j] ≠ n) (fun y => (y.2.2.1 - y.2.2.2).toNat) ⟨0, by omega, rfl, fun j _ h => by omega⟩ ?_
    rintro _ ⟨k, hk, rfl, hn⟩
    unfold slices_Index_int_int_L1
    dsimp only
    refine Ok.ite (fun hc => ?_) fun hc => Ok.mk (.inl ⟨rfl, fun hm => ?_⟩)
    · have hlt : k < l.length := by simpa using hc
      have hg : l[Int.toNat ((k : Nat) : Int)]? = some l[k] := by simp [hlt]
      have e1 := ix64 (i := k) (by omega)
      refine Ok.yes (by simp) (Ok.bind_eq hg (Ok.ite (fun he => Ok.mk (.inr ⟨_, rfl, by omega, ?_⟩)) fun he => Ok.mk ⟨⟨k + 1, by omega, by rw [e1], fun j hj hjk => ?_⟩, ?_⟩))
      · have he' : n = l[k] := by simpa using he
        rw [he']; exact List.getElem_mem _
      · by_cases hjk' : j = k
        · subst hjk'; intro hh; exact he (by simp [hh])
        · exact hn j hj (by omega)
      · dsimp only; rw [e1]; omega
    · obtain ⟨j, hj, he⟩ := List.getElem_of_mem hm
      have : ¬ k < l.length := by simpa using hc
      exact hn j hj (by omega) he
  · rintro r (⟨rfl, h⟩ | ⟨k, rfl, h0, h⟩)
    · exact Ok.mk (by simp [h])
    · exact Ok.mk ⟨fun _ => h, fun _ => h0⟩
theorem contains_ok {l : List Int} {n : Int} (hl : l.length ≤ 1048576) : Ok (slices_Contains_int_int l n) fun r => (r = true ↔ n ∈ l) := by
  unfold slices_Contains_int_int
  exact (index_ok hl).bind fun r hr => Ok.mk (by rw [← hr]; simp)
theorem i_FreeIn_eq {b : Bls} {x y z : List Int} (h : SB b x y z) : i_FreeIn b x y z = some (if gsp b x y z = true then (((cnt x b.length : Nat) : Int), true) else (0, false)) := by
  unfold i_FreeIn
  rw [i_GoodSpace_eq h, Option.bind_some]
  cases hg : gsp b x y z with
  | false => rfl
  | true =>
    have g := gs_of hg
    have hb := g.hb; have hx := g.hx
    rw [if_neg (by simp)]
    have hl := loop_run i_FreeIn_L1 (fun k => (((cnt x k : Nat) : Int), ((b.length : Nat) : Int), ((k : Nat) : Int), b, x, y, z)) b.length ((cnt x b.length : Nat) : Int) (fun k hk => by
      unfold i_FreeIn_L1
      dsimp only
      have hc := cnt_le (x := x) k
      rw [if_pos (by simp; omega), i_used_eq (by omega) (by omega), Option.bind_some]
      cases hbk : bit x k with
      | false =>
        dsimp only
        rw [if_pos (show (!false) = true from rfl), Option.bind_some]
        dsimp only
        rw [ix64 (by omega), ix64 (by omega)]
        simp only [cnt, hbk]
        rfl
      | true =>
        dsimp only
        rw [if_neg (by simp), Option.bind_some]
        dsimp only
        rw [ix64 (by omega)]
        simp only [cnt, hbk]
        rfl) (by
      unfold i_FreeIn_L1
      dsimp only
      rw [if_neg (by simp)])
    rw [show loopG i_FreeIn_L1 (0, ((b.length : Nat) : Int), 0, b, x, y, z) = _ from hl]; rfl
theorem gsp_of {b : Bls} {x y z : List Int} (g : GS b x y z) : gsp b x y z = true := by
  unfold gsp
  simp only [Bool.and_eq_true, decide_eq_true_eq]
  exact ⟨⟨g.hb, g.hx, List.all_eq_true.2 fun c hc => by simpa using g.hk c hc⟩, all_range.2 g.hbits, g.hy, g.hz⟩
theorem upB_of {n : Nat} {bits l : List Int} (hr : Ris l) (h : ∀ v ∈ l, 33 ≤ v ∧ v ≤ (n : Int) - 1 ∧ bit bits v.toNat = true) : upB n bits l = true := by
  refine all_range.2 fun i hi => ?_
  rw [upG_eq n bits l i hi]
  have hm := h l[i] (List.getElem_mem _)
  rw [if_neg (fun hn => hn ⟨hm.1, hm.2.1⟩), if_neg (by rw [hm.2.2]; simp), if_neg]
  rintro ⟨h0, h1⟩
  rw [List.getElem?_eq_getElem (by omega), Option.getD_some] at h1
  have := hr (i - 1) i (by omega) hi (by omega)
  omega
theorem up_mem {n : Nat} {bits l : List Int} (h : upB n bits l = true) : ∀ v ∈ l, 33 ≤ v ∧ v ≤ (n : Int) - 1 ∧ bit bits v.toNat = true := by
  intro v hv
  obtain ⟨i, hi, rfl⟩ := List.getElem_of_mem hv
  exact (ris_of h).2 i hi
theorem GS.take {b : Bls} {x y z : List Int} (g : GS b x y z) (hu : U8s x) {k : Nat} (hk : 33 ≤ k ∧ k < b.length) {z' : List Int} (hzl : z.length ≤ 1048000) (hz' : s_l5Put z ((k : Nat) : Int) = some z') : GS (b.set k zeroB) (setB x k) y z' ∧ ((k : Nat) : Int) ∈ z' ∧ z'.length ≤ z.length + 1 ∧ bit (setB x k) k = true := by
  have hb := g.hb; have hx := g.hx
  obtain ⟨z2, e1, _, e2, e3, e4⟩ := put_both3 (by omega) (ris_of g.hz).1 ((k : Nat) : Int)
  rw [e1] at hz'
  obtain rfl := Option.some.inj hz'
  have hs : ∀ j, j < 160 → bit (setB x k) j = (decide (j = k) || bit x j) := fun j hj => bit_set hu (by omega) (by omega)
  have hup : ∀ v : Int, 33 ≤ v ∧ v ≤ (b.length : Int) - 1 ∧ bit x v.toNat = true → 33 ≤ v ∧ v ≤ ((b.set k zeroB).length : Int) - 1 ∧ bit (setB x k) v.toNat = true := fun v ⟨h1, h2, h3⟩ =>
    ⟨h1, by rw [List.length_set]; exact h2, by rw [hs _ (by omega), h3, Bool.or_true]⟩
  refine ⟨⟨by rw [List.length_set]; exact hb, by unfold setB; rw [List.length_set]; exact hx, fun c hc => ?_, fun i hi => ?_, ?_, ?_⟩, (e4 _).2 (.inr rfl), e2, by rw [hs k (by omega)]; simp⟩
  · rcases List.mem_or_eq_of_mem_set hc with hc | rfl
    · exact g.hk c hc
    · rfl
  · rw [List.length_set]
    have := g.hbits i hi
    unfold bG at this ⊢
    rw [hs i hi]
    by_cases hik : i = k
    · subst hik
      simp; omega
    · simpa [hik] using this
  · exact upB_of (ris_of g.hy).1 fun v hv => hup v (up_mem g.hy v hv)
  · refine upB_of e3 fun v hv => ?_
    rcases (e4 v).1 hv with hv | rfl
    · exact hup v (up_mem g.hz v hv)
    · exact ⟨by omega, by rw [List.length_set]; omega, by rw [hs _ (by omega)]; simp⟩
def clr (r : Int) (j : Nat) : Int := IntKind.wrap .u8 (((BitVec.ofInt (IntKind.bits .u8) r &&& ~~~ BitVec.ofInt (IntKind.bits .u8) (IntKind.wrap .u8 (1 * 2 ^ (min j (IntKind.bits .u8))))).toNat : Int))
theorem andnot_bit (A B : BitVec (IntKind.bits .u8)) {i : Nat} (hi : i < 8) : (A &&& ~~~ B).toNat.testBit i = (A.toNat.testBit i && !B.toNat.testBit i) := by
  rw [BitVec.testBit_toNat, BitVec.testBit_toNat, BitVec.testBit_toNat, BitVec.getLsbD_and, BitVec.getLsbD_not]
  simp [show IntKind.bits .u8 = 8 from rfl, hi]
theorem clr_val {r : Int} (h0 : 0 ≤ r) (h1 : r ≤ 255) {j i : Nat} (hj : j < 8) (hi : i < 8) : ub (clr r j) i = (ub r i && !decide (i = j)) := by
  have hj2 : 2 ^ j < 2 ^ 8 := Nat.pow_lt_pow_right (by decide) hj
  have hp : (2 : Int) ^ j = ((2 ^ j : Nat) : Int) := by norm_cast
  have ht : (2 ^ j).testBit i = decide (j = i) := Nat.testBit_two_pow
  unfold clr
  rw [show min j (IntKind.bits .u8) = j from by show min j 8 = j; omega, Int.one_mul, hp]
  clear hp
  generalize 2 ^ j = p at hj2 ht ⊢
  rw [wub (r := ((p : Nat) : Int)) (by omega) (by omega)]
  have hV : (BitVec.ofInt (IntKind.bits .u8) r &&& ~~~ BitVec.ofInt (IntKind.bits .u8) ((p : Nat) : Int)).toNat < 2 ^ 8 := BitVec.isLt _
  rw [wub (by omega) (by omega), ub_test (by omega) (by omega) hi, ub_test h0 h1 hi, Int.toNat_natCast, andnot_bit _ _ hi, ofInt8 h0 h1, ofInt8 (by omega) (by omega), Int.toNat_natCast, ht]
  by_cases hij : i = j
  · subst hij; simp
  · rw [decide_eq_false hij, decide_eq_false (fun hh => hij hh.symm)]
theorem u8_clr {x : List Int} (hu : U8s x) (k : Nat) (v : Int) (j : Nat) : U8s (x.set k (clr v j)) := by
  intro w hw
  rcases List.mem_or_eq_of_mem_set hw with hw | rfl
  · exact hu w hw
  · exact u8_wrap _
end Go.V.G

set_option linter.unusedVariables false
set_option linter.unusedSimpArgs false
set_option maxRecDepth 100000
namespace Go.V.G
open Go.V
def gb (c : List Int) (i : Nat) : Int := c[i]?.getD 0
def blk (b : Bls) (i : Nat) : List Int := b[i]?.getD []
theorem gb_some {c : List Int} {i : Nat} (h : i < c.length) : c[i]? = some (gb c i) := by unfold gb; rw [List.getElem?_eq_getElem h]; rfl
theorem blk_some {b : Bls} {i : Nat} (h : i < b.length) : b[i]? = some (blk b i) := by unfold blk; rw [List.getElem?_eq_getElem h]; rfl
theorem iy {α : Type} {p : Prop} [Decidable p] {a b : α} (h : p) : (if decide p = true then a else b) = a := by rw [if_pos (by simpa using h)]
theorem ino {α : Type} {p : Prop} [Decidable p] {a b : α} (h : ¬ p) : (if decide p = true then a else b) = b := by rw [if_neg (by simpa using h)]
structure RS (b : Bls) (x y : List Int) : Prop where
  hn : 40 ≤ b.length ∧ b.length ≤ 160
  hk : ∀ c ∈ b, c.length = 128
  hu : ∀ c ∈ b, U8s c
  hx : x.length = 20
  hy : y.length ≤ 1048576
theorem blk_mem {b : Bls} {i : Nat} (h : i < b.length) : blk b i ∈ b := List.mem_of_getElem? (blk_some h)
theorem RS.len {b : Bls} {x y : List Int} (g : RS b x y) {i : Nat} (h : i < b.length) : (blk b i).length = 128 := g.hk _ (blk_mem h)
theorem gb_u8 {c : List Int} (h : U8s c) (j : Nat) : 0 ≤ gb c j ∧ gb c j ≤ 255 := by
  by_cases hj : j < c.length
  · exact h _ (List.mem_of_getElem? (gb_some hj))
  · unfold gb; rw [List.getElem?_eq_none (by omega)]; simp
theorem RS.u8 {b : Bls} {x y : List Int} (g : RS b x y) {i : Nat} (h : i < b.length) (j : Nat) : 0 ≤ gb (blk b i) j ∧ gb (blk b i) j ≤ 255 := gb_u8 (g.hu _ (blk_mem h)) j
def liv (b : Bls) (x y : List Int) (a : Int) : Bool := decide (33 ≤ a ∧ a ≤ (b.length : Int) - 1) && (bit x a.toNat && !decide (a ∈ y))
theorem liv_nat {b : Bls} {x y : List Int} {a : Int} (h : liv b x y a = true) : ∃ m : Nat, a = (m : Int) ∧ 33 ≤ m ∧ m < b.length ∧ bit x m = true ∧ (m : Int) ∉ y := by
  unfold liv at h
  simp only [Bool.and_eq_true, decide_eq_true_eq, Bool.not_eq_true', decide_eq_false_iff_not] at h
  obtain ⟨⟨h1, h2⟩, h3, h4⟩ := h
  obtain ⟨m, rfl⟩ := Int.eq_ofNat_of_zero_le (show 0 ≤ a by omega)
  exact ⟨m, rfl, by omega, by omega, by simpa using h3, h4⟩
theorem s_has_eq {l : List Int} {n : Int} (hl : l.length ≤ 1048576) : s_l5Has l n = some (decide (n ∈ l)) := by
  unfold s_l5Has
  refine Ok.eq (Ok.bind (Q := fun r => (r = .inl () ∧ n ∉ l) ∨ (r = .inr true ∧ n ∈ l)) ?_ ?_)
  · refine Ok.loop (fun y => ∃ k : Nat, k ≤ l.length ∧ y = (n, l, ((l.length : Nat) : Int), ((k : Nat) : Int)) ∧ ∀ j (h : j < l.length), j < k → l[j] ≠ n) (fun y => (y.2.2.1 - y.2.2.2).toNat) ⟨0, by omega, rfl, fun j _ h => by omega⟩ ?_
    rintro _ ⟨k, hk, rfl, hn⟩
    unfold s_l5Has_L1
    dsimp only
    refine Ok.ite (fun hc => ?_) fun hc => Ok.mk (.inl ⟨rfl, fun hm => ?_⟩)
    · have hlt : k < l.length := by simpa using hc
      have hg : l[Int.toNat ((k : Nat) : Int)]? = some l[k] := by simp [hlt]
      have e1 := ix64 (i := k) (by omega)
      refine Ok.yes (by simp) (Ok.bind_eq hg (Ok.ite (fun he => Ok.mk (.inr ⟨rfl, ?_⟩)) fun he => Ok.mk ⟨⟨k + 1, by omega, by rw [e1], fun j hj hjk => ?_⟩, ?_⟩))
      · have he' : l[k] = n := by simpa using he
        rw [← he']; exact List.getElem_mem _
      · by_cases hjk' : j = k
        · subst hjk'; intro hh; exact he (by simp [hh])
        · exact hn j hj (by omega)
      · dsimp only; rw [e1]; omega
    · obtain ⟨j, hj, he⟩ := List.getElem_of_mem hm
      have : ¬ k < l.length := by simpa using hc
      exact hn j hj (by omega) he
  · rintro r (⟨rfl, h⟩ | ⟨rfl, h⟩)
    · exact Ok.mk (by simp [h])
    · exact Ok.mk (by simp [h])
theorem contains_eq {l : List Int} {n : Int} (hl : l.length ≤ 1048576) : slices_Contains_int_int l n = some (decide (n ∈ l)) := by
  refine Ok.eq ((contains_ok hl).mono fun r hr => ?_)
  by_cases h : n ∈ l
  · rw [decide_eq_true h]; exact hr.2 h
  · rw [decide_eq_false h]
    cases r with
    | false => rfl
    | true => exact absurd (hr.1 rfl) h
theorem s_live_eq {b : Bls} {x y z : List Int} (g : RS b x y) (a : Int) : s_l5Live b x y z a = some (liv b x y a) := by
  have hn := g.hn; have hx := g.hx
  unfold s_l5Live liv
  rw [s_In_eq, w64 (by omega) (by omega), Option.bind_some]
  by_cases h1 : 33 ≤ a ∧ a ≤ (b.length : Int) - 1
  · obtain ⟨m, rfl⟩ := Int.eq_ofNat_of_zero_le (show 0 ≤ a by omega)
    rw [decide_eq_true h1, if_pos rfl, s_used_eq (by omega) (by omega), Option.bind_some, Int.toNat_natCast]
    cases bit x m with
    | false => rfl
    | true => rw [if_pos rfl, s_has_eq g.hy]; rfl
  · rw [decide_eq_false h1]; rfl
theorem i_isBlockF_eq {b : Bls} {x y z : List Int} (g : RS b x y) (a : Int) : i_Space_isBlock_ffff a b x y z = some (decide (33 ≤ a ∧ a ≤ (b.length : Int) - 1) && bit x a.toNat, b, x, y, z) := by
  have hn := g.hn; have hx := g.hx
  unfold i_Space_isBlock_ffff
  rw [i_within_eq, w64 (by omega) (by omega), Option.bind_some]
  by_cases h1 : 33 ≤ a ∧ a ≤ (b.length : Int) - 1
  · obtain ⟨m, rfl⟩ := Int.eq_ofNat_of_zero_le (show 0 ≤ a by omega)
    rw [decide_eq_true h1, if_pos rfl, i_used_eq (by omega) (by omega), Option.bind_some, Int.toNat_natCast]
    rfl
  · rw [decide_eq_false h1]; rfl
theorem i_hereF_eq {b : Bls} {x y z : List Int} (g : RS b x y) (a : Int) : i_Space_isHere_ffff a b x y z = some (liv b x y a, b, x, y, z) := by
  unfold i_Space_isHere_ffff liv
  rw [i_isBlockF_eq g, Option.bind_some]
  dsimp only
  cases decide (33 ≤ a ∧ a ≤ (b.length : Int) - 1) with
  | false => rfl
  | true =>
    cases bit x a.toNat with
    | false => rfl
    | true => rw [if_pos (show (true && true) = true from rfl), contains_eq g.hy]; rfl
theorem i_used1_eq {b : Bls} {bits y z : List Int} {k : Nat} (h : k ≤ 1048576) (hk : k / 8 < bits.length) : i_Space_used_r (b, bits, y, z) ((k : Nat) : Int) = some (bit bits k) := by
  unfold i_Space_used_r bit
  dsimp only
  rw [dv8 h, md8, if_pos (by simp), if_pos (by simp; omega), Int.toNat_natCast, List.getElem?_eq_getElem hk, Option.bind_some, if_pos (by simp), if_pos (by simp; omega)]
  rfl
theorem i_isBlock1_eq {b : Bls} {x y z : List Int} (g : RS b x y) (a : Int) : i_Space_isBlock_r (b, x, y, z) a = some (decide (33 ≤ a ∧ a ≤ (b.length : Int) - 1) && bit x a.toNat) := by
  have hn := g.hn; have hx := g.hx
  unfold i_Space_isBlock_r
  dsimp only
  rw [i_within_eq, w64 (by omega) (by omega), Option.bind_some]
  by_cases h1 : 33 ≤ a ∧ a ≤ (b.length : Int) - 1
  · obtain ⟨m, rfl⟩ := Int.eq_ofNat_of_zero_le (show 0 ≤ a by omega)
    rw [decide_eq_true h1, if_pos rfl, i_used1_eq (by omega) (by omega), Option.bind_some, Int.toNat_natCast]
    rfl
  · rw [decide_eq_false h1]; rfl
theorem i_here1_eq {b : Bls} {x y z : List Int} (g : RS b x y) (a : Int) : i_Space_isHere_r (b, x, y, z) a = some (liv b x y a) := by
  unfold i_Space_isHere_r liv
  rw [i_isBlock1_eq g, Option.bind_some]
  dsimp only
  cases decide (33 ≤ a ∧ a ≤ (b.length : Int) - 1) with
  | false => rfl
  | true =>
    cases bit x a.toNat with
    | false => rfl
    | true => rw [if_pos (show (true && true) = true from rfl), contains_eq g.hy]; rfl
def rz (c : List Int) (n : Nat) : Bool := (c.drop n).all fun v => decide (v = 0)
theorem idx_loop (L : (List Int × (Int × Int)) → Option ((List Int × (Int × Int)) ⊕ (Unit ⊕ Int))) (p : Int → Bool) (l : List Int)
    (h : ∀ k, k < l.length → L (l, ((l.length : Nat) : Int), ((k : Nat) : Int)) = some (if p (gb l k) = true then .inr (.inr ((k : Nat) : Int)) else .inl (l, ((l.length : Nat) : Int), ((k + 1 : Nat) : Int))))
    (h2 : L (l, ((l.length : Nat) : Int), ((l.length : Nat) : Int)) = some (.inr (.inl ()))) :
    ∃ r, loopG L (l, ((l.length : Nat) : Int), 0) = some r ∧ ((r = .inl () ∧ (l.any p) = false) ∨ ∃ k : Nat, r = .inr ((k : Nat) : Int) ∧ (l.any p) = true) := by
  rcases fst_loop L (fun k => (l, ((l.length : Nat) : Int), ((k : Nat) : Int))) (fun k => !(p (gb l k))) (fun k => ((k : Nat) : Int)) () l.length (fun k hk => by
    rw [h k hk]; cases p (gb l k) <;> rfl) h2 with ⟨ha, hl⟩ | ⟨k, hk, hp, _, hl⟩
  · refine ⟨_, hl, .inl ⟨rfl, ?_⟩⟩
    rw [List.any_eq_false]
    intro v hv
    obtain ⟨j, hj, rfl⟩ := List.getElem_of_mem hv
    have := ha j hj
    unfold gb at this
    rw [List.getElem?_eq_getElem hj, Option.getD_some] at this
    simpa using this
  · refine ⟨_, hl, .inr ⟨k, rfl, ?_⟩⟩
    rw [List.any_eq_true]
    refine ⟨_, List.mem_of_getElem? (gb_some hk), ?_⟩
    simpa using hp
theorem any_rz (c : List Int) (n : Nat) : ((c.drop n).any fun v => decide (¬ v = 0)) = !(rz c n) := by
  unfold rz
  induction c.drop n with
  | nil => rfl
  | cons a l ih => rw [List.any_cons, List.all_cons, ih]; by_cases h : a = 0 <;> simp [h]
def num (c : List Int) (i : Nat) : Int := gb c i * 256 + gb c (i + 1)
theorem num_lt {c : List Int} (h : U8s c) (i : Nat) : 0 ≤ num c i ∧ num c i ≤ 65535 := by
  have h1 := gb_u8 h i; have h2 := gb_u8 h (i + 1)
  unfold num; omega
theorem or256 {a b : Int} (ha : 0 ≤ a ∧ a ≤ 255) (hb : 0 ≤ b ∧ b ≤ 255) : (((BitVec.ofInt (IntKind.bits .i64) (a * 256) ||| BitVec.ofInt (IntKind.bits .i64) b).toNat : Nat) : Int) = a * 256 + b := by
  obtain ⟨n, rfl⟩ := Int.eq_ofNat_of_zero_le ha.1
  obtain ⟨m, rfl⟩ := Int.eq_ofNat_of_zero_le hb.1
  have h1 : ((n : Nat) : Int) * 256 = ((256 * n : Nat) : Int) := by omega
  rw [h1, BitVec.ofInt_natCast, BitVec.ofInt_natCast, BitVec.toNat_or, BitVec.toNat_ofNat, BitVec.toNat_ofNat, show IntKind.bits .i64 = 64 from rfl, Nat.mod_eq_of_lt (by omega), Nat.mod_eq_of_lt (by omega)]
  have h2 := Nat.two_pow_add_eq_or_of_lt (i := 8) (b := m) (by omega) n
  rw [show (2 : Nat) ^ 8 = 256 from rfl] at h2
  rw [← h2]; omega
theorem numberAt_eq {c : List Int} (hu : U8s c) {i : Nat} (h : i + 1 < c.length) (hi : i ≤ 1048576) : i_numberAt c ((i : Nat) : Int) = some (num c i) := by
  have u1 := gb_u8 hu i; have u2 := gb_u8 hu (i + 1)
  unfold i_numberAt
  rw [iy (by omega), Int.toNat_natCast, gb_some (by omega), Option.bind_some, iy (by omega), ix64 hi, iy (by omega), Int.toNat_natCast, gb_some h, Option.bind_some,
    show (2 : Int) ^ (min (Int.toNat 8) (IntKind.bits .i64)) = 256 from rfl, w64 (n := gb c i) (by omega) (by omega), w64 (n := gb c i * 256) (by omega) (by omega), w64 (n := gb c (i + 1)) (by omega) (by omega), or256 u1 u2, w64 (by omega) (by omega)]
  rfl
def pcTx (b : Bls) (a : Int) : List UInt8 := textOf (((blk b a.toNat).drop 3).take (gb (blk b a.toNat) 2).toNat)
def pcG (c : List Int) : Bool := decide (gb c 0 = 83) && (decide (1 ≤ gb c 1 ∧ gb c 1 ≤ 250) && (decide (1 ≤ gb c 2 ∧ gb c 2 ≤ 40) && rz c (3 + (gb c 2).toNat)))
def pcB (b : Bls) (x y : List Int) (a : Int) : Bool := liv b x y a && pcG (blk b a.toNat)
end Go.V.G

set_option linter.unusedVariables false
set_option linter.unusedSimpArgs false
set_option maxRecDepth 100000
namespace Go.V.G
open Go.V
theorem wr256 {a b : Int} (ha : 0 ≤ a ∧ a ≤ 255) (hb : 0 ≤ b ∧ b ≤ 255) : IntKind.wrap .i64 ((IntKind.wrap .i64 ((IntKind.wrap .i64 a) * 256)) + (IntKind.wrap .i64 b)) = a * 256 + b := by
  rw [w64 (n := a) (by omega) (by omega), w64 (n := a * 256) (by omega) (by omega), w64 (n := b) (by omega) (by omega), w64 (by omega) (by omega)]
theorem wr22 {k : Nat} (h : k ≤ 1048576) : IntKind.wrap .i64 (2 + (IntKind.wrap .i64 (2 * ((k : Nat) : Int)))) = ((2 + 2 * k : Nat) : Int) := by
  rw [w64 (n := 2 * ((k : Nat) : Int)) (by omega) (by omega), w64 (by omega) (by omega)]; omega
end Go.V.G

set_option linter.unusedVariables false
set_option linter.unusedSimpArgs false
set_option maxRecDepth 100000
namespace Go.V.G
open Go.V
noncomputable def pt (z : List Int) (n : Int) : List Int := (s_l5Put z n).getD []
theorem pt_eq {z : List Int} (hz : z.length ≤ 1048576) (hr : Ris z) (n : Int) : s_l5Put z n = some (pt z n) ∧ i_insert z n = some (pt z n) ∧ (pt z n).length ≤ z.length + 1 ∧ Ris (pt z n) ∧ ∀ v, v ∈ pt z n ↔ v ∈ z ∨ v = n := by
  obtain ⟨z', h1, h2, h3, h4, h5⟩ := put_both3 hz hr n
  have e : pt z n = z' := by unfold pt; rw [h1]; rfl
  rw [e]; exact ⟨h1, h2, h3, h4, h5⟩
def padB (d : List Int) : List Int := d ++ List.replicate (128 - d.length) 0
theorem padB_len {d : List Int} (h : d.length ≤ 128) : (padB d).length = 128 := by unfold padB; simp; omega
theorem i_padded_eq {d : List Int} (h : d.length ≤ 128) : i_padded d 128 = some (padB d) := by
  unfold i_padded padB
  rw [w64 (by omega) (by omega), iy (by omega), show Int.toNat ((128 : Int) - ((d.length : Nat) : Int)) = 128 - d.length by omega, if_pos (by simp only [roomFor, decide_eq_true_eq, List.length_replicate]; omega)]
theorem s_lay_eq {b : Bls} {x y z d : List Int} {m : Nat} (hd : d.length ≤ 128) (hm : m < b.length) (hz : z.length ≤ 1048576) (hr : Ris z) :
    s_l5Lay_oooo ((m : Nat) : Int) d b x y z = some (b.set m (padB d), x, y, pt z ((m : Nat) : Int)) := by
  obtain ⟨h1, _⟩ := pt_eq hz hr ((m : Nat) : Int)
  unfold s_l5Lay_oooo padB
  rw [iy (by omega), iy (by omega), if_pos (by simp [roomFor]), iy (by omega), iy (by omega), Nat.zero_add, Int.toNat_natCast, blk_some hm, Option.bind_some, Option.bind_some, h1, Option.bind_some,
    show Int.toNat 128 = 128 from rfl, List.length_replicate, List.take_of_length_le hd, List.drop_replicate]
theorem i_lay_eq {b : Bls} {x y z d : List Int} {m : Nat} (hd : d.length = 128) (hm : m < b.length) (hz : z.length ≤ 1048576) (hr : Ris z) :
    i_Space_lay_oooo ((m : Nat) : Int) d b x y z = some (b.set m d, x, y, pt z ((m : Nat) : Int)) := by
  obtain ⟨_, h1, _⟩ := pt_eq hz hr ((m : Nat) : Int)
  unfold i_Space_lay_oooo
  rw [clone_any (by omega), Option.bind_some, iy (by omega), iy (by omega), Nat.zero_add, Int.toNat_natCast, blk_some hm, Option.bind_some, Option.bind_some, h1]; rfl
structure Pcs (b : Bls) (x y l : List Int) : Prop where
  all : ∀ a ∈ l, pcB b x y a = true
  nd : l.Nodup
  len : l.length ≤ 3
theorem GS.rs {b : Bls} {x y z : List Int} (g : GS b x y z) (h : SB b x y z) (hu : ∀ c ∈ b, U8s c) : RS b x y := ⟨g.hb, g.hk, hu, g.hx, h.y⟩
end Go.V.G

set_option linter.unusedVariables false
set_option linter.unusedSimpArgs false
set_option maxRecDepth 100000
namespace Go.V.G
open Go.V
abbrev Wst := Bls × (List Int × List Int)
structure Ws (n : Nat) (s : Wst) (q : Nat) : Prop where
  hn : s.1.length = n
  hk : ∀ c ∈ s.1, c.length = 128
  hu : ∀ c ∈ s.1, U8s c
  hy : Ris s.2.1
  hz : Ris s.2.2
  ly : s.2.1.length ≤ q
  lz : s.2.2.length ≤ q
theorem Ws.more {n q r : Nat} {s : Wst} (h : Ws n s q) (hr : q ≤ r) : Ws n s r := ⟨h.hn, h.hk, h.hu, h.hy, h.hz, Nat.le_trans h.ly hr, Nat.le_trans h.lz hr⟩
theorem blk_set_ne {b : Bls} {i j : Nat} {c : List Int} (h : i ≠ j) : blk (b.set i c) j = blk b j := by unfold blk; rw [List.getElem?_set_ne h]
theorem blk_set_eq {b : Bls} {i : Nat} {c : List Int} (h : i < b.length) : blk (b.set i c) i = c := by unfold blk; rw [List.getElem?_set_self h]; rfl
theorem Ws.setB {n q : Nat} {s : Wst} (h : Ws n s q) (hq : q ≤ 1048000) {i : Nat} {c : List Int} (hc : c.length = 128) (hu : U8s c) : Ws n (s.1.set i c, s.2.1, pt s.2.2 ((i : Nat) : Int)) (q + 1) := by
  have hl := h.lz; have hl2 := h.ly
  obtain ⟨_, _, h3, h4, _⟩ := pt_eq (z := s.2.2) (by omega) h.hz ((i : Nat) : Int)
  exact ⟨by rw [List.length_set]; exact h.hn, fun d hd => by
    rcases List.mem_or_eq_of_mem_set hd with hd | rfl
    · exact h.hk d hd
    · exact hc, fun d hd => by
    rcases List.mem_or_eq_of_mem_set hd with hd | rfl
    · exact h.hu d hd
    · exact hu, h.hy, h4, by dsimp only; omega, by dsimp only; omega⟩
theorem u8_setv {c : List Int} (h : U8s c) {i : Nat} {v : Int} (hv : 0 ≤ v ∧ v ≤ 255) : U8s (c.set i v) := fun w hw => by
  rcases List.mem_or_eq_of_mem_set hw with hw | rfl
  · exact h w hw
  · exact hv
theorem GS.ws {b : Bls} {x y z : List Int} (g : GS b x y z) (hu : ∀ c ∈ b, U8s c) : Ws b.length (b, y, z) 127 := by
  have hb := g.hb
  obtain ⟨r1, r2⟩ := ris_of g.hy
  obtain ⟨r3, r4⟩ := ris_of g.hz
  have l1 : y.length ≤ 127 := ris_len r1 (fun i hi => by have := r2 i hi; omega)
  have l2 : z.length ≤ 127 := ris_len r3 (fun i hi => by have := r4 i hi; omega)
  exact ⟨rfl, g.hk, hu, r1, r3, l1, l2⟩
theorem Ws.w {n q : Nat} {s : Wst} (h : Ws n s q) (hn : n ≤ 160) (hq : q ≤ 1000) {x : List Int} (hx : x.length = 20) : w_Space s.1 x s.2.1 s.2.2 ≤ 5000000 := by
  have hw : ∀ l : Bls, (∀ c ∈ l, c.length = 128) → wsum w_ByteS l = l.length * 128 := by
    intro l
    induction l with
    | nil => intro _; rfl
    | cons c l ih =>
      intro hh
      simp only [wsum, List.length_cons]
      rw [ih (fun d hd => hh d (by simp [hd]))]
      have e : w_ByteS c = c.length := rfl
      rw [e, hh c (by simp)]; omega
  have h1 := hw s.1 h.hk
  have h2 := h.hn; have h3 := h.ly; have h4 := h.lz
  unfold w_Space w_ByteSS w_ByteS w_IntS
  unfold w_ByteS at h1
  rw [h1]; omega
end Go.V.G

set_option linter.unusedVariables false
set_option linter.unusedSimpArgs false
set_option maxRecDepth 100000
namespace Go.V.G
open Go.V
def shr (b : Bls) (hv : List Int) (k : Nat) (p : List UInt8) : Int := match hv[k]? with
  | some a => if pcTx b a = p ∧ gb (blk b a.toNat) 1 < 250 then a else 0
  | none => 0
def zs (l : List Int) : Nat := l.countP fun a => decide (a = 0)
end Go.V.G

set_option linter.unusedVariables false
set_option linter.unusedSimpArgs false
set_option maxRecDepth 100000
namespace Go.V.G
open Go.V
theorem Wk.wq {n lz : Nat} {b : Bls} {x z : List Int} (h : Wk n b x z lz) : Wq b x z lz := ⟨by have := h.hn; have := h.hb; omega, h.hx, h.hu, h.hr, h.hz⟩
theorem tk_ok {n lz : Nat} {b : Bls} {x y z : List Int} (h : Wk n b x z lz) (hlz : lz ≤ 1048000) :
    (cnt x n = 0 ∧ i_Space_take_oooo b x y z = some (0, false, b, x, y, z)) ∨
    ∃ k : Nat, (33 ≤ k ∧ k < n) ∧ bit x k = false ∧ s_l5Take_oooo b x y z = some (((k : Nat) : Int), b.set k zeroB, setB x k, y, pt z ((k : Nat) : Int)) ∧
      i_Space_take_oooo b x y z = some (((k : Nat) : Int), true, b.set k zeroB, setB x k, y, pt z ((k : Nat) : Int)) ∧ Wk n (b.set k zeroB) (setB x k) (pt z ((k : Nat) : Int)) (lz + 1) ∧ cnt (setB x k) n + 1 = cnt x n := by
  rcases take_wk (y := y) h hlz with h0 | ⟨k, b', x', z', hk, hs, hi, hw, hc⟩
  · exact .inl h0
  · right
    obtain ⟨r, hr, hq⟩ := take_q (y := y) h.wq hlz
    rw [hs] at hr
    have hr' := Option.some.inj hr
    rcases hq with e | ⟨k2, z2, h1, h2, h3, e⟩
    · rw [e] at hr'
      have := congrArg (·.1) hr'
      dsimp only at this
      omega
    · rw [e] at hr'
      have ek := congrArg (·.1) hr'
      have eb := congrArg (·.2.1) hr'
      have ex := congrArg (·.2.2.1) hr'
      have ez := congrArg (·.2.2.2.2) hr'
      dsimp only at ek eb ex ez
      obtain rfl : k = k2 := by omega
      have e2 : z2 = pt z ((k : Nat) : Int) := by unfold pt; rw [h3]; rfl
      subst eb ex ez
      rw [e2] at hs hi hw
      exact ⟨k, hk, h2, hs, hi, hw, hc⟩
theorem Wk.lay {n lz : Nat} {b : Bls} {x z c : List Int} (h : Wk n b x z lz) (hlz : lz ≤ 1048000) (hc : c.length = 128) (k : Nat) : Wk n (b.set k c) x (pt z ((k : Nat) : Int)) (lz + 1) := by
  have hz := h.hz
  obtain ⟨_, _, h3, h4, _⟩ := pt_eq (z := z) (by omega) h.hr ((k : Nat) : Int)
  exact ⟨h.hn, by rw [List.length_set]; exact h.hb, fun d hd => by
    rcases List.mem_or_eq_of_mem_set hd with hd | rfl
    · exact h.hk d hd
    · exact hc, h.hx, h.hu, h.hlow, h4, by omega⟩
structure Sh (b : Bls) (x y sh : List Int) (ps : List (List UInt8)) : Prop where
  len : sh.length = ps.length
  m3 : ps.length ≤ 3
  pc : ∀ p ∈ ps, 1 ≤ p.length ∧ p.length ≤ 40
  at_ : ∀ j, j < ps.length → sh[j]? = some 0 ∨ ∃ m : Nat, sh[j]? = some ((m : Nat) : Int) ∧ pcB b x y ((m : Nat) : Int) = true ∧ pcTx b ((m : Nat) : Int) = ps[j]?.getD [] ∧ gb (blk b m) 1 < 250
  ne : ∀ (i j : Nat) (v : Int), i < j → sh[i]? = some v → sh[j]? = some v → v = 0
structure Li (n : Nat) (b : Bls) (x z sh : List Int) (ps : List (List UInt8)) (k : Nat) (A : List Int) (b' : Bls) (x' z' : List Int) (q : Nat) : Prop where
  wk : Wk n b' x' z' q
  bu : ∀ c ∈ b', U8s c
  len : A.length = k
  nd : A.Nodup
  at_ : ∀ j, j < k → ∃ m : Nat, A[j]? = some ((m : Nat) : Int) ∧ (33 ≤ m ∧ m < n) ∧ bit x' m = true ∧
    ((sh[j]? = some 0 ∧ bit x m = false ∧ blk b' m = padB ([83, 1, (((ps[j]?.getD []).length : Nat) : Int)] ++ bytesOf (ps[j]?.getD []))) ∨ (sh[j]? = some ((m : Nat) : Int) ∧ blk b' m = (blk b m).set 1 (gb (blk b m) 1 + 1)))
  oth : ∀ i, i < 160 → ((i : Nat) : Int) ∉ A → blk b' i = blk b i ∧ bit x' i = bit x i
  up : ∀ i, i < 160 → bit x i = true → bit x' i = true
  zm : ∀ v ∈ z', v ∈ z ∨ v ∈ A
  ct : cnt x' n + zs (sh.take k) = cnt x n
theorem u8_pad {d : List Int} (h : U8s d) : U8s (padB d) := fun v hv => by
  unfold padB at hv
  rcases List.mem_append.1 hv with hv | hv
  · exact h v hv
  · rw [List.eq_of_mem_replicate hv]; omega
def npc (p : List UInt8) : List Int := [83, 1, ((p.length : Nat) : Int)] ++ bytesOf p
end Go.V.G

set_option linter.unusedVariables false
set_option linter.unusedSimpArgs false
set_option maxRecDepth 100000
namespace Go.V.G
open Go.V
def ats (m : Nat) (A : List Int) : List Int := [84, ((m : Nat) : Int)] ++ A.flatMap fun a => [0, a]
structure Lt (n : Nat) (b : Bls) (x z sh : List Int) (ps : List (List UInt8)) (A : List Int) (r : Nat) (b' : Bls) (x' z' : List Int) (q : Nat) : Prop where
  wk : Wk n b' x' z' q
  bu : ∀ c ∈ b', U8s c
  len : A.length = ps.length
  nd : A.Nodup
  rt : (33 ≤ r ∧ r < n) ∧ bit x r = false ∧ bit x' r = true ∧ blk b' r = padB (ats ps.length A) ∧ ((r : Nat) : Int) ∉ A
  at_ : ∀ j, j < ps.length → ∃ m : Nat, A[j]? = some ((m : Nat) : Int) ∧ (33 ≤ m ∧ m < n) ∧ bit x' m = true ∧
    ((sh[j]? = some 0 ∧ bit x m = false ∧ blk b' m = padB (npc (ps[j]?.getD []))) ∨ (sh[j]? = some ((m : Nat) : Int) ∧ blk b' m = (blk b m).set 1 (gb (blk b m) 1 + 1)))
  oth : ∀ i, i < 160 → ((i : Nat) : Int) ∉ A → i ≠ r → blk b' i = blk b i ∧ bit x' i = bit x i
  up : ∀ i, i < 160 → bit x i = true → bit x' i = true
  zm : ∀ v ∈ z', v ∈ z ∨ v ∈ A ∨ v = ((r : Nat) : Int)
  ct : cnt x' n + zs sh + 1 = cnt x n
theorem GS.wk {b : Bls} {x y z : List Int} (g : GS b x y z) (hu : U8s x) : Wk b.length b x z 127 := by
  obtain ⟨r1, r2⟩ := ris_of g.hz
  have hb := g.hb
  exact ⟨g.hb, rfl, g.hk, g.hx, hu, fun k hk => by
    have := g.hbits k (by omega)
    unfold bG at this
    rw [decide_eq_true hk, decide_eq_false (show ¬ b.length ≤ k by omega)] at this
    simpa using this, r1, ris_len r1 (fun i hi => by have := r2 i hi; omega)⟩
end Go.V.G

set_option linter.unusedVariables false
set_option linter.unusedSimpArgs false
set_option maxRecDepth 100000
namespace Go.V.G
open Go.V
structure TkI (n : Nat) (b : Bls) (x z l : List Int) (b' : Bls) (x' z' : List Int) : Prop where
  nd : l.Nodup
  fr : ∀ v ∈ l, ∃ k : Nat, v = ((k : Nat) : Int) ∧ (33 ≤ k ∧ k < n) ∧ bit x k = false ∧ bit x' k = true
  oth : ∀ i, i < 160 → ((i : Nat) : Int) ∉ l → blk b' i = blk b i ∧ bit x' i = bit x i
  up : ∀ i, i < 160 → bit x i = true → bit x' i = true
  zm : ∀ v ∈ z', v ∈ z ∨ v ∈ l
  bu : ∀ c ∈ b', U8s c
theorem zeroB_u8 : U8s zeroB := fun v hv => by
  unfold zeroB at hv
  rw [List.eq_of_mem_replicate hv]; omega
def own (data : List Int) (i : Nat) : List Int := (data.drop (124 * i)).take 124
structure Lr (n : Nat) (b : Bls) (x z data l : List Int) (b' : Bls) (x' z' : List Int) : Prop where
  wk : Wk n b' x' z' 200
  bu : ∀ c ∈ b', U8s c
  len : l.length = nd data.length
  nd : l.Nodup
  at_ : ∀ j, j < l.length → ∃ k : Nat, l[j]? = some ((k : Nat) : Int) ∧ (33 ≤ k ∧ k < n) ∧ bit x k = false ∧ bit x' k = true ∧ blk b' k = blkOf data l j
  oth : ∀ i, i < 160 → ((i : Nat) : Int) ∉ l → blk b' i = blk b i ∧ bit x' i = bit x i
  up : ∀ i, i < 160 → bit x i = true → bit x' i = true
  zm : ∀ v ∈ z', v ∈ z ∨ v ∈ l
  ct : cnt x' n + l.length = cnt x n
theorem pad_rz {d : List Int} (n : Nat) (h : n = d.length) : rz (padB d) n = true := by
  subst h
  unfold rz padB
  rw [List.drop_left, List.all_eq_true]
  intro v hv
  rw [List.eq_of_mem_replicate hv]; rfl
end Go.V.G

set_option linter.unusedVariables false
set_option linter.unusedSimpArgs false
set_option maxRecDepth 100000
namespace Go.V.G
open Go.V
theorem gs_grow {n q : Nat} {b b2 : Bls} {x x2 y z z2 : List Int} (g : GS b x y z) (hn : b.length = n) (wk : Wk n b2 x2 z2 q) (up : ∀ i, i < 160 → bit x i = true → bit x2 i = true)
    (hi : ∀ i, n ≤ i → i < 160 → bit x2 i = bit x i) (zm : ∀ v ∈ z2, v ∈ z ∨ (33 ≤ v ∧ v < (n : Int) ∧ bit x2 v.toNat = true)) : GS b2 x2 y z2 := by
  have hb := wk.hb
  have hn2 := wk.hn
  obtain ⟨r1, _⟩ := ris_of g.hy
  have m1 := up_mem g.hy
  have m2 := up_mem g.hz
  refine ⟨by omega, wk.hx, wk.hk, fun i hi160 => ?_, upB_of r1 fun v hv => ?_, upB_of wk.hr fun v hv => ?_⟩
  · unfold bG
    by_cases h1 : i < 33
    · rw [wk.hlow i h1, decide_eq_true h1, decide_eq_false (show ¬ b2.length ≤ i by omega)]; rfl
    · rw [decide_eq_false h1]
      by_cases h2 : b2.length ≤ i
      · have := g.hbits i hi160
        unfold bG at this
        rw [decide_eq_false h1, decide_eq_true (show b.length ≤ i by omega)] at this
        rw [hi i (by omega) hi160, decide_eq_true h2]
        exact this
      · rw [decide_eq_false h2]; rfl
  · obtain ⟨p1, p2, p3⟩ := m1 v hv
    exact ⟨p1, by omega, up _ (by omega) p3⟩
  · rcases zm v hv with hv | ⟨p1, p2, p3⟩
    · obtain ⟨p1, p2, p3⟩ := m2 v hv
      exact ⟨p1, by omega, up _ (by omega) p3⟩
    · exact ⟨p1, by omega, p3⟩
theorem Lr.gs {b b2 : Bls} {x y z data l x2 z2 : List Int} (h : Lr b.length b x z data l b2 x2 z2) (g : GS b x y z) : GS b2 x2 y z2 := by
  have hn := h.wk.hn
  refine gs_grow g rfl h.wk h.up (fun i hi hi2 => ?_) fun v hv => ?_
  · refine (h.oth i hi2 fun hh => ?_).2
    obtain ⟨j, hj, he⟩ := List.getElem_of_mem hh
    obtain ⟨k, e, hk, _⟩ := h.at_ j hj
    rw [List.getElem?_eq_getElem hj] at e
    have := Option.some.inj e
    omega
  · rcases h.zm v hv with hv | hv
    · exact .inl hv
    · right
      obtain ⟨j, hj, he⟩ := List.getElem_of_mem hv
      obtain ⟨k, e, hk, _, p, _⟩ := h.at_ j hj
      rw [List.getElem?_eq_getElem hj, he] at e
      have e' := Option.some.inj e
      subst e'
      exact ⟨by omega, by omega, by rw [Int.toNat_natCast]; exact p⟩
theorem Lt.gs {b b2 : Bls} {x y z sh A x2 z2 : List Int} {ps : List (List UInt8)} {r q : Nat} (h : Lt b.length b x z sh ps A r b2 x2 z2 q) (g : GS b x y z) : GS b2 x2 y z2 := by
  have hn := h.wk.hn
  have hlen := h.len
  obtain ⟨⟨r1, r2⟩, _, r4, _⟩ := h.rt
  have hA : ∀ v ∈ A, ∃ k : Nat, v = ((k : Nat) : Int) ∧ (33 ≤ k ∧ k < b.length) ∧ bit x2 k = true := fun v hv => by
    obtain ⟨j, hj, he⟩ := List.getElem_of_mem hv
    obtain ⟨k, e, hk, p, _⟩ := h.at_ j (by omega)
    rw [List.getElem?_eq_getElem hj, he] at e
    exact ⟨k, Option.some.inj e, hk, p⟩
  refine gs_grow g rfl h.wk h.up (fun i hi hi2 => ?_) fun v hv => ?_
  · refine (h.oth i hi2 (fun hh => ?_) (by omega)).2
    obtain ⟨k, e, hk, _⟩ := hA _ hh
    omega
  · rcases h.zm v hv with hv | hv | rfl
    · exact .inl hv
    · right
      obtain ⟨k, rfl, hk, p⟩ := hA v hv
      exact ⟨by omega, by omega, by rw [Int.toNat_natCast]; exact p⟩
    · exact .inr ⟨by omega, by omega, by rw [Int.toNat_natCast]; exact r4⟩
end Go.V.G

set_option linter.unusedVariables false
set_option linter.unusedSimpArgs false
set_option maxRecDepth 100000
namespace Go.V.G
open Go.V
structure Dr (b : Bls) (x y z : List Int) (q : Nat) : Prop where
  hb : 40 ≤ b.length ∧ b.length ≤ 160
  hk : ∀ c ∈ b, c.length = 128
  hu : ∀ c ∈ b, U8s c
  hx : x.length = 20
  hux : U8s x
  hy : Ris y
  hz : Ris z
  hlow : ∀ k, k < 33 → bit x k = true
  ly : y.length ≤ 300
  lz : z.length ≤ q
theorem Dr.sb {b : Bls} {x y z : List Int} {q : Nat} (d : Dr b x y z q) (hq : q ≤ 1000) : SB b x y z := ⟨by have := d.hb; omega, by have := d.ly; omega, by have := d.lz; omega⟩
theorem Dr.more {b : Bls} {x y z : List Int} {q q' : Nat} (d : Dr b x y z q) (hq : q ≤ q') : Dr b x y z q' := ⟨d.hb, d.hk, d.hu, d.hx, d.hux, d.hy, d.hz, d.hlow, d.ly, Nat.le_trans d.lz hq⟩
theorem Dr.flip {b : Bls} {x y z : List Int} {q : Nat} (d : Dr b x y z q) {i : Nat} (hi : i < b.length) (j : Nat) (v : Int) : Dr (b.set i (b[i].set j (IntKind.wrap .u8 v))) x y z q := by
  have hm := List.getElem_mem hi
  refine ⟨by rw [List.length_set]; exact d.hb, fun c hc => ?_, fun c hc => ?_, d.hx, d.hux, d.hy, d.hz, d.hlow, d.ly, d.lz⟩
  · rcases List.mem_or_eq_of_mem_set hc with hc | rfl
    · exact d.hk c hc
    · rw [List.length_set]; exact d.hk _ hm
  · rcases List.mem_or_eq_of_mem_set hc with hc | rfl
    · exact d.hu c hc
    · exact u8_setv (d.hu _ hm) (u8_wrap v)
theorem newDisk_z {m : Int} (h0 : 40 ≤ m) (h1 : m ≤ 160) : Ok (s_NewDisk m) fun r => (r.2.1.length : Int) = m ∧ (∀ x ∈ r.2.1, x = zeroB) := by
  unfold s_NewDisk
  refine Ok.bind_eq (s_In_eq _ _ _) (Ok.no (by simp [h0, h1]) ?_)
  refine Ok.bind (Q := fun r => (r.2.2.2.1.length : Int) = m ∧ (∀ x ∈ r.2.2.2.1, x = zeroB)) ?_ (fun r hr => Ok.mk hr)
  refine Ok.loop (fun y => 0 ≤ y.1 ∧ y.1 + (y.2.2.2.2.1.length : Int) = m ∧ ∀ x ∈ y.2.2.2.2.1, x = zeroB) (fun y => y.1.toNat) ⟨by dsimp only; omega, by simp, by simp⟩ ?_
  rintro ⟨n, a, b, c, bl, d, e, f⟩ ⟨q1, q2, q3⟩
  dsimp only at q1 q2 q3
  unfold s_NewDisk_L1
  refine Ok.ite (fun hc => ?_) fun hc => Ok.mk ⟨?_, q3⟩
  · have hn : 0 < n := by simpa using hc
    have e1 : IntKind.wrap .i64 (n - 1) = n - 1 := w64 (by omega) (by omega)
    refine Ok.yes (by decide) (Ok.yes (by decide) (Ok.yes (by decide) (Ok.yes ?_ (Ok.mk ⟨⟨?_, ?_, ?_⟩, ?_⟩))))
    · simp only [List.length_singleton, roomFor, decide_eq_true_eq]; omega
    · dsimp only; rw [e1]; omega
    · dsimp only; rw [e1, List.length_append, List.length_singleton]; omega
    · intro x hx
      rcases List.mem_append.1 hx with hx | hx
      · exact q3 x hx
      · rw [List.mem_singleton.1 hx]; rfl
    · dsimp only; rw [e1]; omega
  · have hn : n = 0 := by simp at hc; omega
    dsimp only
    omega
theorem fresh_dr {m : Int} (h0 : 40 ≤ m) (h1 : m ≤ 160) : Ok (s_l5Fresh m) fun r => Dr r.1 r.2 [] [] 0 := by
  unfold s_l5Fresh
  refine (newDisk_z h0 h1).bind ?_
  rintro ⟨k, bl, wr, on, lf⟩ ⟨b1, b2⟩
  dsimp only at b1 b2 ⊢
  refine Ok.yes (by simp) (Ok.yes (by simp) (Ok.yes (by simp [roomFor]) ?_))
  refine Ok.bind (Q := fun r => Dr r.1 r.2 [] [] 0) ?_ (fun r hr => Ok.mk hr)
  refine Ok.loop (fun y => ∃ (i : Nat) (x : List Int), i ≤ 33 ∧ y = (((i : Nat) : Int), bl, x) ∧ x.length = 20 ∧ U8s x ∧ ∀ k, k < i → bit x k = true) (fun y => (33 - y.1).toNat) ⟨0, _, by omega, rfl, by simp, fun v hv => by rw [List.eq_of_mem_replicate hv]; omega, fun k hk => absurd hk (by omega)⟩ ?_
  rintro _ ⟨i, x, hi, rfl, hx, hu, hlo⟩
  unfold s_l5Fresh_L1
  dsimp only
  refine Ok.ite (fun hc => ?_) fun hc => Ok.mk ⟨by dsimp only; omega, fun c hc => by rw [b2 c hc]; rfl, fun c hc => by rw [b2 c hc]; exact zeroB_u8, hx, hu, fun i j hi => by simp at hi, fun i j hi => by simp at hi, fun k hk => hlo k (by simp at hc; omega), by simp, by simp⟩
  have hlt : i < 33 := by simp at hc; omega
  have e1 := ix64 (i := i) (by omega)
  refine Ok.bind_eq (s_set_eq (by omega) (by omega)) (Ok.mk ⟨⟨i + 1, setB x i, by omega, by rw [e1], by unfold setB; rw [List.length_set]; exact hx, u8_set hu (by omega), fun k hk => by
    rw [bit_set hu (by omega) (by omega)]
    by_cases hki : k = i
    · simp [hki]
    · rw [hlo k (by omega), Bool.or_true]⟩, ?_⟩)
  dsimp only; rw [e1]; omega
theorem Lr.dr {b b2 : Bls} {x y z data l x2 z2 : List Int} {q : Nat} (h : Lr b.length b x z data l b2 x2 z2) (d : Dr b x y z q) : Dr b2 x2 y z2 300 :=
  ⟨by rw [h.wk.hb]; exact d.hb, h.wk.hk, h.bu, h.wk.hx, h.wk.hu, d.hy, h.wk.hr, h.wk.hlow, d.ly, by have := h.wk.hz; omega⟩
theorem Lt.dr {b b2 : Bls} {x y z sh A x2 z2 : List Int} {ps : List (List UInt8)} {r q q' : Nat} (h : Lt b.length b x z sh ps A r b2 x2 z2 q) (hq : q ≤ 300) (d : Dr b x y z q') : Dr b2 x2 y z2 300 :=
  ⟨by rw [h.wk.hb]; exact d.hb, h.wk.hk, h.bu, h.wk.hx, h.wk.hu, d.hy, h.wk.hr, h.wk.hlow, d.ly, by have := h.wk.hz; omega⟩
def Num (b : Bls) (v : Int) : Prop := 0 ≤ v ∧ v < (b.length : Int)
end Go.V.G

set_option linter.unusedVariables false
set_option linter.unusedSimpArgs false
set_option maxRecDepth 100000
namespace Go.V.G
open Go.V
def Nums (b : Bls) (l : List Int) : Prop := ∀ v ∈ l, Num b v
theorem Nums.snoc {b : Bls} {l : List Int} {v : Int} (h : Nums b l) (hv : Num b v) : Nums b (l ++ [v]) := fun w hw => by
  rcases List.mem_append.1 hw with hw | hw
  · exact h w hw
  · rw [List.mem_singleton.1 hw]; exact hv
theorem Nums.len {b c : Bls} {l : List Int} (h : Nums b l) (hc : c.length = b.length) : Nums c l := fun w hw => by
  have := h w hw
  unfold Num at this ⊢
  rw [hc]; exact this
theorem take_dr {b : Bls} {x y z : List Int} {q : Nat} (d : Dr b x y z q) (hq : q ≤ 1000) (hc : 0 < cnt x b.length) : Ok (s_l5Take_oooo b x y z) fun r => r.2.1.length = b.length ∧ r.2.2.2.1 = y ∧ Dr r.2.1 r.2.2.1 y r.2.2.2.2 (q + 1) ∧ cnt r.2.2.1 b.length + 1 = cnt x b.length := by
  have hw : Wk b.length b x z q := ⟨d.hb, rfl, d.hk, d.hx, d.hux, d.hlow, d.hz, d.lz⟩
  have hb := d.hb
  rcases tk_ok (y := y) hw (by omega) with ⟨h0, _⟩ | ⟨k, hk, hbk, hs, _, hw2, hcc⟩
  · omega
  · refine ⟨_, hs, List.length_set .., rfl, ⟨by dsimp only; rw [List.length_set]; exact d.hb, hw2.hk, fun c hc' => ?_, hw2.hx, hw2.hu, d.hy, hw2.hr, hw2.hlow, d.ly, hw2.hz⟩, hcc⟩
    rcases List.mem_or_eq_of_mem_set hc' with hc' | rfl
    · exact d.hu c hc'
    · exact zeroB_u8
end Go.V.G

set_option linter.unusedVariables false
set_option linter.unusedSimpArgs false
set_option maxRecDepth 100000
namespace Go.V.G
open Go.V
def pnums (c : List Int) : List Int := (List.range 32).map fun k => num c (1 + 2 * k)
theorem pnums_len (c : List Int) : (pnums c).length = 32 := by simp [pnums]
def pgB (b : Bls) (x y : List Int) (a kind : Int) : Bool := liv b x y a && (decide (gb (blk b a.toNat) 0 = kind) && rz (blk b a.toNat) 65)
def pg (b : Bls) (x y : List Int) (a kind : Int) : List Int × Bool := if pgB b x y a kind = true then (pnums (blk b a.toNat), true) else ([], false)
theorem pg_no {b : Bls} {x y : List Int} {a kind : Int} (h : pgB b x y a kind = false) : pg b x y a kind = ([], false) := by unfold pg; rw [h]; rfl
theorem pg_yes {b : Bls} {x y : List Int} {a kind : Int} (h : pgB b x y a kind = true) : pg b x y a kind = (pnums (blk b a.toNat), true) := by unfold pg; rw [h]; rfl
theorem wr21 {k : Nat} (h : k ≤ 1048576) : IntKind.wrap .i64 (1 + (IntKind.wrap .i64 (2 * ((k : Nat) : Int)))) = ((1 + 2 * k : Nat) : Int) := by
  rw [w64 (n := 2 * ((k : Nat) : Int)) (by omega) (by omega), w64 (by omega) (by omega)]; omega
theorem map_snoc {α : Type} (f : Nat → α) (k : Nat) : (List.range (k + 1)).map f = (List.range k).map f ++ [f k] := by rw [List.range_succ, List.map_append]; rfl
theorem rng_len {α : Type} (f : Nat → α) (k : Nat) : ((List.range k).map f).length = k := by simp
theorem s_nums_step {b : Bls} {x y z c : List Int} {m k : Nat} (hbm : b[m]? = some c) (hc : c.length = 128) (hu : U8s c) (hk : k < 32) :
    s_l6Numbers_L1 (((m : Nat) : Int), (List.range k).map (fun k => num c (1 + 2 * k)), ((k : Nat) : Int), b, x, y, z) = some (.inl (((m : Nat) : Int), (List.range (k + 1)).map (fun k => num c (1 + 2 * k)), ((k + 1 : Nat) : Int), b, x, y, z)) := by
  have e1 := wr21 (k := k) (by omega)
  have e2 := wr22 (k := k) (by omega)
  have u1 := gb_u8 hu (1 + 2 * k); have u2 := gb_u8 hu (2 + 2 * k)
  have ea := wr256 u1 u2
  have en : num c (1 + 2 * k) = gb c (1 + 2 * k) * 256 + gb c (2 + 2 * k) := by unfold num; rw [show 1 + 2 * k + 1 = 2 + 2 * k by omega]
  have g1 : c[1 + 2 * k]? = some (gb c (1 + 2 * k)) := gb_some (by omega)
  have g2 : c[2 + 2 * k]? = some (gb c (2 + 2 * k)) := gb_some (by omega)
  have hroom : ∀ v : Int, roomFor (((List.range k).map (fun k => num c (1 + 2 * k))).length + ([v] : List Int).length) 8 = true := fun v => by simp only [roomFor, decide_eq_true_eq, rng_len, List.length_singleton]; omega
  unfold s_l6Numbers_L1
  dsimp only
  simp (disch := omega) only [iy, e1, e2, Int.toNat_natCast, hbm, Option.bind_some, g1, g2, ea, ← en, ix64, hroom, if_true, map_snoc]
theorem s_nz_step {c l : List Int} {k : Nat} (hl : l.length ≤ 1048576) (hk : k < l.length) : s_l6Numbers_L2 (c, l, ((l.length : Nat) : Int), ((k : Nat) : Int)) = some (if decide (gb l k = 0) = true then .inl (c, l, ((l.length : Nat) : Int), ((k + 1 : Nat) : Int)) else .inr (.inr false)) := by
  unfold s_l6Numbers_L2
  dsimp only
  rw [iy (by omega), iy (by omega), Int.toNat_natCast, gb_some hk, Option.bind_some, ix64 (by omega)]
  by_cases h : gb l k = 0 <;> simp [h]
theorem all_gb (l : List Int) (p : Int → Bool) : (∀ j, j < l.length → p (gb l j) = true) ↔ l.all p = true := by
  rw [List.all_eq_true]
  constructor
  · intro h v hv
    obtain ⟨j, hj, rfl⟩ := List.getElem_of_mem hv
    have := h j hj
    unfold gb at this
    rwa [List.getElem?_eq_getElem hj, Option.getD_some] at this
  · intro h j hj
    exact h _ (List.mem_of_getElem? (gb_some hj))
theorem s_numbers_eq {b : Bls} {x y z : List Int} (g : RS b x y) (a kind : Int) : s_l6Numbers b x y z a kind = some (pg b x y a kind) := by
  unfold s_l6Numbers pg pgB
  rw [s_live_eq g, Option.bind_some]
  cases hl : liv b x y a with
  | false => rfl
  | true =>
    obtain ⟨m, rfl, h33, hm, _, _⟩ := liv_nat hl
    have hc := g.len hm
    have hu := g.hu _ (blk_mem hm)
    have hbm := blk_some hm
    rw [Int.toNat_natCast]
    generalize hcc : blk b m = c at *
    rw [if_neg (by simp), iy (by omega), hbm, Option.bind_some, iy (by omega), show Int.toNat 0 = 0 from rfl, gb_some (show 0 < c.length by omega), Option.bind_some, Option.bind_some]
    dsimp only
    by_cases h0 : gb c 0 = kind
    · rw [ino (not_not_intro h0), decide_eq_true h0]
      have hloop := loop_run s_l6Numbers_L1 (fun k => (((m : Nat) : Int), (List.range k).map (fun k => num c (1 + 2 * k)), ((k : Nat) : Int), b, x, y, z)) 32 (((m : Nat) : Int), pnums c, b, x, y, z)
        (fun k hk => s_nums_step hbm hc hu hk) (by
          unfold s_l6Numbers_L1
          dsimp only
          rw [ino (by omega)]
          rfl)
      rw [show loopG s_l6Numbers_L1 (((m : Nat) : Int), [], 0, b, x, y, z) = _ from hloop, Option.bind_some]
      dsimp only
      have hd : List.take (Int.toNat ((c.length : Nat) : Int) - Int.toNat 65) (List.drop (Int.toNat 65) c) = c.drop 65 := by
        rw [Int.toNat_natCast, show Int.toNat 65 = 65 from rfl]
        exact List.take_of_length_le (by rw [List.length_drop]; omega)
      rw [iy (by omega), Int.toNat_natCast, hbm, Option.bind_some, iy (by omega), iy (by omega), iy (by omega), iy (by omega), hd]
      have hdl : (c.drop 65).length = 63 := by rw [List.length_drop, hc]
      rcases fst_loop s_l6Numbers_L2 (fun k => (pnums c, c.drop 65, (((c.drop 65).length : Nat) : Int), ((k : Nat) : Int))) (fun k => decide (gb (c.drop 65) k = 0)) (fun _ => false) (pnums c) (c.drop 65).length
        (fun k hk => s_nz_step (by omega) hk) (by
          unfold s_l6Numbers_L2
          dsimp only
          rw [ino (by omega)]) with ⟨ha, hlp⟩ | ⟨k, hk, hp, _, hlp⟩
      · have hr : rz c 65 = true := (all_gb (c.drop 65) fun v => decide (v = 0)).1 ha
        rw [show loopG s_l6Numbers_L2 (pnums c, c.drop 65, (((c.drop 65).length : Nat) : Int), 0) = _ from hlp, Option.bind_some, hr]
        rfl
      · have hr : rz c 65 = false := by
          cases h : rz c 65 with
          | false => rfl
          | true =>
            have := (all_gb (c.drop 65) fun v => decide (v = 0)).2 h k hk
            rw [hp] at this; cases this
        rw [show loopG s_l6Numbers_L2 (pnums c, c.drop 65, (((c.drop 65).length : Nat) : Int), 0) = _ from hlp, Option.bind_some, hr]
        rfl
    · rw [iy h0, decide_eq_false h0]; rfl
theorem cf_page1 {l : List Int} (hl : l.length ≤ 1048576) : slices_ContainsFunc_byte_byte_i_Space_page_1 l = some (l.any fun v => decide (¬ v = 0)) := by
  unfold slices_ContainsFunc_byte_byte_i_Space_page_1 slices_IndexFunc_byte_byte_i_Space_page_1
  obtain ⟨r, hr, h⟩ := idx_loop slices_IndexFunc_byte_byte_i_Space_page_1_L1 (fun v => decide (¬ v = 0)) l (fun k hk => by
    unfold slices_IndexFunc_byte_byte_i_Space_page_1_L1 i_Space_page_1
    dsimp only
    rw [iy (by omega), iy (by omega), Int.toNat_natCast, gb_some hk, Option.bind_some, Option.bind_some, ix64 (by omega)]
    by_cases hz : gb l k = 0 <;> simp [hz]) (by
    unfold slices_IndexFunc_byte_byte_i_Space_page_1_L1
    dsimp only
    rw [ino (by omega)])
  rw [hr, Option.bind_some]
  rcases h with ⟨rfl, h⟩ | ⟨k, rfl, h⟩
  · rw [h]; rfl
  · rw [h]; dsimp only; rw [Option.bind_some, decide_eq_true (by omega)]
theorem i_page_eq {b : Bls} {x y z : List Int} (g : RS b x y) (a kind : Int) : i_Space_page (b, x, y, z) a kind = some (pg b x y a kind) := by
  unfold i_Space_page pg pgB
  rw [i_here1_eq g, Option.bind_some]
  cases hl : liv b x y a with
  | false => rfl
  | true =>
    obtain ⟨m, rfl, h33, hm, _, _⟩ := liv_nat hl
    have hc := g.len hm
    have hu := g.hu _ (blk_mem hm)
    have hbm := blk_some hm
    rw [Int.toNat_natCast]
    generalize hcc : blk b m = c at *
    rw [if_neg (by simp)]
    dsimp only
    rw [iy (by omega), hbm, Option.bind_some, iy (by omega), show Int.toNat 0 = 0 from rfl, gb_some (show 0 < c.length by omega), Option.bind_some, Option.bind_some]
    dsimp only
    by_cases h0 : gb c 0 = kind
    · rw [ino (not_not_intro h0), decide_eq_true h0]
      have hd : List.take (Int.toNat ((c.length : Nat) : Int) - Int.toNat 65) (List.drop (Int.toNat 65) c) = c.drop 65 := by
        rw [Int.toNat_natCast, show Int.toNat 65 = 65 from rfl]
        exact List.take_of_length_le (by rw [List.length_drop]; omega)
      rw [iy (by omega), Int.toNat_natCast, hbm, Option.bind_some, iy (by omega), iy (by omega), iy (by omega), iy (by omega), hd, cf_page1 (by rw [List.length_drop]; omega), any_rz, Option.bind_some]
      cases hr : rz c 65 with
      | false => rfl
      | true =>
        have hloop := loop_run i_Space_page_L1 (fun k => (c, (List.range k).map (fun k => num c (1 + 2 * k)), ((k : Nat) : Int))) 32 (pnums c) (fun k hk => by
            have e1 := wr21 (k := k) (by omega)
            have hn := numberAt_eq hu (i := 1 + 2 * k) (by omega) (by omega)
            have hroom : ∀ v : Int, roomFor (((List.range k).map (fun k => num c (1 + 2 * k))).length + ([v] : List Int).length) 8 = true := fun v => by simp only [roomFor, decide_eq_true_eq, rng_len, List.length_singleton]; omega
            unfold i_Space_page_L1
            dsimp only
            simp (disch := omega) only [iy, e1, hn, Option.bind_some, ix64, hroom, if_true, map_snoc]) (by
            unfold i_Space_page_L1
            dsimp only
            rw [ino (by omega)]
            rfl)
        rw [if_neg (by simp), show loopG i_Space_page_L1 (c, [], 0) = _ from hloop, Option.bind_some]
        rfl
    · rw [iy h0, decide_eq_false h0]; rfl
def nz (l : List Int) : Bool := l.any fun v => decide (¬ v = 0)
theorem s_any_eq {l : List Int} (hl : l.length ≤ 1048576) : s_l6Any l = some (nz l) := by
  unfold s_l6Any nz
  rcases fst_loop s_l6Any_L1 (fun k => (l, ((l.length : Nat) : Int), ((k : Nat) : Int))) (fun k => decide (gb l k = 0)) (fun _ => true) () l.length (fun k hk => by
    unfold s_l6Any_L1
    dsimp only
    rw [iy (by omega), iy (by omega), Int.toNat_natCast, gb_some hk, Option.bind_some, ix64 (by omega)]
    by_cases hz : gb l k = 0 <;> simp [hz]) (by
    unfold s_l6Any_L1
    dsimp only
    rw [ino (by omega)]) with ⟨ha, hlp⟩ | ⟨k, hk, hp, _, hlp⟩
  · rw [show loopG s_l6Any_L1 (l, ((l.length : Nat) : Int), 0) = _ from hlp, Option.bind_some]
    have := (all_gb l fun v => decide (v = 0)).1 ha
    refine congrArg some (Eq.symm ?_)
    rw [List.any_eq_false]
    intro v hv
    have := List.all_eq_true.1 this v hv
    simpa using this
  · rw [show loopG s_l6Any_L1 (l, ((l.length : Nat) : Int), 0) = _ from hlp, Option.bind_some]
    refine congrArg some (Eq.symm ?_)
    rw [List.any_eq_true]
    exact ⟨_, List.mem_of_getElem? (gb_some hk), by simpa using hp⟩
theorem i_empty_eq {l : List Int} (hl : l.length ≤ 1048576) : i_isEmpty l = some (!nz l) := by
  unfold i_isEmpty slices_ContainsFunc_int_int_i_isEmpty_1 slices_IndexFunc_int_int_i_isEmpty_1 nz
  obtain ⟨r, hr, h⟩ := idx_loop slices_IndexFunc_int_int_i_isEmpty_1_L1 (fun v => decide (¬ v = 0)) l (fun k hk => by
    unfold slices_IndexFunc_int_int_i_isEmpty_1_L1 i_isEmpty_1
    dsimp only
    rw [iy (by omega), iy (by omega), Int.toNat_natCast, gb_some hk, Option.bind_some, Option.bind_some, ix64 (by omega)]
    by_cases hz : gb l k = 0 <;> simp [hz]) (by
    unfold slices_IndexFunc_int_int_i_isEmpty_1_L1
    dsimp only
    rw [ino (by omega)])
  rw [hr, Option.bind_some]
  rcases h with ⟨rfl, h⟩ | ⟨k, rfl, h⟩
  · rw [h]; rfl
  · rw [h]; dsimp only; rw [Option.bind_some, Option.bind_some, decide_eq_true (by omega)]
def isb (b : Bls) (x : List Int) (v : Int) : Bool := decide (33 ≤ v ∧ v ≤ (b.length : Int) - 1) && bit x v.toNat
theorem s_value_eq {b : Bls} {x y z : List Int} (g : RS b x y) (v : Int) : s_l6Value b x y z v = some (isb b x v) := by
  have hn := g.hn; have hx := g.hx
  unfold s_l6Value isb
  rw [s_In_eq, w64 (by omega) (by omega), Option.bind_some]
  by_cases h1 : 33 ≤ v ∧ v ≤ (b.length : Int) - 1
  · obtain ⟨m, rfl⟩ := Int.eq_ofNat_of_zero_le (show 0 ≤ v by omega)
    rw [decide_eq_true h1, if_pos rfl, s_used_eq (by omega) (by omega), Option.bind_some, Int.toNat_natCast]
    rfl
  · rw [decide_eq_false h1]; rfl
def badV (b : Bls) (x : List Int) (l : List Int) : Bool := l.any fun v => decide (¬ v = 0) && !isb b x v
theorem i_tree1_eq {b : Bls} {x y z : List Int} (g : RS b x y) (v : Int) : i_Space_tree_1 v (some (b, x, y, z)) = some (decide (¬ v = 0) && !isb b x v, some (b, x, y, z)) := by
  unfold i_Space_tree_1
  by_cases h : v = 0
  · rw [ino (not_not_intro h), decide_eq_false (not_not_intro h)]; rfl
  · rw [iy h, decide_eq_true h, Option.bind_some, i_isBlock1_eq g, Option.bind_some]
    rfl
theorem cf_tree1 {b : Bls} {x y z l : List Int} (g : RS b x y) (hl : l.length ≤ 1048576) : slices_ContainsFunc_int_int_l_i_Space_tree_1 l (some (b, x, y, z)) = some (l, badV b x l, some (b, x, y, z)) := by
  unfold slices_ContainsFunc_int_int_l_i_Space_tree_1 slices_IndexFunc_int_int_l_i_Space_tree_1 badV
  rcases fst_loop slices_IndexFunc_int_int_l_i_Space_tree_1_L1 (fun k => (l, ((l.length : Nat) : Int), ((k : Nat) : Int), some (b, x, y, z))) (fun k => !(decide (¬ gb l k = 0) && !isb b x (gb l k))) (fun k => (l, ((k : Nat) : Int), some (b, x, y, z))) (l, some (b, x, y, z)) l.length (fun k hk => by
    unfold slices_IndexFunc_int_int_l_i_Space_tree_1_L1
    dsimp only
    rw [iy (by omega), iy (by omega), iy (by omega), Int.toNat_natCast, Nat.zero_add, gb_some hk, Option.bind_some, i_tree1_eq g, Option.bind_some, ix64 (by omega)]
    dsimp only
    cases (decide (¬ gb l k = 0) && !isb b x (gb l k)) <;> rfl) (by
    unfold slices_IndexFunc_int_int_l_i_Space_tree_1_L1
    dsimp only
    rw [ino (by omega)]) with ⟨ha, hlp⟩ | ⟨k, hk, hp, _, hlp⟩
  · rw [show loopG slices_IndexFunc_int_int_l_i_Space_tree_1_L1 (l, ((l.length : Nat) : Int), 0, some (b, x, y, z)) = _ from hlp, Option.bind_some]
    dsimp only
    rw [Option.bind_some]
    have := (all_gb l fun v => !(decide (¬ v = 0) && !isb b x v)).1 ha
    have h2 : (l.any fun v => decide (¬ v = 0) && !isb b x v) = false := by
      rw [List.any_eq_false]
      intro v hv
      have := List.all_eq_true.1 this v hv
      rw [Bool.not_eq_true'] at this
      rw [this]; simp
    rw [h2]; rfl
  · rw [show loopG slices_IndexFunc_int_int_l_i_Space_tree_1_L1 (l, ((l.length : Nat) : Int), 0, some (b, x, y, z)) = _ from hlp, Option.bind_some]
    dsimp only
    rw [Option.bind_some]
    have h2 : (l.any fun v => decide (¬ v = 0) && !isb b x v) = true := by
      rw [List.any_eq_true]
      exact ⟨_, List.mem_of_getElem? (gb_some hk), by simpa using hp⟩
    rw [h2, decide_eq_true (show (0 : Int) ≤ ((k : Nat) : Int) by omega)]
end Go.V.G

set_option linter.unusedVariables false
set_option linter.unusedSimpArgs false
set_option maxRecDepth 100000
namespace Go.V.G
open Go.V
theorem any_loop {σ τ ρ : Type} (L : σ → Option (σ ⊕ (τ ⊕ ρ))) (st : Nat → σ) (l : List Int) (p : Int → Bool) (e : ρ) (z : τ)
    (step : ∀ k, k < l.length → L (st k) = some (if p (gb l k) = true then .inr (.inr e) else .inl (st (k + 1)))) (last : L (st l.length) = some (.inr (.inl z))) :
    loopG L (st 0) = some (if l.any p = true then .inr e else .inl z) := by
  rcases fst_loop L st (fun k => !p (gb l k)) (fun _ => e) z l.length (fun k hk => by rw [step k hk]; cases p (gb l k) <;> rfl) last with ⟨ha, hlp⟩ | ⟨k, hk, hp, _, hlp⟩
  · have := (all_gb l fun v => !p v).1 ha
    have h2 : l.any p = false := by
      rw [List.any_eq_false]
      intro v hv
      have := List.all_eq_true.1 this v hv
      simpa using this
    rw [hlp, h2]; rfl
  · have h2 : l.any p = true := by
      rw [List.any_eq_true]
      exact ⟨_, List.mem_of_getElem? (gb_some hk), by simpa using hp⟩
    rw [hlp, h2]; rfl
theorem set_map {α : Type} (n k : Nat) (g h : Nat → α) : ((List.range n).map (fun j => if j < k then g j else h j)).set k (g k) = (List.range n).map (fun j => if j < k + 1 then g j else h j) := by
  apply List.ext_getElem?
  intro i
  rw [List.getElem?_set, List.getElem?_map, List.getElem?_map, List.length_map, List.length_range]
  by_cases hi : i < n
  · rw [List.getElem?_range hi]
    by_cases hki : k = i
    · subst hki; simp [hi]
    · have : (i < k) = (i < k + 1) := by apply propext; omega
      simp [hki, this]
  · rw [List.getElem?_eq_none (by simpa using hi)]
    by_cases hki : k = i
    · subst hki; simp [hi]
    · simp [hki]
theorem map_get {α : Type} (n : Nat) (f : Nat → α) {k : Nat} (h : k < n) : ((List.range n).map f)[k]? = some (f k) := by rw [List.getElem?_map, List.getElem?_range h]; rfl
theorem map_all {α : Type} (n : Nat) (g h : Nat → α) : (List.range n).map (fun j => if j < n then g j else h j) = (List.range n).map g :=
  List.map_congr_left fun j hj => if_pos (List.mem_range.1 hj)
theorem map_none {α : Type} (n : Nat) (g h : Nat → α) : (List.range n).map (fun j => if j < 0 then g j else h j) = (List.range n).map h :=
  List.map_congr_left fun j _ => if_neg (by omega)
theorem map_const {α : Type} (n : Nat) (v : α) : (List.range n).map (fun _ => v) = List.replicate n v := by
  apply List.ext_getElem?
  intro i
  rw [List.getElem?_map, List.getElem?_replicate]
  by_cases hi : i < n
  · rw [List.getElem?_range hi, if_pos hi]; rfl
  · rw [if_neg hi, List.getElem?_eq_none (by simpa using hi)]; rfl
theorem gb_id {l : List Int} {n : Nat} (h : l.length = n) : (List.range n).map (gb l) = l := by
  apply List.ext_getElem?
  intro i
  rw [List.getElem?_map]
  by_cases hi : i < n
  · rw [List.getElem?_range hi, gb_some (by omega)]; rfl
  · rw [List.getElem?_eq_none (by simpa using hi), List.getElem?_eq_none (by omega)]; rfl
def zer : List Int := List.replicate 32 0
def lfs (b : Bls) (a : Int) : List Int := if a = 0 then [] else pnums (blk b a.toNat)
def lfv (b : Bls) (a : Int) : List Int := if a = 0 then zer else pnums (blk b a.toNat)
theorem lfv_len (b : Bls) (a : Int) : (lfv b a).length = 32 := by unfold lfv zer; split <;> simp [pnums_len]
def stG (b : Bls) (x y top : List Int) (k : Nat) : Bool :=
  decide (gb top k = 0) || (pgB b x y (gb top k) 81 && (nz (pnums (blk b (gb top k).toNat)) && (!(top.take k).any (fun v => decide (v = gb top k)) && !badV b x (pnums (blk b (gb top k).toNat)))))
def topOf (b : Bls) (root : Int) : List Int := pnums (blk b root.toNat)
def tre (b : Bls) (x y : List Int) (root : Int) : Option (List Int) :=
  if root = 0 then some zer else if (pgB b x y root 80 && (nz (topOf b root) && (List.range 32).all (stG b x y (topOf b root)))) = true then some (topOf b root) else none
theorem dup_eq {b : Bls} {x y z top : List Int} {lv : List (List Int)} {a n : Int} {k : Nat} (hk : k ≤ top.length) (ht : top.length ≤ 1000) :
    loopG s_l6Tree_L1 (lv, top, ((k : Nat) : Int), a, n, ((k : Nat) : Int), ((0 : Nat) : Int), ((k : Nat) : Int), ((k : Nat) : Int), 0, b, x, y, z) =
      some (if (top.take k).any (fun v => decide (v = a)) = true then .inr false else .inl (lv, top, ((k : Nat) : Int), a, n, ((k : Nat) : Int), b, x, y, z)) := by
  have hl : (top.take k).length = k := by rw [List.length_take]; omega
  exact any_loop s_l6Tree_L1 (fun i => (lv, top, ((k : Nat) : Int), a, n, ((k : Nat) : Int), ((0 : Nat) : Int), ((k : Nat) : Int), ((k : Nat) : Int), ((i : Nat) : Int), b, x, y, z)) (top.take k) (fun v => decide (v = a)) false
    (lv, top, ((k : Nat) : Int), a, n, ((k : Nat) : Int), b, x, y, z) (fun i hi => by
      have hi' : i < k := by omega
      have hg : top[i]? = some (gb (top.take k) i) := by
        rw [← gb_some hi, List.getElem?_take_of_lt hi']
      unfold s_l6Tree_L1
      dsimp only
      have hd : ((List.drop (Int.toNat ((0 : Nat) : Int)) top).take (Int.toNat ((k : Nat) : Int))).length = k := by
        rw [Int.toNat_natCast, Int.toNat_natCast, List.drop_zero, hl]
      rw [iy (by omega), iy (by omega), hd, iy (by omega)]
      simp only [Int.toNat_natCast, Nat.zero_add]
      rw [hg, Option.bind_some, ix64 (by omega)]
      by_cases h : gb (top.take k) i = a
      · rw [iy h, decide_eq_true h]; rfl
      · rw [ino h, decide_eq_false h]; rfl) (by
      rw [hl]
      unfold s_l6Tree_L1
      dsimp only
      rw [ino (by omega)])
theorem bad_eq {b : Bls} {x y z top l : List Int} {lv : List (List Int)} {n : Int} {i j : Int} (g : RS b x y) (hl : l.length ≤ 1000) :
    loopG s_l6Tree_L2 (lv, top, i, l, n, j, ((l.length : Nat) : Int), 0, b, x, y, z) = some (if badV b x l = true then .inr false else .inl (lv, top, i, l, n, j, b, x, y, z)) := by
  exact any_loop s_l6Tree_L2 (fun k => (lv, top, i, l, n, j, ((l.length : Nat) : Int), ((k : Nat) : Int), b, x, y, z)) l (fun v => decide (¬ v = 0) && !isb b x v) false
    (lv, top, i, l, n, j, b, x, y, z) (fun k hk => by
      unfold s_l6Tree_L2
      dsimp only
      rw [iy (by omega), iy (by omega), iy (by omega), Int.toNat_natCast, Nat.zero_add, gb_some hk, Option.bind_some]
      by_cases h : gb l k = 0
      · rw [ino (not_not_intro h), decide_eq_false (not_not_intro h), Option.bind_some]
        dsimp only
        rw [ix64 (by omega)]; rfl
      · rw [iy h, decide_eq_true h, s_value_eq g, Option.bind_some, Option.bind_some]
        dsimp only
        rw [ix64 (by omega)]
        cases isb b x (gb l k) <;> rfl) (by
      unfold s_l6Tree_L2
      dsimp only
      rw [ino (by omega)])
theorem s_tree_step {b : Bls} {x y z top : List Int} {k : Nat} (g : RS b x y) (ht : top.length = 32) (hk : k < 32) :
    s_l6Tree_L3 ((List.range 32).map (fun j => if j < k then lfs b (gb top j) else []), top, ((32 : Nat) : Int), ((k : Nat) : Int), b, x, y, z) =
      some (if stG b x y top k = true then .inl ((List.range 32).map (fun j => if j < k + 1 then lfs b (gb top j) else []), top, ((32 : Nat) : Int), ((k + 1 : Nat) : Int), b, x, y, z) else .inr (.inr false)) := by
  have hs := set_map 32 k (fun j => lfs b (gb top j)) (fun _ => [])
  have hgt := map_get 32 (fun j => if j < k then lfs b (gb top j) else []) hk
  have hln : ((List.range 32).map (fun j => if j < k then lfs b (gb top j) else [])).length = 32 := rng_len _ _
  generalize (List.range 32).map (fun j => if j < k then lfs b (gb top j) else []) = lv at *
  have hgk : top[k]? = some (gb top k) := gb_some (by omega)
  have hd : ((List.drop (Int.toNat 0) top).take (Int.toNat ((k : Nat) : Int) - Int.toNat 0)).length = k := by
    rw [Int.toNat_natCast, show Int.toNat 0 = 0 from rfl, List.drop_zero, Nat.sub_zero, List.length_take]; omega
  have hz0 : (((Int.toNat 0 : Nat)) : Int) = ((0 : Nat) : Int) := rfl
  have hzk : (((Int.toNat ((k : Nat) : Int) - Int.toNat 0 : Nat)) : Int) = ((k : Nat) : Int) := by rw [Int.toNat_natCast]; rfl
  have hdup := dup_eq (b := b) (x := x) (y := y) (z := z) (lv := lv) (a := gb top k) (n := ((32 : Nat) : Int)) (show k ≤ top.length by omega) (by omega)
  unfold s_l6Tree_L3
  dsimp only
  rw [iy (by omega), iy (by omega), iy (by omega), Int.toNat_natCast, Nat.zero_add, hgk, Option.bind_some]
  unfold stG
  generalize hak : gb top k = a at *
  by_cases h0 : a = 0
  · rw [iy h0, Option.bind_some]
    dsimp only
    rw [ix64 (by omega), decide_eq_true h0, Bool.true_or, if_pos rfl, ← hs]
    refine congrArg some (congrArg Sum.inl ?_)
    have : lfs b a = [] := by unfold lfs; rw [if_pos h0]
    rw [this]
    refine congrArg (fun q => (q, _)) ?_
    apply List.ext_getElem?
    intro i
    rw [List.getElem?_set]
    split
    · rename_i he; subst he
      rw [if_pos (by omega), hgt, if_neg (by omega)]
    · rfl
  rw [ino h0, decide_eq_false h0, Bool.false_or, iy (by omega), iy (by omega), iy (by omega), iy (by omega)]
  rw [Int.toNat_natCast] at hd hzk
  rw [hd, hz0, hzk, hdup, Option.bind_some]
  cases hdp : (top.take k).any fun v => decide (v = a) with
  | true =>
    rw [if_pos rfl]
    dsimp only
    rw [Option.bind_some]
    dsimp only
    rw [Bool.not_true, Bool.false_and, Bool.and_false, Bool.and_false, if_neg (by simp)]
  | false =>
    rw [if_neg (by simp)]
    dsimp only
    rw [s_numbers_eq g, Bool.not_false, Bool.true_and]
    cases hp : pgB b x y a 81 with
    | false =>
      rw [pg_no hp, Option.bind_some]
      dsimp only
      rw [if_pos (by simp), Option.bind_some]
      dsimp only
      rw [if_pos rfl, Option.bind_some]
      dsimp only
      rw [Bool.false_and, if_neg (by simp)]
    | true =>
      rw [pg_yes hp, Option.bind_some]
      dsimp only
      have hpl := pnums_len (blk b a.toNat)
      rw [if_neg (by simp), s_any_eq (by omega), Option.bind_some, Option.bind_some]
      dsimp only
      rw [Bool.true_and]
      cases hnz : nz (pnums (blk b a.toNat)) with
      | false =>
        rw [if_pos (by simp), Option.bind_some]
        dsimp only
        rw [Bool.false_and, if_neg (by simp)]
      | true =>
        rw [if_neg (by simp), bad_eq g (by omega), Option.bind_some, Bool.true_and]
        cases hbd : badV b x (pnums (blk b a.toNat)) with
        | true =>
          rw [if_pos rfl]
          dsimp only
          rw [Option.bind_some]
          rfl
        | false =>
          rw [if_neg (by simp)]
          dsimp only
          have hg2 : lv[0 + k]? = some [] := by rw [Nat.zero_add, hgt, if_neg (by omega)]
          rw [iy (by omega), hln, iy (by omega), Int.toNat_natCast, hg2, Option.bind_some, Option.bind_some, Option.bind_some, Nat.zero_add]
          dsimp only
          rw [ix64 (by omega), Bool.not_false, if_pos rfl, ← hs]
          have : lfs b a = pnums (blk b a.toNat) := by unfold lfs; rw [if_neg h0]
          rw [this]
def trS (b : Bls) (o : Option (List Int)) : List (List Int) × (List Int × Bool) := match o with
  | some top => (top.map (lfs b), top, true)
  | none => ([], [], false)
def trI (b : Bls) (root : Int) (o : Option (List Int)) : Bool × (Int × (List Int × List (List Int))) := match o with
  | some top => (true, root, top, top.map (lfv b))
  | none => (false, 0, [], [])
theorem map_gb {α : Type} (f : Int → α) {l : List Int} {n : Nat} (h : l.length = n) : (List.range n).map (fun j => f (gb l j)) = l.map f := by
  have := congrArg (List.map f) (gb_id h)
  rw [List.map_map] at this
  exact this
theorem rm24 : roomFor (Int.toNat 32) 24 = true := by simp [roomFor]
theorem rm8 : roomFor (Int.toNat 32) 8 = true := by simp [roomFor]
theorem s_tree_eq {b : Bls} {x y z : List Int} (g : RS b x y) (root : Int) : s_l6Tree b x y z root = some (trS b (tre b x y root)) := by
  unfold s_l6Tree tre
  rw [iy (by omega), iy (by omega), if_pos rm24, iy (by omega), iy (by omega), if_pos rm8]
  by_cases h0 : root = 0
  · rw [iy h0, if_pos h0]
    unfold trS zer
    dsimp only
    rw [List.map_replicate]
    rfl
  rw [ino h0, if_neg h0, s_numbers_eq g]
  unfold topOf
  cases hp : pgB b x y root 80 with
  | false => rw [pg_no hp]; rfl
  | true =>
    rw [pg_yes hp, Option.bind_some]
    dsimp only
    have hpl := pnums_len (blk b root.toNat)
    generalize pnums (blk b root.toNat) = top at *
    rw [if_neg (by simp), s_any_eq (by omega), Option.bind_some, Option.bind_some]
    dsimp only
    rw [Bool.true_and]
    cases hnz : nz top with
    | false => rfl
    | true =>
      rw [if_neg (by simp), hpl, Bool.true_and]
      have e0 : List.replicate (Int.toNat 32) ([] : List Int) = (List.range 32).map (fun j => if j < 0 then lfs b (gb top j) else []) := by
        rw [map_none, map_const]; rfl
      rw [e0]
      rcases fst_loop s_l6Tree_L3 (fun k => ((List.range 32).map (fun j => if j < k then lfs b (gb top j) else []), top, ((32 : Nat) : Int), ((k : Nat) : Int), b, x, y, z)) (fun k => stG b x y top k) (fun _ => false)
        ((List.range 32).map (fun j => if j < 32 then lfs b (gb top j) else []), top) 32 (fun k hk => s_tree_step g hpl hk) (by
          unfold s_l6Tree_L3
          dsimp only
          rw [ino (by omega)]) with ⟨ha, hlp⟩ | ⟨k, hk, hq, _, hlp⟩
      · rw [show loopG s_l6Tree_L3 ((List.range 32).map (fun j => if j < 0 then lfs b (gb top j) else []), top, ((32 : Nat) : Int), 0, b, x, y, z) = _ from hlp, Option.bind_some, if_pos (all_range.2 ha), map_all, map_gb _ hpl]
        rfl
      · have hn : ((List.range 32).all (stG b x y top)) = false := by
          cases h : (List.range 32).all (stG b x y top) with
          | false => rfl
          | true => have := all_range.1 h k hk; rw [hq] at this; cases this
        rw [show loopG s_l6Tree_L3 ((List.range 32).map (fun j => if j < 0 then lfs b (gb top j) else []), top, ((32 : Nat) : Int), 0, b, x, y, z) = _ from hlp, Option.bind_some, hn]
        rfl
theorem i_tree_fill {b : Bls} {x y z : List Int} (root : Int) : loopG i_Space_tree_L1 (root, ((List.length (List.replicate (Int.toNat 32) ([] : List Int)) : Nat) : Int), 0, some (b, x, y, z), 0, root, List.replicate (Int.toNat 32) (0 : Int), List.replicate (Int.toNat 32) ([] : List Int)) =
    some (root, some (b, x, y, z), 0, root, zer, List.replicate 32 zer) := by
  have hln : ∀ k, ((List.range 32).map (fun j => if j < k then zer else ([] : List Int))).length = 32 := fun k => rng_len _ _
  have hl := loop_run i_Space_tree_L1 (fun k => (root, ((32 : Nat) : Int), ((k : Nat) : Int), some (b, x, y, z), 0, root, zer, (List.range 32).map (fun j => if j < k then zer else []))) 32 (root, some (b, x, y, z), 0, root, zer, (List.range 32).map (fun j => if j < 32 then zer else [])) (fun k hk => by
      have hs := set_map 32 k (fun _ => zer) (fun _ => ([] : List Int))
      have hgt := map_get 32 (fun j => if j < k then zer else ([] : List Int)) hk
      have h1 := hln k
      generalize (List.range 32).map (fun j => if j < k then zer else ([] : List Int)) = lv at *
      unfold i_Space_tree_L1
      dsimp only
      rw [iy (by omega), iy (by omega), iy (by omega), if_pos rm8, iy (by omega), h1, iy (by omega), Int.toNat_natCast, Nat.zero_add, hgt, Option.bind_some, Option.bind_some, ix64 (by omega), ← hs]
      rfl) (by
      unfold i_Space_tree_L1
      dsimp only
      rw [ino (by omega)])
  rw [map_all, map_const] at hl
  have e0 : List.replicate (Int.toNat 32) ([] : List Int) = (List.range 32).map (fun j => if j < 0 then zer else []) := by
    rw [map_none, map_const]; rfl
  rw [e0, hln 0]
  exact hl
theorem i_tree_step {b : Bls} {x y z top : List Int} {root : Int} {k : Nat} (g : RS b x y) (ht : top.length = 32) (hk : k < 32) :
    i_Space_tree_L2 (top, ((32 : Nat) : Int), ((k : Nat) : Int), some (b, x, y, z), 0, root, (List.range 32).map (fun j => if j < k then gb top j else 0), (List.range 32).map (fun j => if j < k then lfv b (gb top j) else zer)) =
      some (if stG b x y top k = true then .inl (top, ((32 : Nat) : Int), ((k + 1 : Nat) : Int), some (b, x, y, z), 0, root, (List.range 32).map (fun j => if j < k + 1 then gb top j else 0), (List.range 32).map (fun j => if j < k + 1 then lfv b (gb top j) else zer)) else .inr (.inr (false, 0))) := by
  have hs1 := set_map 32 k (fun j => gb top j) (fun _ => (0 : Int))
  have hs2 := set_map 32 k (fun j => lfv b (gb top j)) (fun _ => zer)
  have hg1 := map_get 32 (fun j => if j < k then gb top j else 0) hk
  have hg2 := map_get 32 (fun j => if j < k then lfv b (gb top j) else zer) hk
  have hl1 : ((List.range 32).map (fun j => if j < k then gb top j else 0)).length = 32 := rng_len _ _
  have hl2 : ((List.range 32).map (fun j => if j < k then lfv b (gb top j) else zer)).length = 32 := rng_len _ _
  generalize (List.range 32).map (fun j => if j < k then gb top j else 0) = lv at *
  generalize (List.range 32).map (fun j => if j < k then lfv b (gb top j) else zer) = vs at *
  have hgk : top[k]? = some (gb top k) := gb_some (by omega)
  have hd : (List.drop (Int.toNat 0) top).take (k - Int.toNat 0) = top.take k := by
    rw [show Int.toNat 0 = 0 from rfl, List.drop_zero, Nat.sub_zero]
  rw [if_neg (by omega)] at hg1 hg2
  unfold i_Space_tree_L2
  dsimp only
  rw [iy (by omega), iy (by omega), iy (by omega), Int.toNat_natCast, Nat.zero_add, hgk, Option.bind_some]
  unfold stG
  generalize hak : gb top k = a at *
  by_cases h0 : a = 0
  · rw [iy h0, Option.bind_some]
    dsimp only
    rw [ix64 (by omega), decide_eq_true h0, Bool.true_or, if_pos rfl]
    have e1 : lfv b a = zer := by unfold lfv; rw [if_pos h0]
    rw [e1] at hs2
    rw [h0] at hs1
    rw [← hs1, ← hs2]
    have q1 : lv.set k 0 = lv := by
      apply List.ext_getElem?
      intro i
      rw [List.getElem?_set]
      split
      · rename_i he; subst he
        rw [if_pos (by omega), hg1]
      · rfl
    have q2 : vs.set k zer = vs := by
      apply List.ext_getElem?
      intro i
      rw [List.getElem?_set]
      split
      · rename_i he; subst he
        rw [if_pos (by omega), hg2]
      · rfl
    rw [q1, q2]
  have hpl := pnums_len (blk b a.toNat)
  have e1 : lfv b a = pnums (blk b a.toNat) := by unfold lfv; rw [if_neg h0]
  rw [e1] at hs2
  rw [ino h0, decide_eq_false h0, Bool.false_or, Option.bind_some, i_page_eq g]
  cases hp : pgB b x y a 81 with
  | false =>
    rw [pg_no hp, Option.bind_some]
    dsimp only
    rw [if_pos (by simp), Option.bind_some]
    dsimp only
    rw [if_pos rfl, Option.bind_some]
    dsimp only
    rw [Bool.false_and, if_neg (by simp)]
  | true =>
    rw [pg_yes hp, Option.bind_some]
    dsimp only
    rw [if_neg (by simp), i_empty_eq (by omega), Option.bind_some, Bool.true_and]
    cases hnz : nz (pnums (blk b a.toNat)) with
    | false =>
      rw [if_pos (by simp), Option.bind_some]
      dsimp only
      rw [if_pos rfl, Option.bind_some]
      dsimp only
      rw [Bool.false_and, if_neg (by simp)]
    | true =>
      rw [if_neg (by simp), iy (by omega), iy (by omega), iy (by omega), iy (by omega), hd, contains_eq (by rw [List.length_take]; omega), Option.bind_some, Bool.true_and]
      have hany : ((top.take k).any fun v => decide (v = a)) = decide (a ∈ top.take k) := by
        by_cases hm : a ∈ top.take k
        · rw [decide_eq_true hm, List.any_eq_true]; exact ⟨a, hm, by simp⟩
        · rw [decide_eq_false hm, List.any_eq_false]
          intro v hv hva
          have : v = a := by simpa using hva
          exact hm (this ▸ hv)
      rw [hany]
      cases hdp : decide (a ∈ top.take k) with
      | true =>
        rw [if_pos rfl, Option.bind_some]
        dsimp only
        rw [if_pos rfl, Option.bind_some]
        rfl
      | false =>
        rw [if_neg (by simp), cf_tree1 g (by omega), Option.bind_some, Option.bind_some]
        dsimp only
        cases hbd : badV b x (pnums (blk b a.toNat)) with
        | true =>
          rw [if_pos rfl, Option.bind_some]
          rfl
        | false =>
          rw [if_neg (by simp), iy (by omega), hl1, iy (by omega), Int.toNat_natCast, Nat.zero_add, hg1, Option.bind_some, Option.bind_some, iy (by omega), hl2, iy (by omega), hg2, Option.bind_some, Option.bind_some, Option.bind_some]
          dsimp only
          rw [ix64 (by omega), if_pos (by simp), hs1, hs2]
theorem i_tree_eq {b : Bls} {x y z : List Int} (g : RS b x y) (root : Int) : i_Space_tree (b, x, y, z) root = some (trI b root (tre b x y root)) := by
  unfold i_Space_tree tre
  rw [iy (by omega), iy (by omega), if_pos rm8, iy (by omega), iy (by omega), if_pos rm24, i_tree_fill, Option.bind_some]
  dsimp only
  by_cases h0 : root = 0
  · rw [iy h0, if_pos h0]
    unfold trI
    dsimp only
    have : zer.map (lfv b) = List.replicate 32 zer := by unfold zer; rw [List.map_replicate]; rfl
    rw [this]
  rw [ino h0, if_neg h0, Option.bind_some, i_page_eq g]
  unfold topOf
  cases hp : pgB b x y root 80 with
  | false => rw [pg_no hp]; rfl
  | true =>
    rw [pg_yes hp, Option.bind_some]
    dsimp only
    have hpl := pnums_len (blk b root.toNat)
    generalize pnums (blk b root.toNat) = top at *
    rw [if_neg (by simp), i_empty_eq (by omega), Option.bind_some, Option.bind_some]
    dsimp only
    rw [Bool.true_and]
    cases hnz : nz top with
    | false => rfl
    | true =>
      rw [if_neg (by simp), hpl, Bool.true_and]
      have e0 : zer = (List.range 32).map (fun j => if j < 0 then gb top j else 0) := by
        rw [map_none, map_const]; rfl
      have e1 : List.replicate 32 zer = (List.range 32).map (fun j => if j < 0 then lfv b (gb top j) else zer) := by
        rw [map_none, map_const]
      rw [e1]
      rcases fst_loop i_Space_tree_L2 (fun k => (top, ((32 : Nat) : Int), ((k : Nat) : Int), some (b, x, y, z), 0, root, (List.range 32).map (fun j => if j < k then gb top j else 0), (List.range 32).map (fun j => if j < k then lfv b (gb top j) else zer))) (fun k => stG b x y top k) (fun _ => (false, 0))
        (0, root, (List.range 32).map (fun j => if j < 32 then gb top j else 0), (List.range 32).map (fun j => if j < 32 then lfv b (gb top j) else zer)) 32 (fun k hk => i_tree_step g hpl hk) (by
          unfold i_Space_tree_L2
          dsimp only
          rw [ino (by omega)]) with ⟨ha, hlp⟩ | ⟨k, hk, hq, _, hlp⟩
      · have hlp' : loopG i_Space_tree_L2 (top, ((32 : Nat) : Int), 0, some (b, x, y, z), 0, root, zer, (List.range 32).map (fun j => if j < 0 then lfv b (gb top j) else zer)) = _ := e0 ▸ hlp
        rw [hlp', Option.bind_some, if_pos (all_range.2 ha), map_all, map_all, map_gb _ hpl, gb_id hpl]
        rfl
      · have hn : ((List.range 32).all (stG b x y top)) = false := by
          cases h : (List.range 32).all (stG b x y top) with
          | false => rfl
          | true => have := all_range.1 h k hk; rw [hq] at this; cases this
        have hlp' : loopG i_Space_tree_L2 (top, ((32 : Nat) : Int), 0, some (b, x, y, z), 0, root, zer, (List.range 32).map (fun j => if j < 0 then lfv b (gb top j) else zer)) = _ := e0 ▸ hlp
        rw [hlp', Option.bind_some, hn]
        rfl
theorem s_GoodTree_eq {b : Bls} {x y z : List Int} (h : SB b x y z) (hu : ∀ c ∈ b, U8s c) (root : Int) : s_GoodTree b x y z root = some (gsp b x y z && (tre b x y root).isSome) := by
  unfold s_GoodTree
  rw [s_GoodSpace_eq h, Option.bind_some]
  cases hg : gsp b x y z with
  | false => rfl
  | true =>
    rw [if_neg (by simp), s_tree_eq ((gs_of hg).rs h hu), Option.bind_some]
    unfold trS
    cases tre b x y root <;> rfl
theorem i_treeOf_eq {b : Bls} {x y z : List Int} (h : SB b x y z) (hu : ∀ c ∈ b, U8s c) (root : Int) : i_treeOf b x y z root = some (if gsp b x y z = true then trI b root (tre b x y root) else (false, 0, [], [])) := by
  unfold i_treeOf
  rw [i_GoodSpace_eq h, Option.bind_some]
  cases hg : gsp b x y z with
  | false => rfl
  | true =>
    rw [if_neg (by simp), i_tree_eq ((gs_of hg).rs h hu), Option.bind_some]
    rfl
end Go.V.G

set_option linter.unusedVariables false
set_option linter.unusedSimpArgs false
set_option maxRecDepth 100000
namespace Go.V.G
open Go.V
abbrev Kv := Int × Int
def sg (l : List Kv) (i : Nat) : Kv := l[i]?.getD (0, 0)
theorem sg_some {l : List Kv} {i : Nat} (h : i < l.length) : l[i]? = some (sg l i) := by unfold sg; rw [List.getElem?_eq_getElem h]; rfl
def setG (b : Bls) (x y : List Int) (l : List Kv) (i : Nat) : Bool :=
  decide (0 ≤ (sg l i).1 ∧ (sg l i).1 ≤ 1023) && ((decide ((sg l i).2 = 0) || liv b x y (sg l i).2) && (decide (i = 0) || decide ((sg l (i - 1)).1 < (sg l i).1)))
def setsB (b : Bls) (x y : List Int) (l : List Kv) : Bool := decide (l.length ≤ 64) && (List.range l.length).all (setG b x y l)
theorem im1 {k : Nat} (h : k ≤ 1048576) (h0 : 0 < k) : IntKind.wrap .i64 (((k : Nat) : Int) - 1) = ((k - 1 : Nat) : Int) := by rw [w64 (by omega) (by omega)]; omega
theorem s_sets_loop {b : Bls} {x y z : List Int} {l : List Kv} (g : RS b x y) (hl : l.length ≤ 1000000) : loopG s_l6Sets_L1 (l, l, ((l.length : Nat) : Int), 0, b, x, y, z) = some (if (List.range l.length).all (setG b x y l) = true then .inl () else .inr false) := by
  rcases fst_loop s_l6Sets_L1 (fun k => (l, l, ((l.length : Nat) : Int), ((k : Nat) : Int), b, x, y, z)) (fun k => setG b x y l k) (fun _ => false) () l.length (fun k hk => by
      unfold s_l6Sets_L1 setG
      dsimp only
      rw [iy (by omega), iy (by omega), Int.toNat_natCast, sg_some hk, Option.bind_some, s_In_eq, Option.bind_some]
      generalize hs : sg l k = s
      by_cases h1 : 0 ≤ s.1 ∧ s.1 ≤ 1023
      · rw [decide_eq_true h1, if_neg (by simp), Bool.true_and]
        have hprev : ∀ {R : Type} (f : Bool → Option R), (if decide ((0 : Int) < ((k : Nat) : Int)) = true then
            (if decide ((0 : Int) ≤ IntKind.wrap .i64 (((k : Nat) : Int) - 1)) = true then Option.bind (l[Int.toNat (IntKind.wrap .i64 (((k : Nat) : Int) - 1))]?) fun r => f (decide (s.1 ≤ r.1)) else none) else f false) = f (!(decide (k = 0) || decide ((sg l (k - 1)).1 < s.1))) := fun f => by
          by_cases h0 : k = 0
          · subst h0; rw [ino (by omega)]; rfl
          · rw [iy (by omega), im1 (by omega) (by omega), iy (by omega), Int.toNat_natCast, sg_some (by omega), Option.bind_some, decide_eq_false h0, Bool.false_or]
            refine congrArg f ?_
            by_cases h2 : s.1 ≤ (sg l (k - 1)).1
            · rw [decide_eq_true h2, decide_eq_false (by omega)]; rfl
            · rw [decide_eq_false h2, decide_eq_true (by omega)]; rfl
        have hp := hprev (fun q => some (l, l, ((l.length : Nat) : Int), ((k : Nat) : Int), q, b, x, y, z))
        by_cases hv : s.2 = 0
        · rw [ino (not_not_intro hv), hp, Option.bind_some, decide_eq_true hv, Bool.true_or, Bool.true_and]
          dsimp only
          rw [ix64 (by omega)]
          cases (decide (k = 0) || decide ((sg l (k - 1)).1 < s.1)) <;> rfl
        · rw [iy hv, s_live_eq g, Option.bind_some, decide_eq_false hv, Bool.false_or]
          cases hlv : liv b x y s.2 with
          | false => rfl
          | true =>
            rw [if_neg (by simp), hp, Option.bind_some, Bool.true_and]
            dsimp only
            rw [ix64 (by omega)]
            cases (decide (k = 0) || decide ((sg l (k - 1)).1 < s.1)) <;> rfl
      · rw [decide_eq_false h1]; rfl) (by
      unfold s_l6Sets_L1
      dsimp only
      rw [ino (by omega)]) with ⟨ha, hlp⟩ | ⟨k, hk, hq, _, hlp⟩
  · rw [if_pos (all_range.2 ha)]; exact hlp
  · have hn : ((List.range l.length).all (setG b x y l)) = false := by
      cases h : (List.range l.length).all (setG b x y l) with
      | false => rfl
      | true => have := all_range.1 h k hk; rw [hq] at this; cases this
    rw [hn]; exact hlp
theorem s_sets_eq {b : Bls} {x y z : List Int} {l : List Kv} (h : SB b x y z) (hu : ∀ c ∈ b, U8s c) (root : Int) : s_l6Sets b x y z root l = some (gsp b x y z && ((tre b x y root).isSome && setsB b x y l)) := by
  unfold s_l6Sets setsB
  rw [s_GoodTree_eq h hu, Option.bind_some]
  cases hg : gsp b x y z with
  | false => rfl
  | true =>
    cases ht : (tre b x y root).isSome with
    | false => rfl
    | true =>
      rw [if_neg (by simp), Option.bind_some]
      dsimp only
      by_cases hl : l.length ≤ 64
      · rw [ino (by omega), decide_eq_true hl, s_sets_loop ((gs_of hg).rs h hu) (by omega), Option.bind_some]
        cases (List.range l.length).all (setG b x y l) <;> rfl
      · rw [iy (by omega), decide_eq_false hl]; rfl
theorem i_sets_eq' {b : Bls} {x y z : List Int} {l : List Kv} (g : RS b x y) (hl : l.length ≤ 1048576) : i_Space_areSets_ffff l b x y z = some (setsB b x y l, b, x, y, z) := by
  unfold i_Space_areSets_ffff setsB
  rcases fst_loop i_Space_areSets_ffff_L1 (fun k => (l, l, ((l.length : Nat) : Int), ((k : Nat) : Int), b, x, y, z)) (fun k => setG b x y l k) (fun _ => (false, b, x, y, z)) (l, b, x, y, z) l.length (fun k hk => by
      unfold i_Space_areSets_ffff_L1 setG
      dsimp only
      rw [iy (by omega), iy (by omega), Int.toNat_natCast, sg_some hk, Option.bind_some, i_within_eq, Option.bind_some]
      generalize hs : sg l k = s
      by_cases h1 : 0 ≤ s.1 ∧ s.1 ≤ 1023
      · rw [decide_eq_true h1, if_neg (by simp), Bool.true_and]
        have hval : (if decide (¬ s.2 = 0) = true then Option.bind (i_Space_isHere_ffff s.2 b x y z) fun c => some (l, l, ((l.length : Nat) : Int), ((k : Nat) : Int), (!c.1), c.2.1, c.2.2.1, c.2.2.2.1, c.2.2.2.2) else some (l, l, ((l.length : Nat) : Int), ((k : Nat) : Int), false, b, x, y, z)) =
            some (l, l, ((l.length : Nat) : Int), ((k : Nat) : Int), (!(decide (s.2 = 0) || liv b x y s.2)), b, x, y, z) := by
          by_cases hv : s.2 = 0
          · rw [ino (not_not_intro hv), decide_eq_true hv]; rfl
          · rw [iy hv, i_hereF_eq g, Option.bind_some, decide_eq_false hv, Bool.false_or]
        by_cases h0 : k = 0
        · subst h0
          rw [ino (by omega), hval, Option.bind_some, decide_eq_true rfl, Bool.true_or, Bool.and_true]
          dsimp only
          rw [ix64 (by omega)]
          cases (decide (s.2 = 0) || liv b x y s.2) <;> rfl
        · rw [iy (by omega), im1 (by omega) (by omega), iy (by omega), Int.toNat_natCast, sg_some (show k - 1 < l.length by omega), Option.bind_some, decide_eq_false h0, Bool.false_or]
          by_cases h2 : s.1 ≤ (sg l (k - 1)).1
          · rw [iy h2, Option.bind_some, decide_eq_false (show ¬ (sg l (k - 1)).1 < s.1 by omega), Bool.and_false]
            rfl
          · rw [ino h2, hval, Option.bind_some, decide_eq_true (show (sg l (k - 1)).1 < s.1 by omega), Bool.and_true]
            dsimp only
            rw [ix64 (by omega)]
            cases (decide (s.2 = 0) || liv b x y s.2) <;> rfl
      · rw [decide_eq_false h1]; rfl) (by
      unfold i_Space_areSets_ffff_L1
      dsimp only
      rw [ino (by omega)]) with ⟨ha, hlp⟩ | ⟨k, hk, hq, _, hlp⟩
  · rw [show loopG i_Space_areSets_ffff_L1 (l, l, ((l.length : Nat) : Int), 0, b, x, y, z) = _ from hlp, Option.bind_some, all_range.2 ha, Bool.and_true]
    dsimp only
    by_cases hl : l.length ≤ 64
    · rw [decide_eq_true hl, decide_eq_true (by omega)]
    · rw [decide_eq_false hl, decide_eq_false (by omega)]
  · have hn : ((List.range l.length).all (setG b x y l)) = false := by
      cases h : (List.range l.length).all (setG b x y l) with
      | false => rfl
      | true => have := all_range.1 h k hk; rw [hq] at this; cases this
    rw [show loopG i_Space_areSets_ffff_L1 (l, l, ((l.length : Nat) : Int), 0, b, x, y, z) = _ from hlp, Option.bind_some, hn, Bool.and_false]
theorem i_sets_eq {b : Bls} {x y z : List Int} {l : List Kv} (g : RS b x y) (hl : l.length ≤ 1000000) : i_Space_areSets_ffff l b x y z = some (setsB b x y l, b, x, y, z) := i_sets_eq' g (by omega)
def Ks (l : List Kv) : Prop := ∀ s ∈ l, 0 ≤ s.1 ∧ s.1 ≤ 1023
def upd (k : Nat) (l : List Int) (s : Kv) : List Int := if s.1.toNat / 32 = k then l.set (s.1.toNat % 32) s.2 else l
def av (b : Bls) (top : List Int) (l : List Kv) (k : Nat) : List Int := l.foldl (upd k) (lfv b (gb top k))
def oth (l : List Kv) (k : Nat) : Bool := l.any fun s => decide (s.1.toNat / 32 = k)
def aft (b : Bls) (top : List Int) (l : List Kv) (k : Nat) : List Int := if oth l k = true then av b top l k else lfs b (gb top k)
theorem take_snocK {α : Type} {l : List α} {i : Nat} {s : α} (h : l[i]? = some s) : l.take (i + 1) = l.take i ++ [s] := by
  obtain ⟨hi, rfl⟩ := List.getElem?_eq_some_iff.1 h
  exact List.take_succ_eq_append_getElem hi
theorem av_succ {b : Bls} {top : List Int} {l : List Kv} {i : Nat} {s : Kv} (h : l[i]? = some s) (k : Nat) : av b top (l.take (i + 1)) k = upd k (av b top (l.take i) k) s := by
  unfold av; rw [take_snocK h, List.foldl_append]; rfl
theorem oth_succ {l : List Kv} {i : Nat} {s : Kv} (h : l[i]? = some s) (k : Nat) : oth (l.take (i + 1)) k = (oth (l.take i) k || decide (s.1.toNat / 32 = k)) := by
  unfold oth; rw [take_snocK h, List.any_append]; simp
theorem av_no {b : Bls} {top : List Int} : ∀ {l : List Kv} {k : Nat}, oth l k = false → av b top l k = lfv b (gb top k) := by
  intro l k h
  unfold av
  unfold oth at h
  rw [List.any_eq_false] at h
  generalize lfv b (gb top k) = v
  induction l generalizing v with
  | nil => rfl
  | cons s l ih =>
    rw [List.foldl_cons]
    have h1 := h s (by simp)
    have : upd k v s = v := by unfold upd; rw [if_neg (by simpa using h1)]
    rw [this]
    exact ih (fun s hs => h s (by simp [hs])) v
theorem foldl_upd_len (k : Nat) : ∀ (l : List Kv) (v : List Int), (l.foldl (upd k) v).length = v.length
  | [], v => rfl
  | s :: l, v => by
    rw [List.foldl_cons, foldl_upd_len k l]
    unfold upd; split <;> simp
theorem av_len (b : Bls) (top : List Int) (l : List Kv) (k : Nat) : (av b top l k).length = 32 := by unfold av; rw [foldl_upd_len, lfv_len]
theorem aft_nz (b : Bls) (top : List Int) (l : List Kv) (k : Nat) : nz (aft b top l k) = nz (av b top l k) := by
  unfold aft
  split
  · rfl
  · rename_i h
    rw [av_no (by simpa using h)]
    unfold lfs lfv
    split
    · rfl
    · rfl
theorem set_fun {α : Type} (n q : Nat) (f g : Nat → α) {v : α} (hv : g q = v) (h : ∀ k, k ≠ q → g k = f k) : ((List.range n).map f).set q v = (List.range n).map g := by
  apply List.ext_getElem?
  intro i
  rw [List.getElem?_set, List.getElem?_map, List.getElem?_map, List.length_map, List.length_range]
  by_cases hi : i < n
  · rw [List.getElem?_range hi]
    by_cases hki : q = i
    · subst hki; simp [hi, hv]
    · simp [hki, h i (Ne.symm hki)]
  · rw [List.getElem?_eq_none (by simpa using hi)]
    by_cases hki : q = i
    · subst hki; simp [hi]
    · simp [hki]
theorem key_div {n : Int} (h : 0 ≤ n ∧ n ≤ 1023) : IntKind.wrap .i64 (Int.tdiv n 32) = ((n.toNat / 32 : Nat) : Int) ∧ n.toNat / 32 < 32 := by
  obtain ⟨m, rfl⟩ := Int.eq_ofNat_of_zero_le h.1
  have hm : m ≤ 1023 := by omega
  rw [Int.tdiv_eq_ediv_of_nonneg (by omega), Int.toNat_natCast, w64 (by omega) (by omega)]
  omega
theorem key_mod {n : Int} (h : 0 ≤ n ∧ n ≤ 1023) : Int.tmod n 32 = ((n.toNat % 32 : Nat) : Int) ∧ n.toNat % 32 < 32 := by
  obtain ⟨m, rfl⟩ := Int.eq_ofNat_of_zero_le h.1
  rw [Int.tmod_eq_emod_of_nonneg (by omega), Int.toNat_natCast]
  omega
theorem s_after_step {b : Bls} {top : List Int} {l : List Kv} (hk : Ks l) (hl : l.length ≤ 1000) {i : Nat} (hi : i < l.length) :
    s_l6After_L1 ((List.range 32).map (aft b top (l.take i)), (List.range 32).map (oth (l.take i)), l, ((l.length : Nat) : Int), ((i : Nat) : Int)) =
      some (.inl ((List.range 32).map (aft b top (l.take (i + 1))), (List.range 32).map (oth (l.take (i + 1))), l, ((l.length : Nat) : Int), ((i + 1 : Nat) : Int))) := by
  have hs := sg_some hi
  generalize sg l i = s at hs
  have hks := hk s (List.mem_of_getElem? hs)
  obtain ⟨d1, d2⟩ := key_div hks
  obtain ⟨m1, m2⟩ := key_mod hks
  have ho := oth_succ hs
  have ha := av_succ (b := b) (top := top) hs
  have g1 := map_get 32 (oth (l.take i)) d2
  have g2 := map_get 32 (aft b top (l.take i)) d2
  have l1 : ((List.range 32).map (oth (l.take i))).length = 32 := rng_len _ _
  have l2 : ((List.range 32).map (aft b top (l.take i))).length = 32 := rng_len _ _
  have e1 := set_fun 32 (s.1.toNat / 32) (oth (l.take i)) (oth (l.take (i + 1))) (v := true) (by rw [ho]; simp) (fun k hne => by rw [ho, decide_eq_false (Ne.symm hne), Bool.or_false])
  have hal := av_len b top (l.take i) (s.1.toNat / 32)
  have e2 := set_fun 32 (s.1.toNat / 32) (aft b top (l.take i)) (aft b top (l.take (i + 1))) (v := (av b top (l.take i) (s.1.toNat / 32)).set (s.1.toNat % 32) s.2)
    (by unfold aft; rw [ho, decide_eq_true rfl, Bool.or_true, if_pos rfl, ha]; unfold upd; rw [if_pos rfl])
    (fun k hne => by unfold aft; rw [ho, decide_eq_false (Ne.symm hne), Bool.or_false, ha]; unfold upd; rw [if_neg (Ne.symm hne)])
  have hcase : (aft b top (l.take i) (s.1.toNat / 32) = av b top (l.take i) (s.1.toNat / 32)) ∨ (aft b top (l.take i) (s.1.toNat / 32) = [] ∧ av b top (l.take i) (s.1.toNat / 32) = zer) := by
    unfold aft
    cases hq : oth (l.take i) (s.1.toNat / 32) with
    | true => exact .inl (if_pos rfl)
    | false =>
      rw [if_neg (by simp), av_no hq]
      unfold lfs lfv
      split
      · exact .inr ⟨rfl, rfl⟩
      · exact .inl rfl
  generalize hA : av b top (l.take i) (s.1.toNat / 32) = A at *
  generalize hq : s.1.toNat / 32 = q at *
  generalize hr : s.1.toNat % 32 = r at *
  generalize (List.range 32).map (oth (l.take i)) = ots at *
  generalize (List.range 32).map (aft b top (l.take i)) = lvs at *
  have hAr : A[r]? = some (gb A r) := gb_some (by omega)
  unfold s_l6After_L1
  dsimp only
  rw [iy (by omega), iy (by omega), Int.toNat_natCast, hs, Option.bind_some, d1]
  simp (disch := omega) only [iy, l1, l2, Int.toNat_natCast, Nat.zero_add, g1, g2, Option.bind_some]
  rcases hcase with hc | ⟨hc, hz⟩
  · rw [hc] at g2
    rw [hc, ino (by omega), Option.bind_some]
    dsimp only
    simp (disch := omega) only [m1, iy, l2, Int.toNat_natCast, Nat.zero_add, g2, Option.bind_some, hal, hAr, ix64, e1, e2, hr]
  · rw [hc]
    have hset : (lvs.set q zer)[q]? = some A := by rw [List.getElem?_set_self (by omega), hz]
    have hll : (lvs.set q zer).length = 32 := by rw [List.length_set, l2]
    have hss : (lvs.set q zer).set q (A.set r s.2) = lvs.set q (A.set r s.2) := by rw [List.set_set]
    rw [show List.replicate (Int.toNat 32) (0 : Int) = zer from rfl]
    rw [iy (show (((([] : List Int).length : Nat)) : Int) = 0 from rfl), if_pos rm8, Option.bind_some]
    dsimp only
    simp (disch := omega) only [m1, iy, hll, Int.toNat_natCast, Nat.zero_add, hset, Option.bind_some, hal, hAr, ix64, e1, e2, hr, hss]
theorem s_after_eq {b : Bls} {x y z top : List Int} {l : List Kv} {root : Int} (g : RS b x y) (ht : tre b x y root = some top) (htl : top.length = 32) (hk : Ks l) (hl : l.length ≤ 1000) :
    s_l6After b x y z root l = some ((List.range 32).map (aft b top l), (List.range 32).map (oth l)) := by
  unfold s_l6After
  rw [s_tree_eq g, ht, Option.bind_some]
  unfold trS
  dsimp only
  rw [iy (by omega), iy (by omega), if_pos (by simp [roomFor])]
  have h := loop_run s_l6After_L1 (fun i => ((List.range 32).map (aft b top (l.take i)), (List.range 32).map (oth (l.take i)), l, ((l.length : Nat) : Int), ((i : Nat) : Int))) l.length
    ((List.range 32).map (aft b top (l.take l.length)), (List.range 32).map (oth (l.take l.length))) (fun i hi => s_after_step hk hl hi) (by
      unfold s_l6After_L1
      dsimp only
      rw [ino (by omega)])
  have e0 : List.map (lfs b) top = (List.range 32).map (aft b top (l.take 0)) := by
    rw [← map_gb (lfs b) htl]
    exact List.map_congr_left fun k _ => rfl
  have e1 : List.replicate (Int.toNat 32) false = (List.range 32).map (oth (l.take 0)) := by
    rw [show (List.range 32).map (oth (l.take 0)) = (List.range 32).map (fun _ => false) from List.map_congr_left fun k _ => rfl, map_const]; rfl
  rw [e0, e1, show loopG s_l6After_L1 ((List.range 32).map (aft b top (l.take 0)), (List.range 32).map (oth (l.take 0)), l, ((l.length : Nat) : Int), 0) = _ from h, Option.bind_some, List.take_length]
def nwC (b : Bls) (top : List Int) (l : List Kv) : Nat → Nat
  | 0 => 0
  | k + 1 => nwC b top l k + (if (oth l k && nz (av b top l k)) = true then 1 else 0)
def anC (b : Bls) (top : List Int) (l : List Kv) (k : Nat) : Bool := (List.range k).any fun j => nz (av b top l j)
def ndK (b : Bls) (top : List Int) (l : List Kv) : Nat := if l.length = 0 then 0 else nwC b top l 32 + (if anC b top l 32 = true then 1 else 0)
theorem nwC_le (b : Bls) (top : List Int) (l : List Kv) : ∀ k, nwC b top l k ≤ k
  | 0 => Nat.le_refl _
  | k + 1 => by have := nwC_le b top l k; simp only [nwC]; split <;> omega
theorem anC_succ (b : Bls) (top : List Int) (l : List Kv) (k : Nat) : anC b top l (k + 1) = (anC b top l k || nz (av b top l k)) := by
  unfold anC; rw [List.range_succ, List.any_append]; simp
theorem s_need_eqK {b : Bls} {x y z top : List Int} {l : List Kv} {root : Int} (g : RS b x y) (ht : tre b x y root = some top) (htl : top.length = 32) (hk : Ks l) (hl : l.length ≤ 1000) :
    s_l6Need b x y z root l = some ((ndK b top l : Nat) : Int) := by
  unfold s_l6Need ndK
  by_cases h0 : l.length = 0
  · rw [iy (by omega), if_pos h0]; rfl
  rw [ino (by omega), if_neg h0, s_after_eq g ht htl hk hl, Option.bind_some]
  dsimp only
  have hll : ((List.range 32).map (aft b top l)).length = 32 := rng_len _ _
  have hlo : ((List.range 32).map (oth l)).length = 32 := rng_len _ _
  have h := loop_run s_l6Need_L1 (fun k => ((List.range 32).map (oth l), ((nwC b top l k : Nat) : Int), (if anC b top l k = true then (1 : Int) else 0), (List.range 32).map (aft b top l), ((32 : Nat) : Int), ((k : Nat) : Int))) 32 (((nwC b top l 32 : Nat) : Int), (if anC b top l 32 = true then (1 : Int) else 0)) (fun k hk => by
      have g1 := map_get 32 (oth l) hk
      have g2 := map_get 32 (aft b top l) hk
      have hln : (aft b top l k).length ≤ 1000 := by
        unfold aft lfs
        split
        · rw [av_len]; omega
        · split
          · simp
          · rw [pnums_len]; omega
      have hc := nwC_le b top l k
      unfold s_l6Need_L1
      dsimp only
      rw [iy (by omega), iy (by omega), hll, iy (by omega), Int.toNat_natCast, Nat.zero_add, g2, Option.bind_some, Option.bind_some, s_any_eq (by omega), Option.bind_some, aft_nz, anC_succ]
      simp only [nwC]
      cases hnz : nz (av b top l k) with
      | false =>
        rw [if_neg (by simp), Option.bind_some]
        dsimp only
        rw [ix64 (by omega), Bool.and_false, Bool.or_false]
        rfl
      | true =>
        rw [if_pos rfl, iy (by omega), hlo, iy (by omega), g1, Option.bind_some, Bool.and_true, Bool.or_true]
        cases oth l k with
        | false =>
          rw [if_neg (by simp), Option.bind_some, Option.bind_some]
          dsimp only
          rw [ix64 (by omega)]
          rfl
        | true =>
          rw [if_pos rfl, Option.bind_some, Option.bind_some]
          dsimp only
          rw [ix64 (by omega), ix64 (by omega)]
          rfl) (by
      unfold s_l6Need_L1
      dsimp only
      rw [ino (by omega)])
  have hc := nwC_le b top l 32
  rw [hll, show loopG s_l6Need_L1 ((List.range 32).map (oth l), 0, 0, (List.range 32).map (aft b top l), ((32 : Nat) : Int), 0) = _ from h, Option.bind_some]
  dsimp only
  rw [w64 (by split <;> omega) (by split <;> omega)]
  cases anC b top l 32 <;> simp
theorem i_needIn_step {b : Bls} {top : List Int} {l : List Kv} {vals : List (List Int)} {n root : Int} {an : Bool} (hk : Ks l) (hl : l.length ≤ 1000) {k i : Nat} (hi : i < l.length) (hk32 : k < 32) :
    i_tree_need_L1 (l, n, an, ((k : Nat) : Int), av b top (l.take i) k, oth (l.take i) k, ((k : Nat) : Int), l, ((l.length : Nat) : Int), ((i : Nat) : Int), root, top, vals) =
      some (.inl (l, n, an, ((k : Nat) : Int), av b top (l.take (i + 1)) k, oth (l.take (i + 1)) k, ((k : Nat) : Int), l, ((l.length : Nat) : Int), ((i + 1 : Nat) : Int), root, top, vals)) := by
  have hs := sg_some hi
  generalize sg l i = s at hs
  have hks := hk s (List.mem_of_getElem? hs)
  obtain ⟨d1, d2⟩ := key_div hks
  obtain ⟨m1, m2⟩ := key_mod hks
  have hal := av_len b top (l.take i) k
  unfold i_tree_need_L1
  dsimp only
  rw [iy (by omega), iy (by omega), Int.toNat_natCast, hs, Option.bind_some, iy (by omega), d1, av_succ hs, oth_succ hs]
  unfold upd
  by_cases hq : s.1.toNat / 32 = k
  · rw [iy (by omega), m1, iy (by omega), iy (by omega), hal, iy (by omega), Int.toNat_natCast, Nat.zero_add, gb_some (show s.1.toNat % 32 < (av b top (l.take i) k).length by omega), Option.bind_some, Option.bind_some, Option.bind_some]
    dsimp only
    rw [ix64 (by omega), if_pos hq, decide_eq_true hq, Bool.or_true]
  · rw [ino (by omega), Option.bind_some]
    dsimp only
    rw [ix64 (by omega), if_neg hq, decide_eq_false hq, Bool.or_false]
theorem i_need_eqK {b : Bls} {top : List Int} {l : List Kv} {root : Int} (htl : top.length = 32) (hk : Ks l) (hl : l.length ≤ 1000) :
    i_tree_need root top (top.map (lfv b)) l = some ((ndK b top l : Nat) : Int) := by
  unfold i_tree_need ndK
  by_cases h0 : l.length = 0
  · rw [iy (by omega), if_pos h0]; rfl
  rw [ino (by omega), if_neg h0]
  have hvl : (top.map (lfv b)).length = 32 := by rw [List.length_map, htl]
  have h := loop_run i_tree_need_L2 (fun k => (l, ((nwC b top l k : Nat) : Int), anC b top l k, ((k : Nat) : Int), root, top, top.map (lfv b))) 32 (((nwC b top l 32 : Nat) : Int), anC b top l 32) (fun k hk32 => by
      have hg : (top.map (lfv b))[k]? = some (lfv b (gb top k)) := by rw [List.getElem?_map, gb_some (by omega)]; rfl
      have hln := lfv_len b (gb top k)
      have hc := nwC_le b top l k
      have hav := av_len b top l k
      have hin := loop_run i_tree_need_L1 (fun i => (l, ((nwC b top l k : Nat) : Int), anC b top l k, ((k : Nat) : Int), av b top (l.take i) k, oth (l.take i) k, ((k : Nat) : Int), l, ((l.length : Nat) : Int), ((i : Nat) : Int), root, top, top.map (lfv b))) l.length
        (l, ((nwC b top l k : Nat) : Int), anC b top l k, av b top (l.take l.length) k, oth (l.take l.length) k, ((k : Nat) : Int), root, top, top.map (lfv b)) (fun i hi => i_needIn_step hk hl hi hk32) (by
          unfold i_tree_need_L1
          dsimp only
          rw [ino (by omega)])
      rw [List.take_length] at hin
      unfold i_tree_need_L2
      dsimp only
      rw [iy (by omega), iy (by omega), Int.toNat_natCast, hg, Option.bind_some, cloneI_any (by omega), Option.bind_some,
        show loopG i_tree_need_L1 (l, ((nwC b top l k : Nat) : Int), anC b top l k, ((k : Nat) : Int), lfv b (gb top k), false, ((k : Nat) : Int), l, ((l.length : Nat) : Int), 0, root, top, top.map (lfv b)) = _ from hin, Option.bind_some, anC_succ]
      simp only [nwC]
      have hA : (if anC b top l k = true then some (l, ((nwC b top l k : Nat) : Int), true, av b top l k, oth l k, ((k : Nat) : Int), root, top, top.map (lfv b)) else
          Option.bind (i_isEmpty (av b top l k)) fun c8 => some (l, ((nwC b top l k : Nat) : Int), (!c8), av b top l k, oth l k, ((k : Nat) : Int), root, top, top.map (lfv b))) =
          some (l, ((nwC b top l k : Nat) : Int), (anC b top l k || nz (av b top l k)), av b top l k, oth l k, ((k : Nat) : Int), root, top, top.map (lfv b)) := by
        cases anC b top l k with
        | true => rfl
        | false => rw [if_neg (by simp), i_empty_eq (by omega), Option.bind_some, Bool.not_not, Bool.false_or]
      rw [hA, Option.bind_some]
      dsimp only
      have hB : (if oth l k = true then Option.bind (i_isEmpty (av b top l k)) fun c10 => some (l, ((nwC b top l k : Nat) : Int), (anC b top l k || nz (av b top l k)), ((k : Nat) : Int), (!c10), root, top, top.map (lfv b)) else
          some (l, ((nwC b top l k : Nat) : Int), (anC b top l k || nz (av b top l k)), ((k : Nat) : Int), false, root, top, top.map (lfv b))) =
          some (l, ((nwC b top l k : Nat) : Int), (anC b top l k || nz (av b top l k)), ((k : Nat) : Int), (oth l k && nz (av b top l k)), root, top, top.map (lfv b)) := by
        cases oth l k with
        | false => rfl
        | true => rw [if_pos rfl, i_empty_eq (by omega), Option.bind_some, Bool.not_not, Bool.true_and]
      rw [hB, Option.bind_some]
      dsimp only
      cases (oth l k && nz (av b top l k)) with
      | false =>
        rw [if_neg (by simp), Option.bind_some]
        dsimp only
        rw [ix64 (by omega)]; rfl
      | true =>
        rw [if_pos rfl, Option.bind_some]
        dsimp only
        rw [ix64 (by omega), ix64 (by omega)]; rfl) (by
      unfold i_tree_need_L2
      dsimp only
      rw [ino (by omega)])
  have hc := nwC_le b top l 32
  rw [show loopG i_tree_need_L2 (l, 0, false, 0, root, top, top.map (lfv b)) = _ from h, Option.bind_some]
  dsimp only
  cases anC b top l 32 with
  | false => rfl
  | true => rw [if_pos rfl, Option.bind_some, ix64 (by omega)]; rfl
end Go.V.G

set_option linter.unusedVariables false
set_option linter.unusedSimpArgs false
set_option maxRecDepth 100000
namespace Go.V.G
open Go.V
def twoB (n : Int) : List Int := [IntKind.wrap .u8 (n / 256), IntKind.wrap .u8 n]
def pgb (kind : Int) (l : List Int) : List Int := [kind] ++ l.flatMap twoB
theorem flat2_len : ∀ l : List Int, (l.flatMap twoB).length = 2 * l.length
  | [] => rfl
  | a :: l => by rw [List.flatMap_cons, List.length_append, flat2_len l]; simp [twoB]; omega
theorem pgb_len (kind : Int) {l : List Int} (h : l.length = 32) : (pgb kind l).length = 65 := by unfold pgb; rw [List.length_append, flat2_len, h]; rfl
def V2 (l : List Int) : Prop := ∀ v ∈ l, 0 ≤ v ∧ v ≤ 65535
theorem two_eqB {n : Int} (h : 0 ≤ n ∧ n ≤ 65535) : i_two n = some (twoB n) := by
  unfold i_two twoB
  rw [iy (by omega), show (2 : Int) ^ (min (Int.toNat 8) (IntKind.bits .i64)) = 256 from rfl, Int.fdiv_eq_ediv_of_nonneg _ (by omega)]
theorem w256 {n : Int} (h : 0 ≤ n ∧ n ≤ 65535) : IntKind.wrap .i64 (Int.tdiv n 256) = n / 256 := by
  rw [Int.tdiv_eq_ediv_of_nonneg h.1, w64 (by omega) (by omega)]
theorem flat_snoc {l : List Int} {i : Nat} {v : Int} (h : l[i]? = some v) : (l.take (i + 1)).flatMap twoB = (l.take i).flatMap twoB ++ twoB v := by
  rw [take_snocK h, List.flatMap_append]; simp
theorem s_pageL_eq {b : Bls} {x y z l : List Int} {kind : Int} {m : Nat} (hl : l.length = 32) (hv : V2 l) (hm : m < b.length) (hz : z.length ≤ 1048576) (hr : Ris z) :
    s_l6Page_oooo ((m : Nat) : Int) kind l b x y z = some (b.set m (padB (pgb kind l)), x, y, pt z ((m : Nat) : Int)) := by
  unfold s_l6Page_oooo
  have h := loop_run s_l6Page_oooo_L1 (fun i => (((m : Nat) : Int), [kind] ++ (l.take i).flatMap twoB, l, ((l.length : Nat) : Int), ((i : Nat) : Int), b, x, y, z)) l.length (((m : Nat) : Int), [kind] ++ (l.take l.length).flatMap twoB, b, x, y, z) (fun i hi => by
      have hg := gb_some hi
      have hvv := hv _ (List.mem_of_getElem? hg)
      have hroom : roomFor (([kind] ++ (l.take i).flatMap twoB).length + (twoB (gb l i)).length) 1 = true := by
        simp only [roomFor, decide_eq_true_eq, List.length_append, flat2_len, List.length_take, List.length_singleton, twoB, List.length_cons, List.length_nil]; omega
      unfold s_l6Page_oooo_L1
      dsimp only
      rw [iy (by omega), iy (by omega), Int.toNat_natCast, hg, Option.bind_some, iy (by omega), w256 hvv, show ([IntKind.wrap .u8 (gb l i / 256), IntKind.wrap .u8 (gb l i)] : List Int) = twoB (gb l i) from rfl, if_pos hroom, ix64 (by omega), flat_snoc hg, List.append_assoc]) (by
      unfold s_l6Page_oooo_L1
      dsimp only
      rw [ino (by omega)])
  rw [List.take_length] at h
  rw [show loopG s_l6Page_oooo_L1 (((m : Nat) : Int), [kind], l, ((l.length : Nat) : Int), 0, b, x, y, z) = _ from h, Option.bind_some]
  dsimp only
  rw [show [kind] ++ l.flatMap twoB = pgb kind l from rfl, s_lay_eq (by rw [pgb_len kind hl]; omega) hm hz hr]
  rfl
theorem i_layPage_eq {b : Bls} {x y z l : List Int} {kind : Int} {m : Nat} (hl : l.length = 32) (hv : V2 l) (hm : m < b.length) (hz : z.length ≤ 1048576) (hr : Ris z) :
    i_Space_layPage_oooo ((m : Nat) : Int) kind l b x y z = some (b.set m (padB (pgb kind l)), x, y, pt z ((m : Nat) : Int)) := by
  unfold i_Space_layPage_oooo
  have h := loop_run i_Space_layPage_oooo_L1 (fun i => (((m : Nat) : Int), [kind] ++ (l.take i).flatMap twoB, l, ((l.length : Nat) : Int), ((i : Nat) : Int), b, x, y, z)) l.length (((m : Nat) : Int), [kind] ++ (l.take l.length).flatMap twoB, b, x, y, z) (fun i hi => by
      have hg := gb_some hi
      have hvv := hv _ (List.mem_of_getElem? hg)
      have hroom : roomFor (([kind] ++ (l.take i).flatMap twoB).length + (twoB (gb l i)).length) 1 = true := by
        simp only [roomFor, decide_eq_true_eq, List.length_append, flat2_len, List.length_take, List.length_singleton, twoB, List.length_cons, List.length_nil]; omega
      unfold i_Space_layPage_oooo_L1
      dsimp only
      rw [iy (by omega), iy (by omega), Int.toNat_natCast, hg, Option.bind_some, two_eqB hvv, Option.bind_some, if_pos hroom, ix64 (by omega), flat_snoc hg, List.append_assoc]) (by
      unfold i_Space_layPage_oooo_L1
      dsimp only
      rw [ino (by omega)])
  rw [List.take_length] at h
  have hp := pgb_len kind hl
  rw [show loopG i_Space_layPage_oooo_L1 (((m : Nat) : Int), [kind], l, ((l.length : Nat) : Int), 0, b, x, y, z) = _ from h, Option.bind_some]
  dsimp only
  rw [show [kind] ++ l.flatMap twoB = pgb kind l from rfl, i_padded_eq (by omega), Option.bind_some, i_lay_eq (padB_len (by omega)) hm hz hr]
  rfl
theorem pgb_u8 {kind : Int} {l : List Int} (hk : 0 ≤ kind ∧ kind ≤ 255) : U8s (padB (pgb kind l)) := u8_pad fun v hv => by
  unfold pgb at hv
  rcases List.mem_append.1 hv with hv | hv
  · rw [List.mem_singleton.1 hv]; exact hk
  · obtain ⟨a, _, ha⟩ := List.mem_flatMap.1 hv
    unfold twoB at ha
    simp only [List.mem_cons, List.not_mem_nil, or_false] at ha
    rcases ha with rfl | rfl <;> exact u8_wrap _
theorem ris_ext : ∀ {a b : List Int}, Ris a → Ris b → (∀ v, v ∈ a ↔ v ∈ b) → a = b := by
  intro a b ha hb
  rw [ris_iff] at ha hb
  induction a generalizing b with
  | nil =>
    intro h
    cases b with
    | nil => rfl
    | cons v b => exact absurd ((h v).2 (by simp)) (by simp)
  | cons v a ih =>
    intro h
    cases b with
    | nil => exact absurd ((h v).1 (by simp)) (by simp)
    | cons w b =>
      rw [List.pairwise_cons] at ha hb
      have hvw : v = w := by
        have h1 := (h v).1 (by simp)
        have h2 := (h w).2 (by simp)
        rcases List.mem_cons.1 h1 with h1 | h1
        · exact h1
        · rcases List.mem_cons.1 h2 with h2 | h2
          · exact h2.symm
          · have := ha.1 w h2; have := hb.1 v h1; omega
      subst hvw
      refine congrArg (v :: ·) (ih ha.2 hb.2 fun u => ?_)
      have hu := h u
      constructor
      · intro hm
        rcases List.mem_cons.1 (hu.1 (by simp [hm])) with rfl | h3
        · have := ha.1 u hm; omega
        · exact h3
      · intro hm
        rcases List.mem_cons.1 (hu.2 (by simp [hm])) with rfl | h3
        · have := hb.1 u hm; omega
        · exact h3
noncomputable def pts (z l : List Int) : List Int := l.foldl pt z
theorem pts_snoc (z l : List Int) (v : Int) : pts z (l ++ [v]) = pt (pts z l) v := by unfold pts; rw [List.foldl_append]; rfl
theorem pts_ok {z : List Int} (hr : Ris z) : ∀ {l : List Int}, z.length + l.length ≤ 1048576 → Ris (pts z l) ∧ (pts z l).length ≤ z.length + l.length ∧ ∀ v, v ∈ pts z l ↔ v ∈ z ∨ v ∈ l := by
  intro l
  induction l generalizing z with
  | nil => intro h; exact ⟨hr, by simp [pts], fun v => by simp [pts]⟩
  | cons a l ih =>
    intro h
    rw [List.length_cons] at h
    obtain ⟨_, _, h3, h4, h5⟩ := pt_eq (z := z) (by omega) hr a
    obtain ⟨i1, i2, i3⟩ := ih h4 (by omega)
    refine ⟨i1, ?_, fun v => ?_⟩
    · have : pts z (a :: l) = pts (pt z a) l := rfl
      rw [this, List.length_cons]; omega
    · have : pts z (a :: l) = pts (pt z a) l := rfl
      rw [this, i3 v, h5 v, List.mem_cons]
      constructor
      · rintro ((h | h) | h)
        · exact .inl h
        · exact .inr (.inl h)
        · exact .inr (.inr h)
      · rintro (h | h | h)
        · exact .inl (.inl h)
        · exact .inl (.inr h)
        · exact .inr h
theorem pts_comm {z a c : List Int} (hr : Ris z) (h : z.length + (a.length + c.length) ≤ 1048576) : pts z (a ++ c) = pts z (c ++ a) := by
  obtain ⟨h1, _, h3⟩ := pts_ok hr (l := a ++ c) (by rw [List.length_append]; omega)
  obtain ⟨g1, _, g3⟩ := pts_ok hr (l := c ++ a) (by rw [List.length_append]; omega)
  refine ris_ext h1 g1 fun v => ?_
  rw [h3 v, g3 v, List.mem_append, List.mem_append]
  constructor
  · rintro (h | h | h)
    · exact .inl h
    · exact .inr (.inr h)
    · exact .inr (.inl h)
  · rintro (h | h | h)
    · exact .inl h
    · exact .inr (.inr h)
    · exact .inr (.inl h)
def tl (l : List Kv) : Nat → Nat → List Int
  | _, 0 => []
  | k, d + 1 => if oth l k = true then ((k : Nat) : Int) :: tl l (k + 1) d else tl l (k + 1) d
theorem tl_mem (l : List Kv) : ∀ d k v, v ∈ tl l k d ↔ ∃ m : Nat, v = ((m : Nat) : Int) ∧ k ≤ m ∧ m < k + d ∧ oth l m = true
  | 0, k, v => by
    simp only [tl, List.not_mem_nil, false_iff]
    rintro ⟨m, _, h1, h2, _⟩; omega
  | d + 1, k, v => by
    have ih := tl_mem l d (k + 1) v
    have key : v ∈ tl l (k + 1) d ∨ (v = ((k : Nat) : Int) ∧ oth l k = true) ↔ ∃ m : Nat, v = ((m : Nat) : Int) ∧ k ≤ m ∧ m < k + (d + 1) ∧ oth l m = true := by
      rw [ih]
      constructor
      · rintro (⟨m, h1, h2, h3, h4⟩ | ⟨h1, h2⟩)
        · exact ⟨m, h1, by omega, by omega, h4⟩
        · exact ⟨k, h1, by omega, by omega, h2⟩
      · rintro ⟨m, h1, h2, h3, h4⟩
        by_cases hkm : k = m
        · subst hkm; exact .inr ⟨h1, h4⟩
        · exact .inl ⟨m, h1, by omega, by omega, h4⟩
    rw [← key]
    simp only [tl]
    cases ho : oth l k with
    | true =>
      rw [if_pos rfl, List.mem_cons]
      constructor
      · rintro (h | h)
        · exact .inr ⟨h, rfl⟩
        · exact .inl h
      · rintro (h | ⟨h, _⟩)
        · exact .inr h
        · exact .inl h
    | false =>
      rw [if_neg (by simp)]
      constructor
      · intro h; exact .inl h
      · rintro (h | ⟨_, h⟩)
        · exact h
        · cases h
theorem tl_ris (l : List Kv) : ∀ d k, (tl l k d).Pairwise (· < ·)
  | 0, k => List.Pairwise.nil
  | d + 1, k => by
    simp only [tl]
    split
    · refine List.pairwise_cons.2 ⟨fun v hv => ?_, tl_ris l d (k + 1)⟩
      obtain ⟨m, rfl, h1, _, _⟩ := (tl_mem l d (k + 1) v).1 hv
      omega
    · exact tl_ris l d (k + 1)
theorem tl_len (l : List Kv) : ∀ d k, (tl l k d).length ≤ d
  | 0, k => Nat.le_refl _
  | d + 1, k => by
    have := tl_len l d (k + 1)
    simp only [tl]; split
    · rw [List.length_cons]; omega
    · omega
def qk (s : Kv) : Int := ((s.1.toNat / 32 : Nat) : Int)
noncomputable def turned (l : List Kv) : List Int := pts [] (l.map qk)
theorem turned_eq {l : List Kv} (hk : Ks l) (hl : l.length ≤ 1000) : turned l = tl l 0 32 := by
  unfold turned
  obtain ⟨h1, _, h3⟩ := pts_ok (z := []) (by rw [ris_iff]; exact List.Pairwise.nil) (l := l.map qk) (by simp; omega)
  refine ris_ext h1 (ris_iff.2 (tl_ris l 32 0)) fun v => ?_
  rw [h3 v, tl_mem]
  constructor
  · rintro (h | h)
    · cases h
    · obtain ⟨s, hs, rfl⟩ := List.mem_map.1 h
      have := (key_div (hk s hs)).2
      refine ⟨s.1.toNat / 32, rfl, by omega, by omega, ?_⟩
      unfold oth; rw [List.any_eq_true]; exact ⟨s, hs, by simp⟩
  · rintro ⟨m, rfl, _, _, h⟩
    unfold oth at h
    rw [List.any_eq_true] at h
    obtain ⟨s, hs, h⟩ := h
    have : s.1.toNat / 32 = m := by simpa using h
    exact .inr (List.mem_map.2 ⟨s, hs, by unfold qk; rw [this]⟩)
def goS (nx go : List Int) (k : Nat) : List Int := if gb nx k = 0 then go else go ++ [gb nx k]
theorem go_room {go : List Int} (h : go.length ≤ 1000) (v : Int) : roomFor (go.length + ([v] : List Int).length) 8 = true := by simp only [roomFor, decide_eq_true_eq, List.length_singleton]; omega
section
variable {b : Bls} {x y z nx go T top A : List Int} {vals vals0 : List (List Int)} {root : Int} {j k : Nat}
theorem i_step_no (hT : T[j]? = some ((k : Nat) : Int)) (hTl : T.length ≤ 32) (hk : k < 32) (hn : nx.length = 32) (hvl : vals.length = 32) (hA : vals[k]? = some A) (hAl : A.length = 32) (hg : go.length ≤ 1000) (hz : nz A = false) :
    i_Space_set_oooo_L3 (nx, vals, go, T, ((T.length : Nat) : Int), ((j : Nat) : Int), root, top, vals0, b, x, y, z) = some (.inl (nx.set k 0, vals, goS nx go k, T, ((T.length : Nat) : Int), ((j + 1 : Nat) : Int), root, top, vals0, b, x, y, z)) := by
  have hj := (List.getElem?_eq_some_iff.1 hT).1
  have hnk : nx[k]? = some (gb nx k) := gb_some (by omega)
  have he := i_empty_eq (l := A) (by omega)
  rw [hz] at he
  unfold i_Space_set_oooo_L3
  dsimp only
  rw [iy (by omega), iy (by omega), iy (by omega), Nat.zero_add, Int.toNat_natCast, hT, Option.bind_some, iy (by omega), iy (by omega), Nat.zero_add, Int.toNat_natCast, hnk, Option.bind_some]
  by_cases h0 : gb nx k = 0
  · rw [ino (not_not_intro h0), Option.bind_some]
    dsimp only
    rw [iy (by omega), iy (by omega), Nat.zero_add, Int.toNat_natCast, hnk, Option.bind_some, Option.bind_some, iy (by omega), iy (by omega), hA, Option.bind_some, Option.bind_some, he, Option.bind_some, if_pos (by simp), Option.bind_some]
    dsimp only
    unfold goS
    rw [ix64 (by omega), if_pos h0]
  · rw [iy h0, iy (by omega), iy (by omega), Option.bind_some, if_pos (go_room hg _), Option.bind_some]
    dsimp only
    rw [iy (by omega), iy (by omega), Nat.zero_add, Int.toNat_natCast, hnk, Option.bind_some, Option.bind_some, iy (by omega), iy (by omega), hA, Option.bind_some, Option.bind_some, he, Option.bind_some, if_pos (by simp), Option.bind_some]
    dsimp only
    unfold goS
    rw [ix64 (by omega), if_neg h0]
theorem i_step_bad {f : Sp} (hT : T[j]? = some ((k : Nat) : Int)) (hTl : T.length ≤ 32) (hk : k < 32) (hn : nx.length = 32) (hvl : vals.length = 32) (hA : vals[k]? = some A) (hAl : A.length = 32) (hg : go.length ≤ 1000) (hz : nz A = true)
    (ht : i_Space_take_oooo b x y z = some (0, false, f)) :
    i_Space_set_oooo_L3 (nx, vals, go, T, ((T.length : Nat) : Int), ((j : Nat) : Int), root, top, vals0, b, x, y, z) = some (.inr (.inr (0, false, f))) := by
  have hj := (List.getElem?_eq_some_iff.1 hT).1
  have hnk : nx[k]? = some (gb nx k) := gb_some (by omega)
  have he := i_empty_eq (l := A) (by omega)
  rw [hz] at he
  unfold i_Space_set_oooo_L3
  dsimp only
  rw [iy (by omega), iy (by omega), iy (by omega), Nat.zero_add, Int.toNat_natCast, hT, Option.bind_some, iy (by omega), iy (by omega), Nat.zero_add, Int.toNat_natCast, hnk, Option.bind_some]
  by_cases h0 : gb nx k = 0
  · rw [ino (not_not_intro h0), Option.bind_some]
    dsimp only
    rw [iy (by omega), iy (by omega), Nat.zero_add, Int.toNat_natCast, hnk, Option.bind_some, Option.bind_some, iy (by omega), iy (by omega), hA, Option.bind_some, Option.bind_some, he, Option.bind_some, if_neg (by simp), ht, Option.bind_some]
    dsimp only
    rw [if_pos (by simp), Option.bind_some]
  · rw [iy h0, iy (by omega), iy (by omega), Option.bind_some, if_pos (go_room hg _), Option.bind_some]
    dsimp only
    rw [iy (by omega), iy (by omega), Nat.zero_add, Int.toNat_natCast, hnk, Option.bind_some, Option.bind_some, iy (by omega), iy (by omega), hA, Option.bind_some, Option.bind_some, he, Option.bind_some, if_neg (by simp), ht, Option.bind_some]
    dsimp only
    rw [if_pos (by simp), Option.bind_some]
theorem i_step_yes {m : Int} {b1 b2 : Bls} {x1 y1 z1 x2 y2 z2 : List Int} (hT : T[j]? = some ((k : Nat) : Int)) (hTl : T.length ≤ 32) (hk : k < 32) (hn : nx.length = 32) (hvl : vals.length = 32) (hA : vals[k]? = some A) (hAl : A.length = 32) (hg : go.length ≤ 1000) (hz : nz A = true)
    (ht : i_Space_take_oooo b x y z = some (m, true, b1, x1, y1, z1)) (hp : i_Space_layPage_oooo m 81 A b1 x1 y1 z1 = some (b2, x2, y2, z2)) :
    i_Space_set_oooo_L3 (nx, vals, go, T, ((T.length : Nat) : Int), ((j : Nat) : Int), root, top, vals0, b, x, y, z) = some (.inl (nx.set k m, vals, goS nx go k, T, ((T.length : Nat) : Int), ((j + 1 : Nat) : Int), root, top, vals0, b2, x2, y2, z2)) := by
  have hj := (List.getElem?_eq_some_iff.1 hT).1
  have hnk : nx[k]? = some (gb nx k) := gb_some (by omega)
  have he := i_empty_eq (l := A) (by omega)
  rw [hz] at he
  have hn2 : (nx.set k 0).length = 32 := by rw [List.length_set]; exact hn
  have hs : (nx.set k 0)[k]? = some 0 := List.getElem?_set_self (by omega)
  unfold i_Space_set_oooo_L3
  dsimp only
  rw [iy (by omega), iy (by omega), iy (by omega), Nat.zero_add, Int.toNat_natCast, hT, Option.bind_some, iy (by omega), iy (by omega), Nat.zero_add, Int.toNat_natCast, hnk, Option.bind_some]
  by_cases h0 : gb nx k = 0
  · rw [ino (not_not_intro h0), Option.bind_some]
    dsimp only
    rw [iy (by omega), iy (by omega), Nat.zero_add, Int.toNat_natCast, hnk, Option.bind_some, Option.bind_some, iy (by omega), iy (by omega), hA, Option.bind_some, Option.bind_some, he, Option.bind_some, if_neg (by simp), ht, Option.bind_some]
    dsimp only
    rw [if_neg (by simp), iy (by omega), iy (by omega), Option.bind_some, Option.bind_some, hp, Option.bind_some, iy (by omega), iy (by omega), hs, Option.bind_some, Option.bind_some, Option.bind_some]
    dsimp only
    unfold goS
    rw [ix64 (by omega), List.set_set, if_pos h0]
  · rw [iy h0, iy (by omega), iy (by omega), Option.bind_some, if_pos (go_room hg _), Option.bind_some]
    dsimp only
    rw [iy (by omega), iy (by omega), Nat.zero_add, Int.toNat_natCast, hnk, Option.bind_some, Option.bind_some, iy (by omega), iy (by omega), hA, Option.bind_some, Option.bind_some, he, Option.bind_some, if_neg (by simp), ht, Option.bind_some]
    dsimp only
    rw [if_neg (by simp), iy (by omega), iy (by omega), Option.bind_some, Option.bind_some, hp, Option.bind_some, iy (by omega), iy (by omega), hs, Option.bind_some, Option.bind_some, Option.bind_some]
    dsimp only
    unfold goS
    rw [ix64 (by omega), List.set_set, if_neg h0]
variable {ots : List Bool} {lvs : List (List Int)}
theorem s_step_skip (hk : k < 32) (hll : lvs.length = 32) (hol : ots.length = 32) (ho : ots[k]? = some false) :
    s_l6Set_oooo_L1 (top, ots, go, nx, lvs, ((32 : Nat) : Int), ((k : Nat) : Int), b, x, y, z) = some (.inl (top, ots, go, nx, lvs, ((32 : Nat) : Int), ((k + 1 : Nat) : Int), b, x, y, z)) := by
  have hlk : lvs[k]? = some lvs[k] := List.getElem?_eq_getElem (by omega)
  unfold s_l6Set_oooo_L1
  dsimp only
  rw [iy (by omega), iy (by omega), iy (by omega), Nat.zero_add, Int.toNat_natCast, hlk, Option.bind_some, iy (by omega), iy (by omega), ho, Option.bind_some, if_pos (by simp), Option.bind_some]
  dsimp only
  rw [ix64 (by omega)]
theorem s_step_no (hk : k < 32) (hll : lvs.length = 32) (hol : ots.length = 32) (htl : top.length = 32) (hn : nx.length = 32) (ho : ots[k]? = some true) (hA : lvs[k]? = some A) (hAl : A.length = 32) (hg : go.length ≤ 1000) (hz : nz A = false) :
    s_l6Set_oooo_L1 (top, ots, go, nx, lvs, ((32 : Nat) : Int), ((k : Nat) : Int), b, x, y, z) = some (.inl (top, ots, goS top go k, nx.set k 0, lvs, ((32 : Nat) : Int), ((k + 1 : Nat) : Int), b, x, y, z)) := by
  have hnk : nx[k]? = some (gb nx k) := gb_some (by omega)
  have htk : top[k]? = some (gb top k) := gb_some (by omega)
  have he := s_any_eq (l := A) (by omega)
  rw [hz] at he
  unfold s_l6Set_oooo_L1
  dsimp only
  rw [iy (by omega), iy (by omega), iy (by omega), Nat.zero_add, Int.toNat_natCast, hA, Option.bind_some, iy (by omega), iy (by omega), ho, Option.bind_some, if_neg (by simp), iy (by omega), iy (by omega), htk, Option.bind_some]
  by_cases h0 : gb top k = 0
  · rw [ino (not_not_intro h0), Option.bind_some]
    dsimp only
    rw [iy (by omega), iy (by omega), Nat.zero_add, Int.toNat_natCast, hnk, Option.bind_some, Option.bind_some, hA, Option.bind_some, he, Option.bind_some, if_neg (by simp), Option.bind_some]
    dsimp only
    rw [Option.bind_some]
    dsimp only
    unfold goS
    rw [ix64 (by omega), if_pos h0]
  · rw [iy h0, iy (by omega), iy (by omega), Option.bind_some, if_pos (go_room hg _), Option.bind_some]
    dsimp only
    rw [iy (by omega), iy (by omega), Nat.zero_add, Int.toNat_natCast, hnk, Option.bind_some, Option.bind_some, hA, Option.bind_some, he, Option.bind_some, if_neg (by simp), Option.bind_some]
    dsimp only
    rw [Option.bind_some]
    dsimp only
    unfold goS
    rw [ix64 (by omega), if_neg h0]
theorem s_step_yes {m : Int} {b1 b2 : Bls} {x1 y1 z1 x2 y2 z2 : List Int} (hk : k < 32) (hll : lvs.length = 32) (hol : ots.length = 32) (htl : top.length = 32) (hn : nx.length = 32) (ho : ots[k]? = some true) (hA : lvs[k]? = some A) (hAl : A.length = 32) (hg : go.length ≤ 1000) (hz : nz A = true)
    (ht : s_l5Take_oooo b x y z = some (m, b1, x1, y1, z1)) (hp : s_l6Page_oooo m 81 A b1 x1 y1 z1 = some (b2, x2, y2, z2)) :
    s_l6Set_oooo_L1 (top, ots, go, nx, lvs, ((32 : Nat) : Int), ((k : Nat) : Int), b, x, y, z) = some (.inl (top, ots, goS top go k, nx.set k m, lvs, ((32 : Nat) : Int), ((k + 1 : Nat) : Int), b2, x2, y2, z2)) := by
  have hnk : nx[k]? = some (gb nx k) := gb_some (by omega)
  have htk : top[k]? = some (gb top k) := gb_some (by omega)
  have he := s_any_eq (l := A) (by omega)
  rw [hz] at he
  have hn2 : (nx.set k 0).length = 32 := by rw [List.length_set]; exact hn
  have hs : (nx.set k 0)[k]? = some 0 := List.getElem?_set_self (by omega)
  have hn3 : (nx.set k m).length = 32 := by rw [List.length_set]; exact hn
  have hs3 : (nx.set k m)[k]? = some m := List.getElem?_set_self (by omega)
  unfold s_l6Set_oooo_L1
  dsimp only
  rw [iy (by omega), iy (by omega), iy (by omega), Nat.zero_add, Int.toNat_natCast, hA, Option.bind_some, iy (by omega), iy (by omega), ho, Option.bind_some, if_neg (by simp), iy (by omega), iy (by omega), htk, Option.bind_some]
  by_cases h0 : gb top k = 0
  · rw [ino (not_not_intro h0), Option.bind_some]
    dsimp only
    rw [iy (by omega), iy (by omega), Nat.zero_add, Int.toNat_natCast, hnk, Option.bind_some, Option.bind_some, hA, Option.bind_some, he, Option.bind_some, if_pos rfl, ht, Option.bind_some]
    dsimp only
    rw [iy (by omega), iy (by omega), hs, Option.bind_some, Option.bind_some, List.set_set, iy (by omega), iy (by omega), hs3, Option.bind_some, Option.bind_some, hp, Option.bind_some, Option.bind_some]
    dsimp only
    rw [Option.bind_some]
    dsimp only
    unfold goS
    rw [ix64 (by omega), if_pos h0]
  · rw [iy h0, iy (by omega), iy (by omega), Option.bind_some, if_pos (go_room hg _), Option.bind_some]
    dsimp only
    rw [iy (by omega), iy (by omega), Nat.zero_add, Int.toNat_natCast, hnk, Option.bind_some, Option.bind_some, hA, Option.bind_some, he, Option.bind_some, if_pos rfl, ht, Option.bind_some]
    dsimp only
    rw [iy (by omega), iy (by omega), hs, Option.bind_some, Option.bind_some, List.set_set, iy (by omega), iy (by omega), hs3, Option.bind_some, Option.bind_some, hp, Option.bind_some, Option.bind_some]
    dsimp only
    rw [Option.bind_some]
    dsimp only
    unfold goS
    rw [ix64 (by omega), if_neg h0]
end
end Go.V.G

set_option linter.unusedVariables false
set_option linter.unusedSimpArgs false
set_option maxRecDepth 100000
namespace Go.V.G
open Go.V
theorem gb_set_eq {l : List Int} {k : Nat} {v : Int} (h : k < l.length) : gb (l.set k v) k = v := by unfold gb; rw [List.getElem?_set_self h]; rfl
theorem gb_set_ne {l : List Int} {k j : Nat} {v : Int} (h : k ≠ j) : gb (l.set k v) j = gb l j := by unfold gb; rw [List.getElem?_set_ne h]
def golC (top : List Int) (l : List Kv) : Nat → List Int
  | 0 => []
  | k + 1 => if oth l k = true then goS top (golC top l k) k else golC top l k
theorem golC_len (top : List Int) (l : List Kv) : ∀ k, (golC top l k).length ≤ k
  | 0 => Nat.le_refl _
  | k + 1 => by
    have := golC_len top l k
    simp only [golC]
    split
    · unfold goS; split
      · omega
      · rw [List.length_append, List.length_singleton]; omega
    · omega
structure Tv (n : Nat) (b0 : Bls) (x0 z0 top : List Int) (l : List Kv) (k : Nat) (nx : List Int) (b : Bls) (x z : List Int) (q : Nat) : Prop where
  wk : Wk n b x z q
  bu : ∀ c ∈ b, U8s c
  nl : nx.length = 32
  dn : ∀ j, j < k → oth l j = true → nz (av b0 top l j) = true → ∃ m : Nat, gb nx j = ((m : Nat) : Int) ∧ (33 ≤ m ∧ m < n) ∧ bit x0 m = false ∧ bit x m = true ∧ blk b m = padB (pgb 81 (av b0 top l j))
  dz : ∀ j, j < k → oth l j = true → nz (av b0 top l j) = false → gb nx j = 0
  st : ∀ j, j < 32 → (k ≤ j ∨ oth l j = false) → gb nx j = gb top j
  ds : ∀ i j, i < j → j < k → oth l i = true → oth l j = true → nz (av b0 top l i) = true → nz (av b0 top l j) = true → gb nx i ≠ gb nx j
  ot : ∀ i, i < 160 → bit x0 i = true → blk b i = blk b0 i ∧ bit x i = true
  zm : ∀ v ∈ z, v ∈ z0 ∨ ∃ m : Nat, v = ((m : Nat) : Int) ∧ (33 ≤ m ∧ m < n) ∧ bit x m = true
  hi : ∀ i, n ≤ i → i < 160 → bit x i = bit x0 i
section
variable {n : Nat} {b0 b : Bls} {x0 z0 top nx x z : List Int} {l : List Kv} {k q : Nat}
theorem Tv.skip (h : Tv n b0 x0 z0 top l k nx b x z q) (ho : oth l k = false) : Tv n b0 x0 z0 top l (k + 1) nx b x z q := by
  refine ⟨h.wk, h.bu, h.nl, fun j hj h1 h2 => ?_, fun j hj h1 h2 => ?_, fun j hj h1 => ?_, fun i j hij hj h1 h2 h3 h4 => ?_, h.ot, h.zm, h.hi⟩
  · by_cases hjk : j = k
    · subst hjk; rw [ho] at h1; cases h1
    · exact h.dn j (by omega) h1 h2
  · by_cases hjk : j = k
    · subst hjk; rw [ho] at h1; cases h1
    · exact h.dz j (by omega) h1 h2
  · rcases h1 with h1 | h1
    · exact h.st j hj (.inl (by omega))
    · exact h.st j hj (.inr h1)
  · by_cases hjk : j = k
    · subst hjk; rw [ho] at h2; cases h2
    · exact h.ds i j hij (by omega) h1 h2 h3 h4
theorem Tv.no (h : Tv n b0 x0 z0 top l k nx b x z q) (hk : k < 32) (ho : oth l k = true) (hz : nz (av b0 top l k) = false) : Tv n b0 x0 z0 top l (k + 1) (nx.set k 0) b x z q := by
  have hnl := h.nl
  refine ⟨h.wk, h.bu, by rw [List.length_set]; exact h.nl, fun j hj h1 h2 => ?_, fun j hj h1 h2 => ?_, fun j hj h1 => ?_, fun i j hij hj h1 h2 h3 h4 => ?_, h.ot, h.zm, h.hi⟩
  · by_cases hjk : k = j
    · subst hjk; rw [hz] at h2; cases h2
    · rw [gb_set_ne hjk]; exact h.dn j (by omega) h1 h2
  · by_cases hjk : k = j
    · subst hjk; exact gb_set_eq (by omega)
    · rw [gb_set_ne hjk]; exact h.dz j (by omega) h1 h2
  · have hne : k ≠ j := by
      rintro rfl
      rcases h1 with h1 | h1
      · omega
      · rw [ho] at h1; cases h1
    rw [gb_set_ne hne]
    rcases h1 with h1 | h1
    · exact h.st j hj (.inl (by omega))
    · exact h.st j hj (.inr h1)
  · have hjk : k ≠ j := by rintro rfl; rw [hz] at h4; cases h4
    have hik : k ≠ i := by rintro rfl; rw [hz] at h3; cases h3
    rw [gb_set_ne hjk, gb_set_ne hik]
    exact h.ds i j hij (by omega) h1 h2 h3 h4
theorem Tv.yes (h : Tv n b0 x0 z0 top l k nx b x z q) (hq : q ≤ 1000) (hk : k < 32) (ho : oth l k = true) (hnz : nz (av b0 top l k) = true) {m : Nat} (hm : 33 ≤ m ∧ m < n) (hbm : bit x m = false) (hw : Wk n (b.set m zeroB) (setB x m) (pt z ((m : Nat) : Int)) (q + 1)) :
    Tv n b0 x0 z0 top l (k + 1) (nx.set k ((m : Nat) : Int)) ((b.set m zeroB).set m (padB (pgb 81 (av b0 top l k)))) (setB x m) (pt (pt z ((m : Nat) : Int)) ((m : Nat) : Int)) (q + 2) := by
  have hnl := h.nl
  have hn := h.wk.hn; have hbl := h.wk.hb; have hx := h.wk.hx
  have hpl := pgb_len 81 (av_len b0 top l k)
  have hz1 := h.wk.hz
  obtain ⟨_, _, z3, z4, z5⟩ := pt_eq (z := z) (by omega) h.wk.hr ((m : Nat) : Int)
  obtain ⟨_, _, _, _, y5⟩ := pt_eq (z := pt z ((m : Nat) : Int)) (by omega) z4 ((m : Nat) : Int)
  have hbit : ∀ i, i < 160 → bit (setB x m) i = (decide (i = m) || bit x i) := fun i hi => bit_set h.wk.hu (by omega) (by omega)
  have hblk : ∀ i, i ≠ m → blk ((b.set m zeroB).set m (padB (pgb 81 (av b0 top l k)))) i = blk b i := fun i hi => by rw [blk_set_ne (Ne.symm hi), blk_set_ne (Ne.symm hi)]
  refine ⟨hw.lay (by omega) (padB_len (by omega)) m, fun c hc => ?_, by rw [List.length_set]; exact h.nl, fun j hj h1 h2 => ?_, fun j hj h1 h2 => ?_, fun j hj h1 => ?_, fun i j hij hj h1 h2 h3 h4 => ?_, fun i hi h1 => ?_, fun v hv => ?_, fun i h1 h2 => ?_⟩
  · rcases List.mem_or_eq_of_mem_set hc with hc | rfl
    · rcases List.mem_or_eq_of_mem_set hc with hc | rfl
      · exact h.bu c hc
      · exact zeroB_u8
    · exact pgb_u8 (by omega)
  · by_cases hjk : k = j
    · subst hjk
      refine ⟨m, gb_set_eq (by omega), hm, ?_, by rw [hbit m (by omega)]; simp, blk_set_eq (by rw [List.length_set]; omega)⟩
      cases hx0 : bit x0 m with
      | false => rfl
      | true =>
        have := (h.ot m (by omega) hx0).2
        rw [hbm] at this; cases this
    · obtain ⟨m', e1, e2, e3, e4, e5⟩ := h.dn j (by omega) h1 h2
      have hmm : m' ≠ m := by rintro rfl; rw [hbm] at e4; cases e4
      exact ⟨m', by rw [gb_set_ne hjk]; exact e1, e2, e3, by rw [hbit m' (by omega), e4, Bool.or_true], by rw [hblk m' hmm]; exact e5⟩
  · by_cases hjk : k = j
    · subst hjk; rw [hnz] at h2; cases h2
    · rw [gb_set_ne hjk]; exact h.dz j (by omega) h1 h2
  · have hne : k ≠ j := by
      rintro rfl
      rcases h1 with h1 | h1
      · omega
      · rw [ho] at h1; cases h1
    rw [gb_set_ne hne]
    rcases h1 with h1 | h1
    · exact h.st j hj (.inl (by omega))
    · exact h.st j hj (.inr h1)
  · by_cases hjk : k = j
    · subst hjk
      rw [gb_set_ne (by omega), gb_set_eq (by omega)]
      obtain ⟨m', e1, e2, e3, e4, e5⟩ := h.dn i (by omega) h1 h3
      rw [e1]
      intro he
      obtain rfl : m' = m := by omega
      rw [hbm] at e4; cases e4
    · rw [gb_set_ne (by omega), gb_set_ne hjk]
      exact h.ds i j hij (by omega) h1 h2 h3 h4
  · obtain ⟨e1, e2⟩ := h.ot i hi h1
    have him : i ≠ m := by rintro rfl; rw [hbm] at e2; cases e2
    exact ⟨by rw [hblk i him]; exact e1, by rw [hbit i hi, e2, Bool.or_true]⟩
  · have key : v ∈ z ∨ v = ((m : Nat) : Int) := by
      rcases (y5 v).1 hv with hv | hv
      · exact (z5 v).1 hv
      · exact .inr hv
    rcases key with hv | rfl
    · rcases h.zm v hv with hv | ⟨m', e1, e2, e3⟩
      · exact .inl hv
      · exact .inr ⟨m', e1, e2, by rw [hbit m' (by omega), e3, Bool.or_true]⟩
    · exact .inr ⟨m, rfl, hm, by rw [hbit m (by omega)]; simp⟩
  · rw [hbit i h2, decide_eq_false (show ¬ i = m by omega), Bool.false_or]; exact h.hi i h1 h2
structure Cx (n : Nat) (b0 : Bls) (top : List Int) (l : List Kv) : Prop where
  hn : n ≤ 160
  ht : top.length = 32
  hv : ∀ k, V2 (av b0 top l k)
abbrev ots (l : List Kv) : List Bool := (List.range 32).map (oth l)
abbrev lvs (b0 : Bls) (top : List Int) (l : List Kv) : List (List Int) := (List.range 32).map (aft b0 top l)
abbrev vls (b0 : Bls) (top : List Int) (l : List Kv) : List (List Int) := (List.range 32).map (av b0 top l)
theorem set_loop {vals0 : List (List Int)} {y T pre : List Int} {root : Int} (cx : Cx n b0 top l) (hTl : T.length ≤ 32) (hpre : pre.length ≤ 1) : ∀ (d k j : Nat) (nx : List Int) (b : Bls) (x z : List Int) (q : Nat), k + d = 32 → T.drop j = tl l k d → Tv n b0 x0 z0 top l k nx b x z q → q + 2 * d ≤ 900 →
    (∃ f, cnt x n + nwC b0 top l k < nwC b0 top l 32 ∧ loopG i_Space_set_oooo_L3 (nx, vls b0 top l, golC top l k, T, ((T.length : Nat) : Int), ((j : Nat) : Int), root, top, vals0, b, x, y, z) = some (.inr (0, false, f))) ∨
    ∃ nx' b' x' z' q', Tv n b0 x0 z0 top l 32 nx' b' x' z' q' ∧ q' ≤ q + 2 * d ∧ cnt x' n + nwC b0 top l 32 = cnt x n + nwC b0 top l k ∧
      loopG i_Space_set_oooo_L3 (nx, vls b0 top l, golC top l k, T, ((T.length : Nat) : Int), ((j : Nat) : Int), root, top, vals0, b, x, y, z) = some (.inl (nx', golC top l 32, root, top, vals0, b', x', y, z')) ∧
      loopG s_l6Set_oooo_L1 (top, ots l, pre ++ golC top l k, nx, lvs b0 top l, ((32 : Nat) : Int), ((k : Nat) : Int), b, x, y, z) = some (pre ++ golC top l 32, nx', b', x', y, z')
  | 0, k, j, nx, b, x, z, q, hkd, hT, h, hq => by
    obtain rfl : k = 32 := by omega
    have hjl : T.length ≤ j := by
      have : (T.drop j).length = 0 := by rw [hT]; rfl
      rw [List.length_drop] at this; omega
    refine .inr ⟨nx, b, x, z, q, h, by omega, rfl, ?_, ?_⟩
    · rw [loopG_eq]
      have : i_Space_set_oooo_L3 (nx, vls b0 top l, golC top l 32, T, ((T.length : Nat) : Int), ((j : Nat) : Int), root, top, vals0, b, x, y, z) = some (.inr (.inl (nx, golC top l 32, root, top, vals0, b, x, y, z))) := by
        unfold i_Space_set_oooo_L3
        dsimp only
        rw [ino (by omega)]
      rw [this]
    · rw [loopG_eq]
      have : s_l6Set_oooo_L1 (top, ots l, pre ++ golC top l 32, nx, lvs b0 top l, ((32 : Nat) : Int), ((32 : Nat) : Int), b, x, y, z) = some (.inr (pre ++ golC top l 32, nx, b, x, y, z)) := by
        unfold s_l6Set_oooo_L1
        dsimp only
        rw [ino (by omega)]
      rw [this]
  | d + 1, k, j, nx, b, x, z, q, hkd, hT, h, hq => by
    have hk : k < 32 := by omega
    have hgl := golC_len top l k
    have hol : (ots l).length = 32 := rng_len _ _
    have hll : (lvs b0 top l).length = 32 := rng_len _ _
    have hvl : (vls b0 top l).length = 32 := rng_len _ _
    have hok : (ots l)[k]? = some (oth l k) := map_get 32 _ hk
    have hlk : (lvs b0 top l)[k]? = some (aft b0 top l k) := map_get 32 _ hk
    have hvk : (vls b0 top l)[k]? = some (av b0 top l k) := map_get 32 _ hk
    have hal := av_len b0 top l k
    have hpl : (pre ++ golC top l k).length ≤ 1000 := by rw [List.length_append]; omega
    simp only [tl] at hT
    cases ho : oth l k with
    | false =>
      rw [ho, if_neg (by simp)] at hT
      rw [ho] at hok
      have hg1 : golC top l (k + 1) = golC top l k := by simp only [golC, ho, Bool.false_eq_true, if_false]
      have hn1 : nwC b0 top l (k + 1) = nwC b0 top l k := by simp only [nwC, ho, Bool.false_and, Bool.false_eq_true, if_false, Nat.add_zero]
      have ih := set_loop (vals0 := vals0) (y := y) (root := root) cx hTl hpre d (k + 1) j nx b x z q (by omega) hT (h.skip ho) (by omega)
      rw [hg1, hn1] at ih
      rcases ih with ⟨f, e1, e2⟩ | ⟨nx', b', x', z', q', e0, eq, e1, e2, e3⟩
      · exact .inl ⟨f, e1, e2⟩
      · refine .inr ⟨nx', b', x', z', q', e0, by omega, e1, e2, ?_⟩
        rw [loopG_eq, s_step_skip hk hll hol hok]
        exact e3
    | true =>
      rw [ho, if_pos rfl] at hT
      rw [ho] at hok
      have hak : aft b0 top l k = av b0 top l k := by unfold aft; rw [ho]; rfl
      rw [hak] at hlk
      have hTj : T[j]? = some ((k : Nat) : Int) := by
        have : (T.drop j)[0]? = some ((k : Nat) : Int) := by rw [hT]; rfl
        rwa [List.getElem?_drop, Nat.add_zero] at this
      have hTd : T.drop (j + 1) = tl l (k + 1) d := by
        have : (T.drop j).drop 1 = tl l (k + 1) d := by rw [hT]; rfl
        rwa [List.drop_drop] at this
      have hgo : goS nx (golC top l k) k = golC top l (k + 1) := by
        have e := h.st k hk (.inl (Nat.le_refl _))
        simp only [golC, ho, if_true]
        unfold goS; rw [e]
      have hgo2 : goS top (pre ++ golC top l k) k = pre ++ golC top l (k + 1) := by
        simp only [golC, ho, if_true]
        unfold goS
        split
        · rfl
        · rw [List.append_assoc]
      cases hnz : nz (av b0 top l k) with
      | false =>
        have hn1 : nwC b0 top l (k + 1) = nwC b0 top l k := by simp only [nwC, ho, hnz, Bool.and_false, Bool.false_eq_true, if_false, Nat.add_zero]
        have ih := set_loop (vals0 := vals0) (y := y) (root := root) cx hTl hpre d (k + 1) (j + 1) (nx.set k 0) b x z q (by omega) hTd (h.no hk ho hnz) (by omega)
        rw [hn1] at ih
        have hi := i_step_no (b := b) (x := x) (y := y) (z := z) (top := top) (vals0 := vals0) (root := root) hTj hTl hk h.nl hvl hvk hal (show (golC top l k).length ≤ 1000 by omega) hnz
        have hs := s_step_no (b := b) (x := x) (y := y) (z := z) hk hll hol cx.ht h.nl hok hlk hal hpl hnz
        rw [hgo] at hi
        rw [hgo2] at hs
        rcases ih with ⟨f, e1, e2⟩ | ⟨nx', b', x', z', q', e0, eq, e1, e2, e3⟩
        · exact .inl ⟨f, e1, by rw [loopG_eq, hi]; exact e2⟩
        · exact .inr ⟨nx', b', x', z', q', e0, by omega, e1, by rw [loopG_eq, hi]; exact e2, by rw [loopG_eq, hs]; exact e3⟩
      | true =>
        have hn1 : nwC b0 top l (k + 1) = nwC b0 top l k + 1 := by simp only [nwC, ho, hnz, Bool.and_true, if_true]
        rcases tk_ok (y := y) h.wk (by omega) with ⟨c0, hi⟩ | ⟨m, hm, hbm, hts, hti, hw, hc⟩
        · refine .inl ⟨(b, x, y, z), ?_, ?_⟩
          · have hmono : ∀ d k', nwC b0 top l k' ≤ nwC b0 top l (k' + d) := by
              intro d
              induction d with
              | zero => intro k'; exact Nat.le_refl _
              | succ d ih =>
                intro k'
                have := ih k'
                rw [show k' + (d + 1) = (k' + d) + 1 by omega]
                simp only [nwC]; omega
            have := hmono (32 - (k + 1)) (k + 1)
            rw [show k + 1 + (32 - (k + 1)) = 32 by omega] at this
            omega
          · rw [loopG_eq, i_step_bad hTj hTl hk h.nl hvl hvk hal (show (golC top l k).length ≤ 1000 by omega) hnz hi]
        · have hmn := hm.2
          have hbl := h.wk.hb
          have hzl := hw.hz
          have hp1 := i_layPage_eq (b := b.set m zeroB) (x := setB x m) (y := y) (kind := 81) (m := m) hal (cx.hv k) (by rw [List.length_set]; omega) (show (pt z ((m : Nat) : Int)).length ≤ 1048576 by omega) hw.hr
          have hp2 := s_pageL_eq (b := b.set m zeroB) (x := setB x m) (y := y) (kind := 81) (m := m) hal (cx.hv k) (by rw [List.length_set]; omega) (show (pt z ((m : Nat) : Int)).length ≤ 1048576 by omega) hw.hr
          have hi := i_step_yes (top := top) (vals0 := vals0) (root := root) hTj hTl hk h.nl hvl hvk hal (show (golC top l k).length ≤ 1000 by omega) hnz hti hp1
          have hs := s_step_yes hk hll hol cx.ht h.nl hok hlk hal hpl hnz hts hp2
          rw [hgo] at hi
          rw [hgo2] at hs
          have ih := set_loop (vals0 := vals0) (y := y) (root := root) cx hTl hpre d (k + 1) (j + 1) _ _ _ _ (q + 2) (by omega) hTd (h.yes (by omega) hk ho hnz hm hbm hw) (by omega)
          rw [hn1] at ih
          rcases ih with ⟨f, e1, e2⟩ | ⟨nx', b', x', z', q', e0, eq, e1, e2, e3⟩
          · exact .inl ⟨f, by omega, by rw [loopG_eq, hi]; exact e2⟩
          · exact .inr ⟨nx', b', x', z', q', e0, by omega, by omega, by rw [loopG_eq, hi]; exact e2, by rw [loopG_eq, hs]; exact e3⟩
end
section
variable {b0 : Bls} {top : List Int} {l : List Kv} {root : Int} {b : Bls} {x y z : List Int}
theorem i_clone_vals (htl : top.length = 32) : loopG i_Space_set_oooo_L1 (l, top, List.replicate (Int.toNat 32) ([] : List Int), [], ((List.length (List.replicate (Int.toNat 32) ([] : List Int)) : Nat) : Int), 0, root, top, top.map (lfv b0), b, x, y, z) =
    some (l, top, top.map (lfv b0), [], root, top, top.map (lfv b0), b, x, y, z) := by
  have h := loop_run i_Space_set_oooo_L1 (fun k => (l, top, (List.range 32).map (fun j => if j < k then lfv b0 (gb top j) else []), ([] : List Int), ((32 : Nat) : Int), ((k : Nat) : Int), root, top, top.map (lfv b0), b, x, y, z)) 32
    (l, top, (List.range 32).map (fun j => if j < 32 then lfv b0 (gb top j) else []), [], root, top, top.map (lfv b0), b, x, y, z) (fun k hk => by
      have hs := set_map 32 k (fun j => lfv b0 (gb top j)) (fun _ => ([] : List Int))
      have hgt := map_get 32 (fun j => if j < k then lfv b0 (gb top j) else ([] : List Int)) hk
      have hln : ((List.range 32).map (fun j => if j < k then lfv b0 (gb top j) else ([] : List Int))).length = 32 := rng_len _ _
      have hg : (top.map (lfv b0))[k]? = some (lfv b0 (gb top k)) := by rw [List.getElem?_map, gb_some (by omega)]; rfl
      have hl32 := lfv_len b0 (gb top k)
      generalize (List.range 32).map (fun j => if j < k then lfv b0 (gb top j) else ([] : List Int)) = vs at *
      unfold i_Space_set_oooo_L1
      dsimp only
      rw [iy (by omega), iy (by omega), Int.toNat_natCast, hg, Option.bind_some, cloneI_any (by omega), Option.bind_some, iy (by omega), hln, iy (by omega), Nat.zero_add, hgt, Option.bind_some, Option.bind_some, ix64 (by omega), hs]) (by
      unfold i_Space_set_oooo_L1
      dsimp only
      rw [ino (by omega)])
  rw [map_all, map_gb _ htl] at h
  have e0 : List.replicate (Int.toNat 32) ([] : List Int) = (List.range 32).map (fun j => if j < 0 then lfv b0 (gb top j) else []) := by
    rw [map_none, map_const]; rfl
  rw [e0, rng_len]
  exact h
theorem i_set_vals (htl : top.length = 32) (hk : Ks l) (hl : l.length ≤ 1000) : loopG i_Space_set_oooo_L2 (top, top.map (lfv b0), [], l, ((l.length : Nat) : Int), 0, root, top, top.map (lfv b0), b, x, y, z) =
    some (top, vls b0 top l, turned l, root, top, top.map (lfv b0), b, x, y, z) := by
  have h := loop_run i_Space_set_oooo_L2 (fun i => (top, (List.range 32).map (av b0 top (l.take i)), pts [] ((l.take i).map qk), l, ((l.length : Nat) : Int), ((i : Nat) : Int), root, top, top.map (lfv b0), b, x, y, z)) l.length
    (top, (List.range 32).map (av b0 top (l.take l.length)), pts [] ((l.take l.length).map qk), root, top, top.map (lfv b0), b, x, y, z) (fun i hi => by
      have hs := sg_some hi
      generalize sg l i = s at hs
      have hks := hk s (List.mem_of_getElem? hs)
      obtain ⟨d1, d2⟩ := key_div hks
      obtain ⟨m1, m2⟩ := key_mod hks
      have ha := av_succ (b := b0) (top := top) hs
      have g2 := map_get 32 (av b0 top (l.take i)) d2
      have l2 : ((List.range 32).map (av b0 top (l.take i))).length = 32 := rng_len _ _
      have hal := av_len b0 top (l.take i) (s.1.toNat / 32)
      have e2 := set_fun 32 (s.1.toNat / 32) (av b0 top (l.take i)) (av b0 top (l.take (i + 1))) (v := (av b0 top (l.take i) (s.1.toNat / 32)).set (s.1.toNat % 32) s.2)
        (by rw [ha]; unfold upd; rw [if_pos rfl]) (fun k hne => by rw [ha]; unfold upd; rw [if_neg (Ne.symm hne)])
      have hAr : (av b0 top (l.take i) (s.1.toNat / 32))[s.1.toNat % 32]? = some (gb (av b0 top (l.take i) (s.1.toNat / 32)) (s.1.toNat % 32)) := gb_some (by omega)
      have hp : pts [] ((l.take (i + 1)).map qk) = pt (pts [] ((l.take i).map qk)) ((s.1.toNat / 32 : Nat) : Int) := by
        rw [take_snocK hs, List.map_append]
        exact pts_snoc _ _ _
      obtain ⟨p1, p2, _⟩ := pts_ok (z := []) (by rw [ris_iff]; exact List.Pairwise.nil) (l := (l.take i).map qk) (by simp; omega)
      have hpl : (pts [] ((l.take i).map qk)).length ≤ 1048576 := by
        rw [List.length_map, List.length_take] at p2
        simp only [List.length_nil] at p2; omega
      have hin := (pt_eq hpl p1 ((s.1.toNat / 32 : Nat) : Int)).2.1
      generalize (List.range 32).map (av b0 top (l.take i)) = vs at *
      unfold i_Space_set_oooo_L2
      dsimp only
      rw [iy (by omega), iy (by omega), Int.toNat_natCast, hs, Option.bind_some, d1, m1, iy (by omega), iy (by omega), iy (by omega), Nat.zero_add, Int.toNat_natCast, g2, Option.bind_some, iy (by omega), iy (by omega), Option.bind_some, iy (by omega), Option.bind_some, Nat.zero_add, Int.toNat_natCast, hAr, Option.bind_some, Option.bind_some, hAr, Option.bind_some, iy (by omega), hin, Option.bind_some, ix64 (by omega), e2, hp]) (by
      unfold i_Space_set_oooo_L2
      dsimp only
      rw [ino (by omega)])
  rw [List.take_length] at h
  have e0 : top.map (lfv b0) = (List.range 32).map (av b0 top (l.take 0)) := by rw [← map_gb (lfv b0) htl]; rfl
  have h2 : loopG i_Space_set_oooo_L2 (top, (List.range 32).map (av b0 top (l.take 0)), [], l, ((l.length : Nat) : Int), 0, root, top, top.map (lfv b0), b, x, y, z) = _ := h
  rw [← e0] at h2
  exact h2
end
end Go.V.G

set_option linter.unusedVariables false
set_option linter.unusedSimpArgs false
set_option maxRecDepth 100000
namespace Go.V.G
open Go.V
theorem tre_len {b : Bls} {x y top : List Int} {root : Int} (h : tre b x y root = some top) : top.length = 32 := by
  unfold tre at h
  split at h
  · obtain rfl := Option.some.inj h; simp [zer]
  · split at h
    · obtain rfl := Option.some.inj h; exact pnums_len _
    · cases h
theorem gb_zer (j : Nat) : gb zer j = 0 := by
  unfold gb zer
  rw [List.getElem?_replicate]
  split <;> rfl
theorem tre_st {b : Bls} {x y top : List Int} {root : Int} (h : tre b x y root = some top) : ∀ j, j < 32 → gb top j = 0 ∨ (pgB b x y (gb top j) 81 = true ∧ nz (pnums (blk b (gb top j).toNat)) = true) := by
  intro j hj
  unfold tre at h
  split at h
  · obtain rfl := Option.some.inj h; exact .inl (gb_zer j)
  · split at h
    · rename_i hc
      obtain rfl := Option.some.inj h
      simp only [Bool.and_eq_true] at hc
      have := all_range.1 hc.2.2 j hj
      unfold stG at this
      simp only [Bool.or_eq_true, Bool.and_eq_true, decide_eq_true_eq] at this
      rcases this with h1 | h1
      · exact .inl h1
      · exact .inr ⟨h1.1, h1.2.1⟩
    · cases h
theorem tre_nz {b : Bls} {x y top : List Int} {root : Int} (h : tre b x y root = some top) : ∀ j, j < 32 → nz (lfv b (gb top j)) = decide (¬ gb top j = 0) := by
  intro j hj
  unfold lfv
  rcases tre_st h j hj with h1 | ⟨_, h2⟩
  · rw [if_pos h1, decide_eq_false (not_not_intro h1)]; rfl
  · split
    · rename_i h1; rw [decide_eq_false (not_not_intro h1)]; rfl
    · rename_i h1; rw [decide_eq_true h1]; exact h2
theorem blk_u8 {b : Bls} (hu : ∀ c ∈ b, U8s c) (i : Nat) : U8s (blk b i) := by
  by_cases h : i < b.length
  · exact hu _ (blk_mem h)
  · unfold blk; rw [List.getElem?_eq_none (by omega)]; intro v hv; cases hv
theorem pnums_v2 {c : List Int} (h : U8s c) : V2 (pnums c) := fun v hv => by
  unfold pnums at hv
  obtain ⟨k, _, rfl⟩ := List.mem_map.1 hv
  exact num_lt h _
theorem zer_v2 : V2 zer := fun v hv => by unfold zer at hv; rw [List.eq_of_mem_replicate hv]; omega
theorem lfv_v2 {b : Bls} (hu : ∀ c ∈ b, U8s c) (a : Int) : V2 (lfv b a) := by
  unfold lfv
  split
  · exact zer_v2
  · exact pnums_v2 (blk_u8 hu _)
theorem av_v2 {b : Bls} {top : List Int} {l : List Kv} (hu : ∀ c ∈ b, U8s c) (hv : ∀ s ∈ l, 0 ≤ s.2 ∧ s.2 ≤ 65535) (k : Nat) : V2 (av b top l k) := by
  unfold av
  have key : ∀ (l : List Kv) (v : List Int), V2 v → (∀ s ∈ l, 0 ≤ s.2 ∧ s.2 ≤ 65535) → V2 (l.foldl (upd k) v) := by
    intro l
    induction l with
    | nil => intro v h _; exact h
    | cons s l ih =>
      intro v h hs
      rw [List.foldl_cons]
      refine ih _ ?_ fun s' h' => hs s' (by simp [h'])
      unfold upd
      split
      · intro w hw
        rcases List.mem_or_eq_of_mem_set hw with hw | rfl
        · exact h w hw
        · exact hs s (by simp)
      · exact h
  exact key l _ (lfv_v2 hu _) hv
theorem tre_v2 {b : Bls} {x y top : List Int} {root : Int} (hu : ∀ c ∈ b, U8s c) (h : tre b x y root = some top) : V2 top := by
  unfold tre at h
  split at h
  · obtain rfl := Option.some.inj h; exact zer_v2
  · split at h
    · obtain rfl := Option.some.inj h; exact pnums_v2 (blk_u8 hu _)
    · cases h
theorem sets_ks {b : Bls} {x y : List Int} {l : List Kv} (h : setsB b x y l = true) : l.length ≤ 64 ∧ Ks l ∧ (∀ s ∈ l, s.2 = 0 ∨ liv b x y s.2 = true) ∧ ∀ i, i + 1 < l.length → (sg l i).1 < (sg l (i + 1)).1 := by
  unfold setsB at h
  simp only [Bool.and_eq_true, decide_eq_true_eq] at h
  obtain ⟨h1, h2⟩ := h
  have key := all_range.1 h2
  have hg : ∀ s ∈ l, ∃ i, i < l.length ∧ sg l i = s := fun s hs => by
    obtain ⟨i, hi, he⟩ := List.getElem_of_mem hs
    exact ⟨i, hi, by unfold sg; rw [List.getElem?_eq_getElem hi, he]; rfl⟩
  refine ⟨h1, fun s hs => ?_, fun s hs => ?_, fun i hi => ?_⟩
  · obtain ⟨i, hi, rfl⟩ := hg s hs
    have := key i hi
    unfold setG at this
    simp only [Bool.and_eq_true, decide_eq_true_eq] at this
    exact this.1
  · obtain ⟨i, hi, rfl⟩ := hg s hs
    have := key i hi
    unfold setG at this
    simp only [Bool.and_eq_true, Bool.or_eq_true, decide_eq_true_eq] at this
    exact this.2.1
  · have := key (i + 1) hi
    unfold setG at this
    simp only [Bool.and_eq_true, Bool.or_eq_true, decide_eq_true_eq] at this
    rcases this.2.2 with h3 | h3
    · omega
    · exact h3
theorem liv_v2 {b : Bls} {x y : List Int} {v : Int} (hb : b.length ≤ 160) (h : v = 0 ∨ liv b x y v = true) : 0 ≤ v ∧ v ≤ 65535 := by
  rcases h with rfl | h
  · omega
  · obtain ⟨m, rfl, _, h2, _⟩ := liv_nat h; omega
section
variable {at_ : Int} {b : Bls} {x y z go : List Int}
theorem i_give_loop (hy : Ris y) (h : y.length + go.length ≤ 1000000) : loopG i_Space_set_oooo_L4 (at_, go, ((go.length : Nat) : Int), 0, b, x, y, z) = some (at_, b, x, pts y go, z) := by
  have hl := loop_run i_Space_set_oooo_L4 (fun i => (at_, go, ((go.length : Nat) : Int), ((i : Nat) : Int), b, x, pts y (go.take i), z)) go.length (at_, b, x, pts y (go.take go.length), z) (fun i hi => by
      have hg := gb_some hi
      have htl : (go.take i).length ≤ go.length := by rw [List.length_take]; omega
      obtain ⟨p1, p2, _⟩ := pts_ok hy (l := go.take i) (by omega)
      have hin := (pt_eq (z := pts y (go.take i)) (by omega) p1 (gb go i)).2.1
      have hp : pts y (go.take (i + 1)) = pt (pts y (go.take i)) (gb go i) := by rw [take_snocK hg]; exact pts_snoc _ _ _
      unfold i_Space_set_oooo_L4 i_Space_give_oooo
      dsimp only
      rw [iy (by omega), iy (by omega), iy (by omega), Nat.zero_add, Int.toNat_natCast, hg, Option.bind_some, hin, Option.bind_some, Option.bind_some]
      dsimp only
      rw [ix64 (by omega), hp]) (by
      unfold i_Space_set_oooo_L4
      dsimp only
      rw [ino (by omega)])
  rw [List.take_length] at hl
  exact hl
theorem s_give_loop (hy : Ris y) (h : y.length + go.length ≤ 1000000) : loopG s_l6Set_oooo_L2 (at_, go, ((go.length : Nat) : Int), 0, b, x, y, z) = some (at_, b, x, pts y go, z) := by
  have hl := loop_run s_l6Set_oooo_L2 (fun i => (at_, go, ((go.length : Nat) : Int), ((i : Nat) : Int), b, x, pts y (go.take i), z)) go.length (at_, b, x, pts y (go.take go.length), z) (fun i hi => by
      have hg := gb_some hi
      have htl : (go.take i).length ≤ go.length := by rw [List.length_take]; omega
      obtain ⟨p1, p2, _⟩ := pts_ok hy (l := go.take i) (by omega)
      have hin := (pt_eq (z := pts y (go.take i)) (by omega) p1 (gb go i)).1
      have hp : pts y (go.take (i + 1)) = pt (pts y (go.take i)) (gb go i) := by rw [take_snocK hg]; exact pts_snoc _ _ _
      unfold s_l6Set_oooo_L2
      dsimp only
      rw [iy (by omega), iy (by omega), iy (by omega), Nat.zero_add, Int.toNat_natCast, hg, Option.bind_some, hin, Option.bind_some, ix64 (by omega), hp]) (by
      unfold s_l6Set_oooo_L2
      dsimp only
      rw [ino (by omega)])
  rw [List.take_length] at hl
  exact hl
end
def rtL (root : Int) : List Int := if root = 0 then [] else [root]
structure Sk (b : Bls) (x y z top : List Int) (l : List Kv) (root at_ : Int) (b' : Bls) (x' y' z' : List Int) : Prop where
  ex : ∃ nx b1 x1 z1 q1, Tv b.length b x z top l 32 nx b1 x1 z1 q1 ∧ q1 ≤ 191 ∧ cnt x1 b.length + nwC b top l 32 = cnt x b.length ∧ nz nx = anC b top l 32 ∧
    ((nz nx = false ∧ at_ = 0 ∧ b' = b1 ∧ x' = x1 ∧ z' = z1) ∨ (nz nx = true ∧ ∃ m : Nat, at_ = ((m : Nat) : Int) ∧ (33 ≤ m ∧ m < b.length) ∧ bit x1 m = false ∧ b' = (b1.set m zeroB).set m (padB (pgb 80 nx)) ∧ x' = setB x1 m ∧ z' = pt (pt z1 ((m : Nat) : Int)) ((m : Nat) : Int) ∧
      Wk b.length b' x' z' (q1 + 2) ∧ cnt x' b.length + 1 = cnt x1 b.length))
  yy : y' = pts y (golC top l 32 ++ rtL root)
theorem nx_nz {b b1 : Bls} {x y z top nx x1 z1 : List Int} {l : List Kv} {root : Int} {q : Nat} (ht : tre b x y root = some top) (h : Tv b.length b x z top l 32 nx b1 x1 z1 q) : nz nx = anC b top l 32 := by
  have hone : ∀ j, j < 32 → nz (av b top l j) = decide (¬ gb nx j = 0) := fun j hj => by
    cases ho : oth l j with
    | false => rw [av_no ho, tre_nz ht j hj, h.st j hj (.inr ho)]
    | true =>
      cases hn : nz (av b top l j) with
      | false => rw [h.dz j hj ho hn]; rfl
      | true =>
        obtain ⟨m, e, hm, _⟩ := h.dn j hj ho hn
        rw [e, decide_eq_true (by omega)]
  have hnl := h.nl
  unfold nz anC
  cases hA : (List.range 32).any fun j => nz (av b top l j) with
  | true =>
    obtain ⟨j, hj, hz⟩ := List.any_eq_true.1 hA
    have hj' := List.mem_range.1 hj
    rw [List.any_eq_true]
    rw [hone j hj'] at hz
    exact ⟨gb nx j, List.mem_of_getElem? (gb_some (by omega)), hz⟩
  | false =>
    rw [List.any_eq_false] at hA ⊢
    intro v hv
    obtain ⟨j, hj, rfl⟩ := List.getElem_of_mem hv
    have := hA j (List.mem_range.2 (by omega))
    rw [hone j (by omega)] at this
    unfold gb at this
    rwa [List.getElem?_eq_getElem hj, Option.getD_some] at this
theorem nx_v2 {b b1 : Bls} {x z top nx x1 z1 : List Int} {l : List Kv} {n q : Nat} (hn : n ≤ 160) (ht : V2 top) (htl : top.length = 32) (h : Tv n b x z top l 32 nx b1 x1 z1 q) : V2 nx := by
  intro v hv
  obtain ⟨j, hj, rfl⟩ := List.getElem_of_mem hv
  have hnl := h.nl
  have e : nx[j] = gb nx j := by unfold gb; rw [List.getElem?_eq_getElem hj]; rfl
  have hj' : j < 32 := by omega
  rw [e]
  cases ho : oth l j with
  | false => rw [h.st j hj' (.inr ho)]; exact ht _ (List.mem_of_getElem? (gb_some (by omega)))
  | true =>
    cases hz : nz (av b top l j) with
    | false => rw [h.dz j hj' ho hz]; omega
    | true => obtain ⟨m, e, hm, _⟩ := h.dn j hj' ho hz; rw [e]; omega
theorem set_both {b : Bls} {x y z top : List Int} {l : List Kv} {root : Int} (g : GS b x y z) (h : SB b x y z) (hu : ∀ c ∈ b, U8s c) (hux : U8s x) (ht : tre b x y root = some top) (hs : setsB b x y l = true) (h0 : l.length ≠ 0) (hy : Ris y) (hyl : y.length ≤ 1000) :
    (cnt x b.length < ndK b top l ∧ ∃ f, i_Space_set_oooo root top (top.map (lfv b)) l b x y z = some (0, false, f)) ∨
    ∃ at_ b' x' y' z', Sk b x y z top l root at_ b' x' y' z' ∧ cnt x' b.length + ndK b top l = cnt x b.length ∧ i_Space_set_oooo root top (top.map (lfv b)) l b x y z = some (at_, true, b', x', y', z') ∧ s_l6Set_oooo root l b x y z = some (at_, b', x', y', z') := by
  obtain ⟨hl64, hk, hlv, _⟩ := sets_ks hs
  have htl := tre_len ht
  have htv := tre_v2 hu ht
  have hb := g.hb
  have cx : Cx b.length b top l := ⟨hb.2, htl, av_v2 hu fun s hs => liv_v2 hb.2 (hlv s hs)⟩
  have hwk := g.wk hux
  have tv0 : Tv b.length b x z top l 0 top b x z 127 := ⟨hwk, hu, htl, fun j hj => absurd hj (by omega), fun j hj => absurd hj (by omega), fun j _ _ => rfl, fun i j _ hj => absurd hj (by omega), fun i _ hi => ⟨rfl, hi⟩, fun v hv => .inl hv, fun i _ _ => rfl⟩
  have hT : turned l = tl l 0 32 := turned_eq hk (by omega)
  have hTl : (turned l).length ≤ 32 := by rw [hT]; exact tl_len l 32 0
  have hprel : (rtL root).length ≤ 1 := by unfold rtL; split <;> simp
  have hgl := golC_len top l 32
  have hrr : ∀ v : Int, roomFor (([] : List Int).length + ([v] : List Int).length) 8 = true := fun v => by simp [roomFor]
  have hr32 : roomFor (([] : List Int).length + top.length) 8 = true := by simp only [roomFor, decide_eq_true_eq, List.length_nil, htl]; omega
  have hnd : ndK b top l = nwC b top l 32 + (if anC b top l 32 = true then 1 else 0) := by unfold ndK; rw [if_neg h0]
  have hpreI : ∀ r, loopG i_Space_set_oooo_L3 (top, vls b top l, [], turned l, (((turned l).length : Nat) : Int), 0, root, top, top.map (lfv b), b, x, y, z) = some (.inr r) → i_Space_set_oooo root top (top.map (lfv b)) l b x y z = some r := fun r hr => by
    unfold i_Space_set_oooo
    rw [ino (by omega), cloneI_any (by omega), Option.bind_some, iy (by omega), iy (by omega), if_pos rm24, i_clone_vals htl, Option.bind_some]
    dsimp only
    rw [i_set_vals htl hk (by omega), Option.bind_some]
    dsimp only
    rw [hr, Option.bind_some]
  have hold : ∀ (at_ : Int) (b : Bls) (x y z : List Int), (if (decide (¬ (root : Int) = 0)) = true then
                if (roomFor (List.length (golC top l 32) + List.length ([root] : List Int)) 8) = true then
                some (golC top l 32 ++ ([root] : List Int), at_, b, x, y, z)
                else none
              else
                some (golC top l 32, at_, b, x, y, z)) = some (golC top l 32 ++ rtL root, at_, b, x, y, z) := fun at_ b x y z => by
      unfold rtL
      by_cases hr : root = 0
      · rw [ino (not_not_intro hr), if_pos hr, List.append_nil]
      · rw [iy hr, if_pos (go_room (by omega) _), if_neg hr]
  rcases set_loop (vals0 := top.map (lfv b)) (y := y) (T := turned l) (pre := rtL root) (root := root) cx hTl hprel 32 0 0 top b x z 127 rfl (by rw [List.drop_zero]; exact hT) tv0 (by omega) with ⟨f, e1, e2⟩ | ⟨nx, b1, x1, z1, q1, tv, hq1, hc, e2, e3⟩
  · refine .inl ⟨?_, f, hpreI _ e2⟩
    have : nwC b top l 0 = 0 := rfl
    rw [hnd]; omega
  · have hc' : cnt x1 b.length + nwC b top l 32 = cnt x b.length := hc
    have hnn := nx_nz ht tv
    have hnv := nx_v2 hb.2 htv htl tv
    have hnl := tv.nl
    have hfin : (golC top l 32).length + (rtL root).length ≤ 100 := by omega
    have hap : (golC top l 32 ++ rtL root).length ≤ 100 := by rw [List.length_append]; omega
    have hap2 : (rtL root ++ golC top l 32).length ≤ 100 := by rw [List.length_append]; omega
    have hcomm : pts y (rtL root ++ golC top l 32) = pts y (golC top l 32 ++ rtL root) := pts_comm hy (by omega)
    have e3' : loopG s_l6Set_oooo_L1 (top, ots l, rtL root, top, lvs b top l, ((32 : Nat) : Int), 0, b, x, y, z) = some (rtL root ++ golC top l 32, nx, b1, x1, y, z1) := by
      have := e3
      simp only [golC, List.append_nil] at this
      exact this
    have hll : ((List.range 32).map (aft b top l)).length = 32 := rng_len _ _
    cases hz : nz nx with
    | false =>
      right
      refine ⟨0, b1, x1, _, z1, ⟨⟨nx, b1, x1, z1, q1, tv, by omega, hc', hnn, .inl ⟨hz, rfl, rfl, rfl, rfl⟩⟩, rfl⟩, ?_, ?_, ?_⟩
      · rw [hnd, ← hnn, hz, if_neg (by simp)]; omega
      · unfold i_Space_set_oooo
        rw [ino (by omega), cloneI_any (by omega), Option.bind_some, iy (by omega), iy (by omega), if_pos rm24, i_clone_vals htl, Option.bind_some]
        dsimp only
        rw [i_set_vals htl hk (by omega), Option.bind_some]
        dsimp only
        have e2' : loopG i_Space_set_oooo_L3 (top, vls b top l, [], turned l, (((turned l).length : Nat) : Int), 0, root, top, top.map (lfv b), b, x, y, z) = _ := e2
        rw [e2', Option.bind_some]
        dsimp only
        rw [i_empty_eq (by omega), Option.bind_some, Bool.not_not, hz, if_neg (by simp), Option.bind_some]
        dsimp only
        rw [hold, Option.bind_some]
        dsimp only
        rw [i_give_loop hy (by omega), Option.bind_some]
      · unfold s_l6Set_oooo
        rw [ino (by omega), s_tree_eq (g.rs h hu), ht, Option.bind_some, s_after_eq (g.rs h hu) ht htl hk (by omega), Option.bind_some]
        unfold trS
        dsimp only
        have hgo0 : (if (decide (¬ (root : Int) = 0)) = true then
          if (roomFor (List.length ([] : List Int) + List.length ([root] : List Int)) 8) = true then
          some (top, (List.range 32).map (aft b top l), (List.range 32).map (oth l), ([] : List Int) ++ ([root] : List Int), b, x, y, z)
          else none
          else some (top, (List.range 32).map (aft b top l), (List.range 32).map (oth l), [], b, x, y, z)) = some (top, (List.range 32).map (aft b top l), (List.range 32).map (oth l), rtL root, b, x, y, z) := by
          unfold rtL
          by_cases hr : root = 0
          · rw [ino (not_not_intro hr), if_pos hr]
          · rw [iy hr, if_pos (hrr root), if_neg hr, List.nil_append]
        rw [hgo0, Option.bind_some]
        dsimp only
        rw [if_pos hr32, List.nil_append, hll, e3', Option.bind_some]
        dsimp only
        rw [s_any_eq (by omega), Option.bind_some, hz, if_neg (by simp), Option.bind_some]
        dsimp only
        rw [s_give_loop hy (by omega), Option.bind_some, hcomm]
    | true =>
      rcases tk_ok (y := y) tv.wk (by omega) with ⟨c0, hi⟩ | ⟨m, hm, hbm, hts, hti, hw, hcm⟩
      · refine .inl ⟨?_, (b1, x1, y, z1), ?_⟩
        · rw [hnd, ← hnn, hz, if_pos rfl]; omega
        · unfold i_Space_set_oooo
          rw [ino (by omega), cloneI_any (by omega), Option.bind_some, iy (by omega), iy (by omega), if_pos rm24, i_clone_vals htl, Option.bind_some]
          dsimp only
          rw [i_set_vals htl hk (by omega), Option.bind_some]
          dsimp only
          have e2' : loopG i_Space_set_oooo_L3 (top, vls b top l, [], turned l, (((turned l).length : Nat) : Int), 0, root, top, top.map (lfv b), b, x, y, z) = _ := e2
          rw [e2', Option.bind_some]
          dsimp only
          rw [i_empty_eq (by omega), Option.bind_some, Bool.not_not, hz, if_pos rfl, hi, Option.bind_some]
          dsimp only
          rw [if_pos (by simp), Option.bind_some]
      · right
        have hbl := tv.wk.hb
        have hzl := hw.hz
        have hp1 := i_layPage_eq (b := b1.set m zeroB) (x := setB x1 m) (y := y) (kind := 80) (m := m) hnl hnv (by rw [List.length_set]; omega) (show (pt z1 ((m : Nat) : Int)).length ≤ 1048576 by omega) hw.hr
        have hp2 := s_pageL_eq (b := b1.set m zeroB) (x := setB x1 m) (y := y) (kind := 80) (m := m) hnl hnv (by rw [List.length_set]; omega) (show (pt z1 ((m : Nat) : Int)).length ≤ 1048576 by omega) hw.hr
        have hpl := pgb_len 80 hnl
        have hw2 := hw.lay (by omega) (padB_len (d := pgb 80 nx) (by omega)) m
        refine ⟨_, _, _, _, _, ⟨⟨nx, b1, x1, z1, q1, tv, by omega, hc', hnn, .inr ⟨hz, m, rfl, hm, hbm, rfl, rfl, rfl, hw2, hcm⟩⟩, rfl⟩, ?_, ?_, ?_⟩
        · rw [hnd, ← hnn, hz, if_pos rfl]; omega
        · unfold i_Space_set_oooo
          rw [ino (by omega), cloneI_any (by omega), Option.bind_some, iy (by omega), iy (by omega), if_pos rm24, i_clone_vals htl, Option.bind_some]
          dsimp only
          rw [i_set_vals htl hk (by omega), Option.bind_some]
          dsimp only
          have e2' : loopG i_Space_set_oooo_L3 (top, vls b top l, [], turned l, (((turned l).length : Nat) : Int), 0, root, top, top.map (lfv b), b, x, y, z) = _ := e2
          rw [e2', Option.bind_some]
          dsimp only
          rw [i_empty_eq (by omega), Option.bind_some, Bool.not_not, hz, if_pos rfl, hti, Option.bind_some]
          dsimp only
          rw [if_neg (by simp), hp1, Option.bind_some, Option.bind_some]
          dsimp only
          rw [hold, Option.bind_some]
          dsimp only
          rw [i_give_loop hy (by omega), Option.bind_some]
        · unfold s_l6Set_oooo
          rw [ino (by omega), s_tree_eq (g.rs h hu), ht, Option.bind_some, s_after_eq (g.rs h hu) ht htl hk (by omega), Option.bind_some]
          unfold trS
          dsimp only
          have hgo0 : (if (decide (¬ (root : Int) = 0)) = true then
            if (roomFor (List.length ([] : List Int) + List.length ([root] : List Int)) 8) = true then
            some (top, (List.range 32).map (aft b top l), (List.range 32).map (oth l), ([] : List Int) ++ ([root] : List Int), b, x, y, z)
            else none
            else some (top, (List.range 32).map (aft b top l), (List.range 32).map (oth l), [], b, x, y, z)) = some (top, (List.range 32).map (aft b top l), (List.range 32).map (oth l), rtL root, b, x, y, z) := by
            unfold rtL
            by_cases hr : root = 0
            · rw [ino (not_not_intro hr), if_pos hr]
            · rw [iy hr, if_pos (hrr root), if_neg hr, List.nil_append]
          rw [hgo0, Option.bind_some]
          dsimp only
          rw [if_pos hr32, List.nil_append, hll, e3', Option.bind_some]
          dsimp only
          rw [s_any_eq (by omega), Option.bind_some, hz, if_pos rfl, hts, Option.bind_some]
          dsimp only
          rw [hp2, Option.bind_some, Option.bind_some]
          dsimp only
          rw [s_give_loop hy (by omega), Option.bind_some, hcomm]
theorem setKeys_cases {b : Bls} {x y z : List Int} {l : List Kv} {root : Int} (h : SB b x y z) (hu : ∀ c ∈ b, U8s c) (hux : U8s x) (hl : l.length ≤ 1000000) :
    (s_SetKeys b x y z root l = some (0, false, [], [], [], []) ∧ i_SetKeys b x y z root l = some (0, false, [], [], [], [])) ∨
    ∃ top, GS b x y z ∧ tre b x y root = some top ∧ setsB b x y l = true ∧
      ((l.length = 0 ∧ s_SetKeys b x y z root l = some (root, true, b, x, y, z) ∧ i_SetKeys b x y z root l = some (root, true, b, x, y, z)) ∨
      (l.length ≠ 0 ∧ ∃ at_ b' x' y' z', Sk b x y z top l root at_ b' x' y' z' ∧ cnt x' b.length + ndK b top l = cnt x b.length ∧ s_SetKeys b x y z root l = some (at_, true, b', x', y', z') ∧ i_SetKeys b x y z root l = some (at_, true, b', x', y', z'))) := by
  unfold s_SetKeys i_SetKeys
  rw [s_sets_eq h hu, i_treeOf_eq h hu, Option.bind_some, Option.bind_some]
  cases hg : gsp b x y z with
  | false => exact .inl ⟨rfl, rfl⟩
  | true =>
    have g := gs_of hg
    have hb := g.hb; have hx := g.hx
    rw [if_pos rfl]
    cases ht : tre b x y root with
    | none => exact .inl ⟨rfl, rfl⟩
    | some top =>
      unfold trI
      dsimp only
      rw [if_neg (show ¬ (!true) = true by simp), i_sets_eq (g.rs h hu) hl, Option.bind_some, Option.bind_some]
      dsimp only
      cases hs : setsB b x y l with
      | false => exact .inl ⟨rfl, rfl⟩
      | true =>
        obtain ⟨hl64, hk, hlv, _⟩ := sets_ks hs
        have htl := tre_len ht
        have hyr := (ris_of g.hy).1
        have hyl : y.length ≤ 1000 := by
          have := ris_len hyr fun i hi => by
            have := (ris_of g.hy).2 i hi
            omega
          omega
        have e1 : (!(true && ((some top).isSome && true))) = false := rfl
        rw [e1, if_neg (by simp), s_free_cnt hb.2 hx, Option.bind_some, s_need_eqK (g.rs h hu) ht htl hk (by omega), Option.bind_some, Option.bind_some]
        dsimp only
        rw [if_neg (show ¬ (!true) = true by simp), i_copiedS_eq g h, Option.bind_some]
        dsimp only
        by_cases h0 : l.length = 0
        · right
          refine ⟨top, g, rfl, rfl, .inl ⟨h0, ?_, ?_⟩⟩
          · have : ndK b top l = 0 := by unfold ndK; rw [if_pos h0]
            rw [this, ino (by omega), s_ownS_eq g h, Option.bind_some]
            dsimp only
            unfold s_l6Set_oooo
            rw [iy (by omega)]
            rfl
          · unfold i_Space_set_oooo
            rw [iy (by omega)]
            rfl
        · rcases set_both g h hu hux ht hs h0 hyr hyl with ⟨hlt, f, hi⟩ | ⟨at_, b', x', y', z', sk, hc, hi, hs2⟩
          · refine .inl ⟨?_, ?_⟩
            · rw [iy (by omega)]
            · rw [hi, Option.bind_some]
              dsimp only
              rw [if_pos (by simp)]
          · refine .inr ⟨top, g, rfl, rfl, .inr ⟨h0, at_, b', x', y', z', sk, hc, ?_, ?_⟩⟩
            · rw [ino (by omega), s_ownS_eq g h, Option.bind_some]
              dsimp only
              rw [hs2]
              rfl
            · rw [hi, Option.bind_some]
              rfl
theorem Sk.wk {b b' : Bls} {x y z top x' y' z' : List Int} {l : List Kv} {root at_ : Int} (s : Sk b x y z top l root at_ b' x' y' z') : Wk b.length b' x' z' 200 := by
  obtain ⟨nx, b1, x1, z1, q1, tv, hq, _, _, h⟩ := s.ex
  rcases h with ⟨_, _, rfl, rfl, rfl⟩ | ⟨_, m, _, _, _, _, _, _, hw, _⟩
  · have := tv.wk
    exact ⟨this.hn, this.hb, this.hk, this.hx, this.hu, this.hlow, this.hr, by have := this.hz; omega⟩
  · exact ⟨hw.hn, hw.hb, hw.hk, hw.hx, hw.hu, hw.hlow, hw.hr, by have := hw.hz; omega⟩
theorem Sk.yl {b b' : Bls} {x y z top x' y' z' : List Int} {l : List Kv} {root at_ : Int} (s : Sk b x y z top l root at_ b' x' y' z') (hy : Ris y) (hyl : y.length ≤ 1000) : Ris y' ∧ y'.length ≤ 1100 ∧ ∀ v, v ∈ y' ↔ v ∈ y ∨ v ∈ golC top l 32 ++ rtL root := by
  have h1 := golC_len top l 32
  have h2 : (rtL root).length ≤ 1 := by unfold rtL; split <;> simp
  have h3 : (golC top l 32 ++ rtL root).length ≤ 33 := by rw [List.length_append]; omega
  obtain ⟨p1, p2, p3⟩ := pts_ok hy (l := golC top l 32 ++ rtL root) (by omega)
  rw [s.yy]
  exact ⟨p1, by omega, p3⟩
theorem GS.ylen {b : Bls} {x y z : List Int} (g : GS b x y z) : Ris y ∧ y.length ≤ 127 := by
  have hb := g.hb
  have hyr := (ris_of g.hy).1
  exact ⟨hyr, ris_len hyr fun i hi => by have := (ris_of g.hy).2 i hi; omega⟩
end Go.V.G

set_option linter.unusedVariables false
set_option linter.unusedSimpArgs false
set_option maxRecDepth 100000
namespace Go.V.G
open Go.V
theorem flat2_get : ∀ (l : List Int) (k : Nat), k < l.length → (l.flatMap twoB)[2 * k]? = some (IntKind.wrap .u8 (gb l k / 256)) ∧ (l.flatMap twoB)[2 * k + 1]? = some (IntKind.wrap .u8 (gb l k))
  | [], k, h => by simp at h
  | a :: l, 0, _ => ⟨rfl, rfl⟩
  | a :: l, k + 1, h => by
    have ih := flat2_get l k (by simpa using h)
    have e : (a :: l).flatMap twoB = IntKind.wrap .u8 (a / 256) :: IntKind.wrap .u8 a :: l.flatMap twoB := rfl
    have g : gb (a :: l) (k + 1) = gb l k := rfl
    rw [e, g, show 2 * (k + 1) = 2 * k + 1 + 1 by omega, List.getElem?_cons_succ, List.getElem?_cons_succ, List.getElem?_cons_succ, List.getElem?_cons_succ]
    exact ih
theorem page_nums {kind : Int} {l : List Int} (hl : l.length = 32) (hv : V2 l) : pnums (padB (pgb kind l)) = l := by
  have key : ∀ k, k < 32 → num (padB (pgb kind l)) (1 + 2 * k) = gb l k := fun k hk => by
    obtain ⟨h1, h2⟩ := flat2_get l k (by omega)
    have hf := flat2_len l
    have e : ∀ j, j < 64 → gb (padB (pgb kind l)) (1 + j) = ((l.flatMap twoB)[j]?).getD 0 := fun j hj => by
      unfold padB pgb gb
      rw [List.getElem?_append_left (by rw [List.length_append, hf, hl]; simp; omega), List.getElem?_append_right (by simp)]
      simp
    have hvv := hv _ (List.mem_of_getElem? (gb_some (show k < l.length by omega)))
    unfold num
    rw [show 1 + 2 * k + 1 = 1 + (2 * k + 1) by omega, e (2 * k) (by omega), e (2 * k + 1) (by omega), h1, h2, Option.getD_some, Option.getD_some, IntKind.wrap_u8, IntKind.wrap_u8]
    omega
  unfold pnums
  rw [show (List.range 32).map (fun k => num (padB (pgb kind l)) (1 + 2 * k)) = (List.range 32).map (gb l) from List.map_congr_left fun k hk => key k (List.mem_range.1 hk)]
  exact gb_id hl
theorem page_kind (kind : Int) (l : List Int) : gb (padB (pgb kind l)) 0 = kind := rfl
theorem page_rest {kind : Int} {l : List Int} (hl : l.length = 32) : rz (padB (pgb kind l)) 65 = true := pad_rz 65 (pgb_len kind hl).symm
structure Lf (b : Bls) (x y top : List Int) (root : Int) (k : Nat) : Prop where
  lv : liv b x y (gb top k) = true
  kd : gb (blk b (gb top k).toNat) 0 = 81
  rz : rz (blk b (gb top k).toNat) 65 = true
  nz : nz (pnums (blk b (gb top k).toNat)) = true
  vs : badV b x (pnums (blk b (gb top k).toNat)) = false
  un : ∀ j, j < k → gb top j ≠ gb top k
  rt : root ≠ 0 ∧ liv b x y root = true ∧ gb (blk b root.toNat) 0 = 80
theorem tre_lf {b : Bls} {x y top : List Int} {root : Int} (h : tre b x y root = some top) {k : Nat} (hk : k < 32) (h0 : gb top k ≠ 0) : Lf b x y top root k := by
  have htl := tre_len h
  unfold tre at h
  split at h
  · obtain rfl := Option.some.inj h; exact absurd (gb_zer k) h0
  · rename_i hr
    split at h
    · rename_i hc
      obtain rfl := Option.some.inj h
      simp only [Bool.and_eq_true] at hc
      obtain ⟨c1, c2, c3⟩ := hc
      have := all_range.1 c3 k hk
      unfold stG at this
      rw [decide_eq_false h0, Bool.false_or] at this
      simp only [Bool.and_eq_true, Bool.not_eq_true'] at this
      obtain ⟨p1, p2, p3, p4⟩ := this
      unfold pgB at p1 c1
      simp only [Bool.and_eq_true, decide_eq_true_eq] at p1 c1
      refine ⟨p1.1, p1.2.1, p1.2.2, p2, p4, fun j hj he => ?_, hr, c1.1, c1.2.1⟩
      rw [List.any_eq_false] at p3
      have hm : gb (topOf b root) j ∈ (topOf b root).take k := by
        have : ((topOf b root).take k)[j]? = some (gb (topOf b root) j) := by rw [List.getElem?_take_of_lt hj, gb_some (by omega)]
        exact List.mem_of_getElem? this
      have := p3 _ hm
      rw [he] at this
      simp at this
    · cases h
theorem tre_root {b : Bls} {x y top : List Int} {root : Int} (h : tre b x y root = some top) (h0 : root ≠ 0) : liv b x y root = true ∧ gb (blk b root.toNat) 0 = 80 := by
  unfold tre at h
  rw [if_neg h0] at h
  split at h
  · rename_i hc
    simp only [Bool.and_eq_true] at hc
    have := hc.1
    unfold pgB at this
    simp only [Bool.and_eq_true, decide_eq_true_eq] at this
    exact ⟨this.1, this.2.1⟩
  · cases h
theorem gol_mem (top : List Int) (l : List Kv) : ∀ k v, v ∈ golC top l k → ∃ j, j < k ∧ v = gb top j ∧ gb top j ≠ 0 ∧ oth l j = true
  | 0, v, h => by cases h
  | k + 1, v, h => by
    simp only [golC] at h
    split at h
    · rename_i ho
      unfold goS at h
      split at h
      · obtain ⟨j, h1, h2⟩ := gol_mem top l k v h; exact ⟨j, by omega, h2⟩
      · rename_i hn
        rcases List.mem_append.1 h with h | h
        · obtain ⟨j, h1, h2⟩ := gol_mem top l k v h; exact ⟨j, by omega, h2⟩
        · exact ⟨k, by omega, List.mem_singleton.1 h, hn, ho⟩
    · obtain ⟨j, h1, h2⟩ := gol_mem top l k v h; exact ⟨j, by omega, h2⟩
theorem liv_of {b : Bls} {x y : List Int} {m : Nat} (h1 : 33 ≤ m) (h2 : m < b.length) (h3 : bit x m = true) (h4 : ((m : Nat) : Int) ∉ y) : liv b x y ((m : Nat) : Int) = true := by
  unfold liv
  rw [decide_eq_true (by omega), Int.toNat_natCast, h3, decide_eq_false h4]; rfl
theorem isb_up {b b' : Bls} {x x' : List Int} {v : Int} (hb : b'.length = b.length) (hl : b.length ≤ 160) (hx : ∀ i, i < 160 → bit x i = true → bit x' i = true) (h : isb b x v = true) : isb b' x' v = true := by
  unfold isb at h ⊢
  simp only [Bool.and_eq_true, decide_eq_true_eq] at h ⊢
  rw [hb]
  exact ⟨h.1, hx _ (by omega) h.2⟩
theorem liv_isb {b : Bls} {x y : List Int} {v : Int} (h : liv b x y v = true) : isb b x v = true := by
  unfold liv at h; unfold isb
  simp only [Bool.and_eq_true] at h ⊢
  exact ⟨h.1, h.2.1⟩
theorem bad_no {b : Bls} {x l : List Int} : badV b x l = false ↔ ∀ v ∈ l, v = 0 ∨ isb b x v = true := by
  unfold badV
  rw [List.any_eq_false]
  constructor
  · intro h v hv
    have := h v hv
    by_cases h0 : v = 0
    · exact .inl h0
    · right
      rw [decide_eq_true h0, Bool.true_and] at this
      simpa using this
  · intro h v hv
    rcases h v hv with h0 | h0
    · rw [decide_eq_false (not_not_intro h0)]; simp
    · rw [h0]; simp
theorem av_vals {b : Bls} {x y top : List Int} {l : List Kv} {root : Int} (ht : tre b x y root = some top) (hl : ∀ s ∈ l, s.2 = 0 ∨ liv b x y s.2 = true) {k : Nat} (hk : k < 32) : ∀ v ∈ av b top l k, v = 0 ∨ isb b x v = true := by
  have h0 : ∀ v ∈ lfv b (gb top k), v = 0 ∨ isb b x v = true := by
    unfold lfv
    split
    · intro v hv; exact .inl (List.eq_of_mem_replicate hv)
    · rename_i hn
      exact bad_no.1 (tre_lf ht hk hn).vs
  unfold av
  have key : ∀ (l : List Kv) (w : List Int), (∀ v ∈ w, v = 0 ∨ isb b x v = true) → (∀ s ∈ l, s.2 = 0 ∨ liv b x y s.2 = true) → ∀ v ∈ l.foldl (upd k) w, v = 0 ∨ isb b x v = true := by
    intro l
    induction l with
    | nil => intro w h _; exact h
    | cons s l ih =>
      intro w h hs
      rw [List.foldl_cons]
      refine ih _ ?_ fun s' h' => hs s' (by simp [h'])
      unfold upd
      split
      · intro v hv
        rcases List.mem_or_eq_of_mem_set hv with hv | rfl
        · exact h v hv
        · exact (hs s (by simp)).imp id liv_isb
      · exact h
  exact key l _ h0 hl
structure Tn (b : Bls) (x y z top : List Int) (l : List Kv) (root at_ : Int) (b' : Bls) (x' y' z' : List Int) : Prop where
  gs : GS b' x' y' z'
  bu : ∀ c ∈ b', U8s c
  bl : b'.length = b.length
  ux : U8s x'
  tr : ∃ nx, tre b' x' y' at_ = some nx ∧ ∀ k, k < 32 → lfv b' (gb nx k) = av b top l k
  ot : ∀ i, i < 160 → bit x i = true → blk b' i = blk b i
theorem Sk.tn {b b' : Bls} {x y z top x' y' z' : List Int} {l : List Kv} {root at_ : Int} (g : GS b x y z) (hu : ∀ c ∈ b, U8s c) (ht : tre b x y root = some top) (hs : setsB b x y l = true) (s : Sk b x y z top l root at_ b' x' y' z') : Tn b x y z top l root at_ b' x' y' z' := by
  obtain ⟨hl64, hk, hlv, _⟩ := sets_ks hs
  have hb := g.hb
  have htl := tre_len ht
  have htv := tre_v2 hu ht
  obtain ⟨hyr, hyl⟩ := g.ylen
  obtain ⟨yr', yl', ym'⟩ := s.yl hyr (by omega)
  have hw := s.wk
  obtain ⟨nx, b1, x1, z1, q1, tv, hq1, _, hnn, hend⟩ := s.ex
  have hnl := tv.nl
  have hnv := nx_v2 hb.2 htv htl tv
  have hyb : ∀ v ∈ y, ∃ m : Nat, v = ((m : Nat) : Int) ∧ (33 ≤ m ∧ m < b.length) ∧ bit x m = true := fun v hv => by
    obtain ⟨i, hi, rfl⟩ := List.getElem_of_mem hv
    have := (ris_of g.hy).2 i hi
    exact ⟨(y[i]).toNat, by omega, by omega, this.2.2⟩
  have hgone : ∀ v ∈ y', ∃ m : Nat, v = ((m : Nat) : Int) ∧ (33 ≤ m ∧ m < b.length) ∧ bit x m = true := fun v hv => by
    rcases (ym' v).1 hv with hv | hv
    · exact hyb v hv
    · rcases List.mem_append.1 hv with hv | hv
      · obtain ⟨j, hj, rfl, hn, _⟩ := gol_mem _ _ _ _ hv
        obtain ⟨m, e, h1, h2, h3, _⟩ := liv_nat (tre_lf ht hj hn).lv
        exact ⟨m, e, ⟨h1, h2⟩, h3⟩
      · unfold rtL at hv
        split at hv
        · cases hv
        · rename_i hr
          rw [List.mem_singleton] at hv
          subst hv
          obtain ⟨m, e, h1, h2, h3, _⟩ := liv_nat (tre_root ht hr).1
          exact ⟨m, e, ⟨h1, h2⟩, h3⟩
  have hup : (∀ i, i < 160 → bit x1 i = true → bit x' i = true) ∧ (∀ i, i < 160 → bit x1 i = true → blk b' i = blk b1 i) ∧ (∀ c ∈ b', U8s c) ∧ (∀ v ∈ z', v ∈ z1 ∨ ∃ m : Nat, v = ((m : Nat) : Int) ∧ (33 ≤ m ∧ m < b.length) ∧ bit x' m = true) ∧ (∀ i, b.length ≤ i → i < 160 → bit x' i = bit x1 i) := by
    rcases hend with ⟨_, _, rfl, rfl, rfl⟩ | ⟨_, m, _, hm, hbm, rfl, rfl, rfl, _, _⟩
    · exact ⟨fun i _ h => h, fun i _ _ => rfl, tv.bu, fun v hv => .inl hv, fun i _ _ => rfl⟩
    · have hx1 := tv.wk.hx; have hb1 := tv.wk.hb; have hz1 := tv.wk.hz
      have hbit : ∀ i, i < 160 → bit (setB x1 m) i = (decide (i = m) || bit x1 i) := fun i hi => bit_set tv.wk.hu (by omega) (by omega)
      obtain ⟨_, _, z3, z4, z5⟩ := pt_eq (z := z1) (by omega) tv.wk.hr ((m : Nat) : Int)
      obtain ⟨_, _, _, _, y5⟩ := pt_eq (z := pt z1 ((m : Nat) : Int)) (by omega) z4 ((m : Nat) : Int)
      refine ⟨fun i hi h => by rw [hbit i hi, h, Bool.or_true], fun i hi h => ?_, fun c hc => ?_, fun v hv => ?_, fun i h1 h2 => by rw [hbit i h2, decide_eq_false (show ¬ i = m by omega), Bool.false_or]⟩
      · have him : m ≠ i := by rintro rfl; rw [hbm] at h; cases h
        rw [blk_set_ne him, blk_set_ne him]
      · rcases List.mem_or_eq_of_mem_set hc with hc | rfl
        · rcases List.mem_or_eq_of_mem_set hc with hc | rfl
          · exact tv.bu c hc
          · exact zeroB_u8
        · exact pgb_u8 (by omega)
      · have key : v ∈ z1 ∨ v = ((m : Nat) : Int) := by
          rcases (y5 v).1 hv with hv | hv
          · exact (z5 v).1 hv
          · exact .inr hv
        rcases key with hv | rfl
        · exact .inl hv
        · exact .inr ⟨m, rfl, hm, by rw [hbit m (by omega)]; simp⟩
  obtain ⟨up1, up2, up3, up4, up5⟩ := hup
  have hx' : ∀ i, i < 160 → bit x i = true → bit x' i = true := fun i hi h => up1 i hi (tv.ot i hi h).2
  have hblk : ∀ i, i < 160 → bit x i = true → blk b' i = blk b i := fun i hi h => by
    have := tv.ot i hi h
    rw [up2 i hi this.2]; exact this.1
  have hbl : b'.length = b.length := hw.hb
  have hfree : ∀ m : Nat, bit x m = false → ((m : Nat) : Int) ∉ y' := fun m hm hh => by
    obtain ⟨m', e, _, h⟩ := hgone _ hh
    obtain rfl : m = m' := by omega
    rw [hm] at h; cases h
  have hgs : GS b' x' y' z' := by
    refine ⟨by rw [hbl]; exact hb, hw.hx, hw.hk, fun i hi => ?_, ?_, ?_⟩
    · rw [hbl]
      have hg := g.hbits i hi
      unfold bG at hg ⊢
      by_cases h33 : i < 33
      · have hl := hw.hlow i h33
        rw [hl, decide_eq_false (show ¬ b.length ≤ i by omega)]; simp
      · by_cases hin : b.length ≤ i
        · rw [up5 i hin hi, tv.hi i hin hi]
          rw [decide_eq_false h33] at hg ⊢
          exact hg
        · rw [decide_eq_false h33, decide_eq_false hin]; simp
    · rw [hbl]
      refine upB_of yr' fun v hv => ?_
      obtain ⟨m, rfl, hm, hbm⟩ := hgone v hv
      exact ⟨by omega, by omega, by rw [Int.toNat_natCast]; exact hx' m (by omega) hbm⟩
    · rw [hbl]
      refine upB_of hw.hr fun v hv => ?_
      have hnew : ∀ m : Nat, (33 ≤ m ∧ m < b.length) → bit x' m = true → 33 ≤ ((m : Nat) : Int) ∧ ((m : Nat) : Int) ≤ ((b.length : Nat) : Int) - 1 ∧ bit x' (((m : Nat) : Int)).toNat = true := fun m hm h => ⟨by omega, by omega, by rw [Int.toNat_natCast]; exact h⟩
      rcases up4 v hv with hv | ⟨m, rfl, hm, h⟩
      · rcases tv.zm v hv with hv | ⟨m, rfl, hm, h⟩
        · obtain ⟨i, hi, rfl⟩ := List.getElem_of_mem hv
          have := (ris_of g.hz).2 i hi
          exact ⟨this.1, this.2.1, hx' _ (by omega) this.2.2⟩
        · exact hnew m hm (up1 m (by omega) h)
      · exact hnew m hm h
  refine ⟨hgs, up3, hbl, hw.hu, ?_, hblk⟩
  have hleaf : ∀ k, k < 32 → lfv b' (gb nx k) = av b top l k := fun k hk32 => by
    cases ho : oth l k with
    | false =>
      rw [av_no ho, tv.st k hk32 (.inr ho)]
      unfold lfv
      split
      · rfl
      · rename_i hn
        have lf := tre_lf ht hk32 hn
        obtain ⟨m, e, h1, h2, h3, _⟩ := liv_nat lf.lv
        rw [e, Int.toNat_natCast, hblk m (by omega) h3]
    | true =>
      cases hz : nz (av b top l k) with
      | false =>
        rw [tv.dz k hk32 ho hz]
        unfold lfv
        rw [if_pos rfl]
        have hal := av_len b top l k
        have hall : ∀ v ∈ av b top l k, v = 0 := fun v hv => by
          unfold nz at hz
          rw [List.any_eq_false] at hz
          have := hz v hv
          simpa using this
        refine (List.eq_replicate_iff.2 ⟨hal, hall⟩).symm
      | true =>
        obtain ⟨m, e, hm, _, h3, h4⟩ := tv.dn k hk32 ho hz
        unfold lfv
        rw [e, if_neg (by omega), Int.toNat_natCast, up2 m (by omega) h3, h4, page_nums (av_len b top l k) (av_v2 hu (fun s hs => liv_v2 hb.2 (hlv s hs)) k)]
  have hst : ∀ k, k < 32 → stG b' x' y' nx k = true := fun k hk32 => by
    unfold stG
    by_cases h0 : gb nx k = 0
    · rw [decide_eq_true h0, Bool.true_or]
    rw [decide_eq_false h0, Bool.false_or]
    have hlk := hleaf k hk32
    have hpn : pnums (blk b' (gb nx k).toNat) = av b top l k := by
      rw [← hlk]; unfold lfv; rw [if_neg h0]
    rw [hpn]
    have hbad : badV b' x' (av b top l k) = false := bad_no.2 fun v hv => (av_vals ht hlv hk32 v hv).imp id (isb_up hbl hb.2 hx')
    rw [hbad]
    have hne : ∀ j, j < k → gb nx j ≠ gb nx k → True := fun _ _ _ => trivial
    have hun : (∀ j, j < k → gb nx j ≠ gb nx k) → ((nx.take k).any fun v => decide (v = gb nx k)) = false := fun h => by
      rw [List.any_eq_false]
      intro v hv
      obtain ⟨j, hj, rfl⟩ := List.getElem_of_mem hv
      rw [List.length_take] at hj
      rw [List.getElem_take]
      have := h j (by omega)
      unfold gb at this
      rw [List.getElem?_eq_getElem (by omega), Option.getD_some] at this
      unfold gb
      simpa using this
    have hwhat : ∀ j, j < 32 → gb nx j ≠ 0 → (∃ m : Nat, gb nx j = ((m : Nat) : Int) ∧ bit x m = false) ∨ (gb nx j = gb top j ∧ gb top j ≠ 0 ∧ oth l j = false) := fun j hj hjn => by
      cases ho : oth l j with
      | false =>
        have := tv.st j hj (.inr ho)
        exact .inr ⟨this, by rw [← this]; exact hjn, rfl⟩
      | true =>
        cases hz : nz (av b top l j) with
        | false => exact absurd (tv.dz j hj ho hz) hjn
        | true => obtain ⟨m, e, _, hx0, _, _⟩ := tv.dn j hj ho hz; exact .inl ⟨m, e, hx0⟩
    cases ho : oth l k with
    | true =>
      cases hz : nz (av b top l k) with
      | false => exact absurd (tv.dz k hk32 ho hz) h0
      | true =>
        obtain ⟨m, e, hm, hx0, h3, h4⟩ := tv.dn k hk32 ho hz
        have hb4 : blk b' m = padB (pgb 81 (av b top l k)) := by rw [up2 m (by omega) h3]; exact h4
        have hp : pgB b' x' y' (gb nx k) 81 = true := by
          unfold pgB
          rw [e, Int.toNat_natCast, hb4, liv_of (by omega) (by omega) (up1 m (by omega) h3) (hfree m hx0), decide_eq_true (page_kind 81 _), page_rest (av_len b top l k)]; rfl
        have hd := hun fun j hj he => by
          have hj0 : gb nx j ≠ 0 := by rw [he]; exact h0
          rcases hwhat j (by omega) hj0 with ⟨m2, e2, hx2⟩ | ⟨e2, hn2, _⟩
          · cases hoj : oth l j with
            | false =>
              have := tv.st j (by omega) (.inr hoj)
              rw [this] at hj0
              obtain ⟨m3, e3, _, _, h3x, _⟩ := liv_nat (tre_lf ht (by omega) hj0).lv
              rw [this, e3] at e2
              obtain rfl : m3 = m2 := by omega
              rw [hx2] at h3x; cases h3x
            | true =>
              cases hzj : nz (av b top l j) with
              | false => exact absurd (tv.dz j (by omega) hoj hzj) hj0
              | true => exact tv.ds j k hj hk32 hoj ho hzj hz he
          · obtain ⟨m3, e3, _, _, h3x, _⟩ := liv_nat (tre_lf ht (show j < 32 by omega) hn2).lv
            rw [e2, e3, e] at he
            obtain rfl : m3 = m := by omega
            rw [hx0] at h3x; cases h3x
        rw [hp, hd]; rfl
    | false =>
      have e := tv.st k hk32 (.inr ho)
      have hn : gb top k ≠ 0 := by rw [← e]; exact h0
      have lf := tre_lf ht hk32 hn
      obtain ⟨m, em, h1, h2, h3, h4⟩ := liv_nat lf.lv
      have hz : nz (av b top l k) = true := by rw [av_no ho]; unfold lfv; rw [if_neg hn]; exact lf.nz
      have hny : ((m : Nat) : Int) ∉ y' := fun hh => by
        rcases (ym' _).1 hh with hh | hh
        · exact h4 hh
        · rcases List.mem_append.1 hh with hh | hh
          · obtain ⟨j, hj, ej, hnj, hoj⟩ := gol_mem _ _ _ _ hh
            have hjk : j ≠ k := by rintro rfl; rw [ho] at hoj; cases hoj
            rcases Nat.lt_or_gt_of_ne hjk with hl | hl
            · exact lf.un j hl (by rw [← ej, em])
            · exact (tre_lf ht hj hnj).un k hl (by rw [← ej, em])
          · unfold rtL at hh
            split at hh
            · cases hh
            · rw [List.mem_singleton] at hh
              have hk80 := lf.rt.2.2
              have hk81 := lf.kd
              rw [em, Int.toNat_natCast] at hk81
              rw [← hh, Int.toNat_natCast, hk81] at hk80
              omega
      have hbe := hblk m (by omega) h3
      have hp : pgB b' x' y' (gb nx k) 81 = true := by
        have hkd := lf.kd; have hrz := lf.rz
        rw [em, Int.toNat_natCast] at hkd hrz
        unfold pgB
        rw [e, em, Int.toNat_natCast, hbe, liv_of h1 (by omega) (hx' m (by omega) h3) hny, decide_eq_true hkd, hrz]; rfl
      have hd := hun fun j hj he => by
        have hj0 : gb nx j ≠ 0 := by rw [he]; exact h0
        rcases hwhat j (by omega) hj0 with ⟨m2, e2, hx2⟩ | ⟨e2, hn2, _⟩
        · rw [e2, e, em] at he
          obtain rfl : m2 = m := by omega
          rw [hx2] at h3; cases h3
        · exact lf.un j hj (by rw [← e2, he, e])
      rw [hp, hz, hd]; rfl
  rcases hend with ⟨hz, rfl, rfl, rfl, rfl⟩ | ⟨hz, m, rfl, hm, hbm, rfl, rfl, rfl, _, _⟩
  · refine ⟨zer, by unfold tre; rw [if_pos rfl], fun k hk32 => ?_⟩
    have hall : ∀ v ∈ nx, v = 0 := fun v hv => by
      unfold nz at hz
      rw [List.any_eq_false] at hz
      have := hz v hv
      simpa using this
    have : nx = zer := List.eq_replicate_iff.2 ⟨hnl, hall⟩
    rw [← this]; exact hleaf k hk32
  · have hb1 := tv.wk.hb
    have hbk : blk ((b1.set m zeroB).set m (padB (pgb 80 nx))) m = padB (pgb 80 nx) := blk_set_eq (by rw [List.length_set]; omega)
    have htop : topOf ((b1.set m zeroB).set m (padB (pgb 80 nx))) ((m : Nat) : Int) = nx := by
      unfold topOf
      rw [Int.toNat_natCast, hbk, page_nums hnl hnv]
    have hx0 : bit x m = false := by
      cases h : bit x m with
      | false => rfl
      | true => have := (tv.ot m (by omega) h).2; rw [hbm] at this; cases this
    have hx1 := tv.wk.hx
    have hbit : bit (setB x1 m) m = true := by rw [bit_set tv.wk.hu (by omega) (by omega)]; simp
    refine ⟨nx, ?_, hleaf⟩
    unfold tre
    rw [if_neg (by omega), htop]
    have hp : pgB ((b1.set m zeroB).set m (padB (pgb 80 nx))) (setB x1 m) y' ((m : Nat) : Int) 80 = true := by
      unfold pgB
      rw [Int.toNat_natCast, hbk, liv_of (by omega) (by omega) hbit (hfree m hx0), decide_eq_true (page_kind 80 _), page_rest hnl]; rfl
    rw [hp, hz, all_range.2 hst]; rfl
end Go.V.G

set_option linter.unusedVariables false
set_option linter.unusedSimpArgs false
set_option maxRecDepth 100000
namespace Go.V.G
open Go.V
def Kl (f : Nat → Int) (n : Nat) : List Kv := ((List.range n).filter (fun j => decide (¬ f j = 0))).map (fun j => (((j : Nat) : Int), f j))
theorem Kl_succ (f : Nat → Int) (n : Nat) : Kl f (n + 1) = if f n = 0 then Kl f n else Kl f n ++ [(((n : Nat) : Int), f n)] := by
  unfold Kl
  rw [List.range_succ, List.filter_append, List.map_append]
  by_cases h : f n = 0
  · simp [h]
  · simp [h]
theorem Kl_len (f : Nat → Int) (n : Nat) : (Kl f n).length ≤ n := by
  unfold Kl
  rw [List.length_map]
  have := List.length_filter_le (fun j => decide (¬ f j = 0)) (List.range n)
  rw [List.length_range] at this
  exact this
theorem Kl_const {f : Nat → Int} {a : Nat} : ∀ d, (∀ j, a ≤ j → j < a + d → f j = 0) → Kl f (a + d) = Kl f a
  | 0, _ => rfl
  | d + 1, h => by
    rw [show a + (d + 1) = (a + d) + 1 by omega, Kl_succ, if_pos (h _ (by omega) (by omega))]
    exact Kl_const d fun j h1 h2 => h j h1 (by omega)
theorem Kl_key {f : Nat → Int} {n : Nat} : ∀ s ∈ Kl f n, ∃ j : Nat, s = (((j : Nat) : Int), f j) ∧ j < n := fun s hs => by
  unfold Kl at hs
  obtain ⟨j, hj, rfl⟩ := List.mem_map.1 hs
  exact ⟨j, rfl, List.mem_range.1 (List.mem_filter.1 hj).1⟩
def vf (b : Bls) (top : List Int) (j : Nat) : Int := gb (lfv b (gb top (j / 32))) (j % 32)
theorem kd32 {k : Nat} (h : k < 1024) : IntKind.wrap .i64 (Int.tdiv ((k : Nat) : Int) 32) = ((k / 32 : Nat) : Int) ∧ Int.tmod ((k : Nat) : Int) 32 = ((k % 32 : Nat) : Int) := by
  rw [Int.tdiv_eq_ediv_of_nonneg (by omega), Int.tmod_eq_emod_of_nonneg (by omega), w64 (by omega) (by omega)]
  omega
theorem i_value_eq {b : Bls} {top : List Int} {root : Int} (htl : top.length = 32) {k : Nat} (hk : k < 1024) : i_tree_value root top (top.map (lfv b)) ((k : Nat) : Int) = some (vf b top k) := by
  obtain ⟨d1, d2⟩ := kd32 hk
  have hg : (top.map (lfv b))[k / 32]? = some (lfv b (gb top (k / 32))) := by rw [List.getElem?_map, gb_some (by omega)]; rfl
  have hl := lfv_len b (gb top (k / 32))
  unfold i_tree_value vf
  rw [iy (by omega), d1, d2, iy (by omega), Int.toNat_natCast, hg, Option.bind_some, iy (by omega), iy (by omega), Int.toNat_natCast, gb_some (by omega), Option.bind_some]
theorem i_keys_eq {b : Bls} {top : List Int} {root : Int} (htl : top.length = 32) : i_tree_keys root top (top.map (lfv b)) = some (Kl (vf b top) 1024) := by
  unfold i_tree_keys
  have h := loop_run i_tree_keys_L1 (fun k => (Kl (vf b top) k, ((k : Nat) : Int), root, top, top.map (lfv b))) 1024 (Kl (vf b top) 1024) (fun k hk => by
      have hl := Kl_len (vf b top) k
      have hroom : ∀ s : Kv, roomFor ((Kl (vf b top) k).length + ([s] : List Kv).length) 16 = true := fun s => by simp only [roomFor, decide_eq_true_eq, List.length_singleton]; omega
      unfold i_tree_keys_L1
      dsimp only
      rw [iy (by omega), i_value_eq htl hk, Option.bind_some, Kl_succ]
      by_cases h0 : vf b top k = 0
      · rw [ino (not_not_intro h0), Option.bind_some, if_pos h0]
        dsimp only
        rw [ix64 (by omega)]
      · rw [iy h0, if_pos (hroom _), Option.bind_some, if_neg h0]
        dsimp only
        rw [ix64 (by omega)]) (by
      unfold i_tree_keys_L1
      dsimp only
      rw [ino (by omega)])
  rw [show loopG i_tree_keys_L1 ([], 0, root, top, top.map (lfv b)) = _ from h]; rfl
theorem i_KeysIn_eq {b : Bls} {x y z top : List Int} {root : Int} (h : SB b x y z) (hu : ∀ c ∈ b, U8s c) (hg : gsp b x y z = true) (ht : tre b x y root = some top) : i_KeysIn b x y z root = some (Kl (vf b top) 1024, true) := by
  unfold i_KeysIn
  rw [i_treeOf_eq h hu, hg, ht, if_pos rfl, Option.bind_some]
  unfold trI
  dsimp only
  rw [if_neg (by simp), i_keys_eq (tre_len ht)]
  rfl
theorem s_KeysIn_eq {b : Bls} {x y z top : List Int} {root : Int} (h : SB b x y z) (hu : ∀ c ∈ b, U8s c) (hg : gsp b x y z = true) (ht : tre b x y root = some top) : s_KeysIn b x y z root = some (Kl (vf b top) 1024, true) := by
  have htl := tre_len ht
  unfold s_KeysIn
  rw [s_GoodTree_eq h hu, hg, ht, Option.bind_some, if_neg (by simp), s_tree_eq ((gs_of hg).rs h hu), ht, Option.bind_some]
  unfold trS
  dsimp only
  have hll : (top.map (lfs b)).length = 32 := by rw [List.length_map, htl]
  have hl := loop_run s_KeysIn_L2 (fun k => (Kl (vf b top) (32 * k), top.map (lfs b), ((32 : Nat) : Int), ((k : Nat) : Int))) 32 (Kl (vf b top) 1024) (fun k hk => by
      have hgk : (top.map (lfs b))[k]? = some (lfs b (gb top k)) := by rw [List.getElem?_map, gb_some (by omega)]; rfl
      have hvf : ∀ i, i < 32 → vf b top (32 * k + i) = gb (lfv b (gb top k)) i := fun i hi => by
        unfold vf; rw [show (32 * k + i) / 32 = k by omega, show (32 * k + i) % 32 = i by omega]
      have hin : loopG s_KeysIn_L1 (Kl (vf b top) (32 * k), ((k : Nat) : Int), top.map (lfs b), ((32 : Nat) : Int), ((k : Nat) : Int), ((0 + Int.toNat ((k : Nat) : Int) : Nat) : Int), (((lfs b (gb top k)).length : Nat) : Int), 0) =
          some (Kl (vf b top) (32 * (k + 1)), top.map (lfs b), ((32 : Nat) : Int), ((k : Nat) : Int)) := by
        rw [Nat.zero_add, Int.toNat_natCast]
        by_cases h0 : gb top k = 0
        · have he : lfs b (gb top k) = [] := by unfold lfs; rw [if_pos h0]
          have hz : Kl (vf b top) (32 * k + 32) = Kl (vf b top) (32 * k) := Kl_const 32 fun j h1 h2 => by
            have := hvf (j - 32 * k) (by omega)
            rw [show 32 * k + (j - 32 * k) = j by omega] at this
            rw [this]
            unfold lfv
            rw [if_pos h0]; exact gb_zer _
          rw [he, show 32 * (k + 1) = 32 * k + 32 by omega, hz, loopG_eq]
          have : s_KeysIn_L1 (Kl (vf b top) (32 * k), ((k : Nat) : Int), top.map (lfs b), ((32 : Nat) : Int), ((k : Nat) : Int), ((k : Nat) : Int), ((([] : List Int).length : Nat) : Int), 0) = some (.inr (Kl (vf b top) (32 * k), top.map (lfs b), ((32 : Nat) : Int), ((k : Nat) : Int))) := by
            unfold s_KeysIn_L1
            dsimp only
            rw [ino (by simp)]
          rw [this]
        · have he : lfs b (gb top k) = lfv b (gb top k) := by unfold lfs lfv; rw [if_neg h0, if_neg h0]
          have hlen := lfv_len b (gb top k)
          rw [he] at hgk ⊢
          rw [hlen]
          have := loop_run s_KeysIn_L1 (fun i => (Kl (vf b top) (32 * k + i), ((k : Nat) : Int), top.map (lfs b), ((32 : Nat) : Int), ((k : Nat) : Int), ((k : Nat) : Int), ((32 : Nat) : Int), ((i : Nat) : Int))) 32 (Kl (vf b top) (32 * k + 32), top.map (lfs b), ((32 : Nat) : Int), ((k : Nat) : Int)) (fun i hi => by
              have hl := Kl_len (vf b top) (32 * k + i)
              have hroom : ∀ s : Kv, roomFor ((Kl (vf b top) (32 * k + i)).length + ([s] : List Kv).length) 16 = true := fun s => by simp only [roomFor, decide_eq_true_eq, List.length_singleton]; omega
              have hkey : IntKind.wrap .i64 ((IntKind.wrap .i64 (32 * ((k : Nat) : Int))) + ((i : Nat) : Int)) = ((32 * k + i : Nat) : Int) := by
                rw [w64 (n := 32 * ((k : Nat) : Int)) (by omega) (by omega), w64 (by omega) (by omega)]; omega
              unfold s_KeysIn_L1
              dsimp only
              rw [iy (by omega), iy (by omega), Int.toNat_natCast, hgk, Option.bind_some, hlen, iy (by omega), Option.bind_some, Nat.zero_add, Int.toNat_natCast, gb_some (show i < (lfv b (gb top k)).length by omega), Option.bind_some, hkey, show 32 * k + (i + 1) = (32 * k + i) + 1 by omega, Kl_succ, hvf i hi]
              by_cases h1 : gb (lfv b (gb top k)) i = 0
              · rw [ino (not_not_intro h1), Option.bind_some, if_pos h1]
                dsimp only
                rw [Int.toNat_natCast, ix64 (by omega)]
              · rw [iy h1, if_pos (hroom _), Option.bind_some, if_neg h1]
                dsimp only
                rw [Int.toNat_natCast, ix64 (by omega)]) (by
              unfold s_KeysIn_L1
              dsimp only
              rw [ino (by omega)])
          rw [show 32 * (k + 1) = 32 * k + 32 by omega]
          exact this
      unfold s_KeysIn_L2
      dsimp only
      rw [iy (by omega), iy (by omega), hll, iy (by omega), Nat.zero_add, Int.toNat_natCast, hgk, Option.bind_some, Option.bind_some]
      rw [Nat.zero_add, Int.toNat_natCast] at hin
      rw [hin, Option.bind_some]
      dsimp only
      rw [ix64 (by omega)]) (by
      unfold s_KeysIn_L2
      dsimp only
      rw [ino (by omega)])
  rw [hll, show loopG s_KeysIn_L2 ([], top.map (lfs b), ((32 : Nat) : Int), 0) = _ from hl]; rfl
def fillF (ks : List Kv) (a : List Int) : List Int := ks.foldl (fun a s => a.set s.1.toNat s.2) a
theorem fill_snoc (ks : List Kv) (a : List Int) (s : Kv) : fillF (ks ++ [s]) a = (fillF ks a).set s.1.toNat s.2 := by unfold fillF; rw [List.foldl_append]; rfl
theorem fill_len : ∀ (ks : List Kv) (a : List Int), (fillF ks a).length = a.length
  | [], _ => rfl
  | s :: ks, a => by
    have : fillF (s :: ks) a = fillF ks (a.set s.1.toNat s.2) := rfl
    rw [this, fill_len ks, List.length_set]
theorem fill_Kl (f : Nat → Int) : ∀ n, fillF (Kl f n) (List.replicate 1024 0) = (List.range 1024).map (fun j => if j < n then f j else 0)
  | 0 => by rw [map_none, map_const]; rfl
  | n + 1 => by
    have ih := fill_Kl f n
    rw [Kl_succ]
    split
    · rename_i h
      rw [ih]
      refine List.map_congr_left fun j _ => ?_
      by_cases hj : j = n
      · subst hj; rw [if_neg (by omega), if_pos (by omega), h]
      · have : (j < n) = (j < n + 1) := by apply propext; omega
        simp [this]
    · rw [fill_snoc, ih, Int.toNat_natCast]
      exact set_map 1024 n f (fun _ => 0)
theorem fill_sets {b : Bls} {top : List Int} {l : List Kv} (hk : Ks l) : ∀ i, i ≤ l.length → fillF (l.take i) ((List.range 1024).map (vf b top)) = (List.range 1024).map (fun j => gb (av b top (l.take i) (j / 32)) (j % 32))
  | 0, _ => rfl
  | i + 1, hi => by
    have ih := fill_sets (b := b) (top := top) hk i (by omega)
    have hs := sg_some (show i < l.length by omega)
    generalize sg l i = s at hs
    have hks := hk s (List.mem_of_getElem? hs)
    rw [take_snocK hs, fill_snoc, ih]
    have hav : ∀ k, av b top (l.take i ++ [s]) k = upd k (av b top (l.take i) k) s := fun k => by rw [← take_snocK hs]; exact av_succ hs k
    refine set_fun 1024 s.1.toNat _ _ ?_ (fun j hne => ?_)
    · rw [hav]
      unfold upd
      have := av_len b top (l.take i) (s.1.toNat / 32)
      rw [if_pos rfl, gb_set_eq (by omega)]
    · rw [hav]
      unfold upd
      split
      · rename_i hq
        rw [gb_set_ne (by omega)]
      · rfl
theorem same_selfK {l : List Int} (hl : l.length ≤ 1048576) : l_sameInts l l = some true := by
  unfold l_sameInts
  rw [ino (not_not_intro rfl)]
  have h := loop_run l_sameInts_L1 (fun k => (l, l, ((l.length : Nat) : Int), ((k : Nat) : Int))) l.length (.inl ()) (fun k hk => by
      unfold l_sameInts_L1
      dsimp only
      rw [iy (by omega), iy (by omega), Int.toNat_natCast, gb_some hk, Option.bind_some, iy (by omega), Option.bind_some, ino (not_not_intro rfl), ix64 (by omega)]) (by
      unfold l_sameInts_L1
      dsimp only
      rw [ino (by omega)])
  rw [show loopG l_sameInts_L1 (l, l, ((l.length : Nat) : Int), 0) = _ from h]; rfl
theorem filt_snoc {l : List Int} {i : Nat} {v : Int} (h : l[i]? = some v) : (l.take (i + 1)).filter (fun v => decide (¬ v = 0)) = if v = 0 then (l.take i).filter (fun v => decide (¬ v = 0)) else (l.take i).filter (fun v => decide (¬ v = 0)) ++ [v] := by
  rw [take_snocK h, List.filter_append]
  by_cases h0 : v = 0 <;> simp [h0]
theorem s_PagesIn_eq {b : Bls} {x y z top : List Int} {root : Int} (h : SB b x y z) (hu : ∀ c ∈ b, U8s c) (hg : gsp b x y z = true) (ht : tre b x y root = some top) : ∃ p, s_PagesIn b x y z root = some (p, true) ∧ p.length ≤ 40 ∧ ∀ v, v ∈ p ↔ (v ∈ top ∨ v = root) ∧ v ≠ 0 := by
  have htl := tre_len ht
  unfold s_PagesIn
  rw [s_GoodTree_eq h hu, hg, ht, Option.bind_some, if_neg (by simp), s_tree_eq ((gs_of hg).rs h hu), ht, Option.bind_some]
  unfold trS
  dsimp only
  rw [if_pos (go_room (by omega) _)]
  generalize hL : top ++ [root] = L
  have hLl : L.length = 33 := by rw [← hL]; simp [htl]
  have hn : Ris ([] : List Int) := by rw [ris_iff]; exact List.Pairwise.nil
  have hfl : ∀ i, ((L.take i).filter (fun v => decide (¬ v = 0))).length ≤ 33 := fun i => by
    have := List.length_filter_le (fun v => decide (¬ v = 0)) (L.take i)
    rw [List.length_take] at this; omega
  have hl := loop_run s_PagesIn_L1 (fun i => (pts [] ((L.take i).filter (fun v => decide (¬ v = 0))), L, ((L.length : Nat) : Int), ((i : Nat) : Int))) L.length (pts [] ((L.take L.length).filter (fun v => decide (¬ v = 0)))) (fun i hi => by
      have hgi := gb_some hi
      have := hfl i
      obtain ⟨p1, p2, _⟩ := pts_ok hn (l := (L.take i).filter (fun v => decide (¬ v = 0))) (by simp only [List.length_nil]; omega)
      simp only [List.length_nil] at p2
      have hput := (pt_eq (z := pts [] ((L.take i).filter (fun v => decide (¬ v = 0)))) (by omega) p1 (gb L i)).1
      unfold s_PagesIn_L1
      dsimp only
      rw [iy (by omega), iy (by omega), iy (by omega), Nat.zero_add, Int.toNat_natCast, hgi, Option.bind_some, filt_snoc hgi]
      by_cases h0 : gb L i = 0
      · rw [ino (not_not_intro h0), Option.bind_some, if_pos h0]
        dsimp only
        rw [ix64 (by omega)]
      · rw [iy h0, hput, Option.bind_some, Option.bind_some, if_neg h0, pts_snoc]
        dsimp only
        rw [ix64 (by omega)]) (by
      unfold s_PagesIn_L1
      dsimp only
      rw [ino (by omega)])
  have := hfl L.length
  obtain ⟨p1, p2, p3⟩ := pts_ok hn (l := (L.take L.length).filter (fun v => decide (¬ v = 0))) (by simp only [List.length_nil]; omega)
  refine ⟨_, by rw [show loopG s_PagesIn_L1 ([], L, ((L.length : Nat) : Int), 0) = _ from hl]; rfl, by simp only [List.length_nil] at p2; omega, fun v => ?_⟩
  rw [p3 v, List.take_length, List.mem_filter, ← hL, List.mem_append, List.mem_singleton]
  simp
theorem i_NeedFor_eq {b : Bls} {x y z top : List Int} {root : Int} {l : List Kv} (h : SB b x y z) (hu : ∀ c ∈ b, U8s c) (hg : gsp b x y z = true) (ht : tre b x y root = some top) (hs : setsB b x y l = true) : i_NeedForKeys b x y z root l = some (((ndK b top l : Nat) : Int), true) := by
  obtain ⟨hl64, hk, _, _⟩ := sets_ks hs
  unfold i_NeedForKeys
  rw [i_treeOf_eq h hu, hg, ht, if_pos rfl, Option.bind_some]
  unfold trI
  dsimp only
  rw [if_neg (by simp), i_sets_eq ((gs_of hg).rs h hu) (by omega), hs, Option.bind_some, Option.bind_some]
  dsimp only
  rw [if_neg (by simp), i_need_eqK (tre_len ht) hk (by omega)]
  rfl
end Go.V.G

set_option linter.unusedVariables false
set_option linter.unusedSimpArgs false
set_option maxRecDepth 100000
namespace Go.V.G
open Go.V
def clrB (x : List Int) (k : Nat) : List Int := x.set (k / 8) (clr (x[k / 8]?.getD 0) (k % 8))
theorem s_clr_eq {bits : List Int} {k : Nat} (h : k ≤ 1048576) (hk : k / 8 < bits.length) : s_l5Set_l bits ((k : Nat) : Int) false = some (clrB bits k) := by
  unfold s_l5Set_l clrB
  have hg : bits[k / 8]? = some bits[k / 8] := List.getElem?_eq_getElem hk
  rw [if_neg (by simp), dv8 h, md8u, iy (by omega), iy (by omega), iy (by omega), Nat.zero_add, Int.toNat_natCast, hg, Option.bind_some, iy (by omega), iy (by omega), iy (by omega), iy (by omega), Option.bind_some, Option.bind_some, Option.bind_some, Option.getD_some, Int.toNat_natCast]
  rfl
theorem bit_clr_ne {x : List Int} (hu : U8s x) {k j : Nat} (hk : k / 8 < x.length) (hj : j / 8 < x.length) (h : j ≠ k) : bit (clrB x k) j = bit x j := by
  unfold bit clrB
  have hgj : x[j / 8]? = some x[j / 8] := List.getElem?_eq_getElem hj
  have hgk : x[k / 8]? = some x[k / 8] := List.getElem?_eq_getElem hk
  have uk := hu _ (List.getElem_mem hk)
  rw [hgk, Option.getD_some]
  by_cases hd : j / 8 = k / 8
  · have e : x[j / 8]? = some x[k / 8] := by rw [hd]; exact hgk
    rw [e, hd, List.getElem?_set_self hk, Option.getD_some, Option.getD_some, clr_val uk.1 uk.2 (Nat.mod_lt k (by decide)) (Nat.mod_lt j (by decide)), decide_eq_false (show ¬ j % 8 = k % 8 by omega)]
    simp
  · rw [List.getElem?_set_ne (Ne.symm hd)]
theorem Dr.rs {b : Bls} {x y z : List Int} {q : Nat} (d : Dr b x y z q) : RS b x y := ⟨d.hb, d.hk, d.hu, d.hx, by have := d.ly; omega⟩
theorem GS.dr {b : Bls} {x y z : List Int} (g : GS b x y z) (hu : ∀ c ∈ b, U8s c) (hux : U8s x) : Dr b x y z 127 := by
  have hw := g.wk hux
  obtain ⟨y1, y2⟩ := g.ylen
  exact ⟨g.hb, g.hk, hu, g.hx, hux, y1, hw.hr, hw.hlow, by omega, hw.hz⟩
theorem take_any {b : Bls} {x y z : List Int} {q : Nat} (d : Dr b x y z q) (hq : q ≤ 1000) : Ok (s_l5Take_oooo b x y z) fun r => r.2.1.length = b.length ∧ r.2.2.2.1 = y ∧ Dr r.2.1 r.2.2.1 y r.2.2.2.2 (q + 1) := by
  by_cases hc : 0 < cnt x b.length
  · exact (take_dr d hq hc).mono fun r hr => ⟨hr.1, hr.2.1, hr.2.2.1⟩
  · have hb := d.hb
    have hz := (cnt_zero (x := x) b.length).1 (by omega)
    refine (take_q (y := y) (⟨by omega, d.hx, d.hux, d.hz, d.lz⟩ : Wq b x z q) (by omega)).mono ?_
    rintro r (rfl | ⟨k, z', h1, h2, _, _⟩)
    · exact ⟨rfl, rfl, d.more (by omega)⟩
    · rw [hz k h1.2] at h2; cases h2
theorem setK_dr {b : Bls} {x y z : List Int} {q : Nat} {l : List Kv} {root : Int} (d : Dr b x y z q) (hq : q ≤ 1000) (hl : l.length ≤ 1000) : Ok (s_SetKeys b x y z root l) fun r => r.2.1 = true → Num r.2.2.1 r.1 ∧ GS r.2.2.1 r.2.2.2.1 r.2.2.2.2.1 r.2.2.2.2.2 ∧ (∀ c ∈ r.2.2.1, U8s c) ∧ U8s r.2.2.2.1 := by
  rcases setKeys_cases (l := l) (root := root) (d.sb hq) d.hu d.hux (by omega) with ⟨h1, _⟩ | ⟨top, g, ht, hs, ⟨h0, h1, _⟩ | ⟨h0, at_, b', x', y', z', sk, hc, h1, _⟩⟩
  · exact ⟨_, h1, fun h => by cases h⟩
  · refine ⟨_, h1, fun _ => ⟨?_, g, d.hu, d.hux⟩⟩
    have hb := d.hb
    unfold Num
    dsimp only
    by_cases hr : root = 0
    · omega
    · obtain ⟨m, e, h1, h2, _⟩ := liv_nat (tre_root ht hr).1
      omega
  · have tn := sk.tn g d.hu ht hs
    refine ⟨_, h1, fun _ => ⟨?_, tn.gs, tn.bu, tn.ux⟩⟩
    have hb := d.hb
    unfold Num
    dsimp only
    rw [tn.bl]
    obtain ⟨nx, b1, x1, z1, q1, tv, _, _, _, h⟩ := sk.ex
    rcases h with ⟨_, rfl, _⟩ | ⟨_, m, rfl, hm, _⟩ <;> omega
theorem sets_ok {code : List Int} {a s : Int} {b : Bls} {x y z : List Int} {q : Nat} (h : At code 100 a) (d : Dr b x y z q) : Ok (s_l1Cur_sets_l_f b x y z code a s) fun r => ∃ (l : List Kv) (c : List Int) (e s : Int), r = (b, x, y, z, l, c, e, s) ∧ l.length ≤ 10 ∧ To code a 60 c e := by
  have hb := d.hb
  unfold s_l1Cur_sets_l_f
  refine Ok.bind (Q := fun w => ∃ us : List Int, w = (b, x, y, z, us, code, a, s) ∧ us.length ≤ 160) ?_ ?_
  · refine Ok.loop (fun w => ∃ (k : Nat) (us : List Int), k ≤ b.length ∧ us.length ≤ k ∧ w = (b, x, y, z, us, ((b.length : Nat) : Int), ((k : Nat) : Int), code, a, s)) (fun w => (w.2.2.2.2.2.1 - w.2.2.2.2.2.2.1).toNat) ⟨0, [], by omega, by simp, rfl⟩ ?_
    rintro _ ⟨k, us, hk, hul, rfl⟩
    unfold s_l1Cur_sets_l_f_L1
    dsimp only
    refine Ok.ite (fun hc => ?_) fun hc => Ok.mk ⟨us, rfl, by omega⟩
    have hlt : k < b.length := by simpa using hc
    refine Ok.bind_eq (s_live_eq d.rs _) ?_
    have hroom : roomFor (us.length + ([((k : Nat) : Int)] : List Int).length) 8 = true := go_room (by omega) _
    refine Ok.bind (Q := fun w => ∃ us' : List Int, w = (b, x, y, z, us', ((b.length : Nat) : Int), ((k : Nat) : Int), code, a, s) ∧ us'.length ≤ k + 1) ?_ ?_
    · refine Ok.ite (fun _ => Ok.yes hroom (Ok.mk ⟨_, rfl, by simp; omega⟩)) fun _ => Ok.mk ⟨_, rfl, by omega⟩
    · rintro _ ⟨us', rfl, hu'⟩
      dsimp only
      rw [ix64 (by omega)]
      exact Ok.mk ⟨⟨k + 1, us', by omega, hu', rfl⟩, by dsimp only; omega⟩
  rintro _ ⟨us, rfl, hus⟩
  dsimp only
  refine (pick_ok (h.less (by omega))).bind ?_
  rintro ⟨n, c6, a6, s6⟩ ⟨⟨n0, n1⟩, t6⟩
  dsimp only at n0 n1 t6 ⊢
  refine Ok.bind (Q := fun w => ∃ (ks c : List Int) (e s : Int), w = (b, x, y, z, us, ks, c, e, s) ∧ ks.length ≤ 5 ∧ To code a 32 c e) ?_ ?_
  · refine Ok.loop (fun w => ∃ (k : Nat) (ks c : List Int) (e s : Int), k ≤ 5 ∧ w = (b, x, y, z, us, ks, ((k : Nat) : Int), c, e, s) ∧ ks.length ≤ 5 - k ∧ Ris ks ∧ To code a (2 + 6 * (5 - (k : Int))) c e) (fun w => w.2.2.2.2.2.2.1.toNat)
      ⟨n.toNat, [], c6, a6, s6, by omega, by rw [Int.toNat_of_nonneg n0], by simp, by rw [ris_iff]; exact List.Pairwise.nil, t6.more (by omega)⟩ ?_
    rintro _ ⟨k, ks, c, e, s, hk, rfl, hkl, hr, t⟩
    unfold s_l1Cur_sets_l_f_L2
    dsimp only
    refine Ok.ite (fun hc => ?_) fun hc => Ok.mk ⟨ks, c, e, s, rfl, by omega, t.more (by omega)⟩
    have hk0 : 0 < k := by simp at hc; omega
    refine (pick_ok (t.at (j := 2) (h.less (by omega)))).bind ?_
    rintro ⟨p, c1, a1, s1⟩ ⟨_, t1⟩
    dsimp only at t1 ⊢
    have t1' := t.trans t1
    refine (one_ok (t1'.at (j := 2) (h.less (by omega)))).bind ?_
    rintro ⟨f, c2, a2, s2⟩ t2
    dsimp only at t2 ⊢
    have t2' := t1'.trans t2
    refine Ok.bind (Q := fun w => ∃ (p : Int) (c : List Int) (e s : Int), w = (b, x, y, z, us, ks, ((k : Nat) : Int), p, c, e, s) ∧ To code a (2 + 6 * (5 - (k : Int)) + 6) c e) ?_ ?_
    · refine Ok.ite (fun _ => ?_) fun _ => Ok.mk ⟨p, c2, a2, s2, rfl, t2'.more (by omega)⟩
      refine (pick_ok (t2'.at (j := 2) (h.less (by omega)))).bind ?_
      rintro ⟨p3, c3, a3, s3⟩ ⟨_, t3⟩
      exact Ok.mk ⟨p3, c3, a3, s3, rfl, (t2'.trans t3).more (by omega)⟩
    rintro _ ⟨p, c4, a4, s4, rfl, t4⟩
    dsimp only
    obtain ⟨q1, _, q3, q4, _⟩ := pt_eq (z := ks) (by omega) hr p
    refine Ok.bind_eq q1 (Ok.mk ⟨⟨k - 1, _, c4, a4, s4, by omega, ?_, by omega, q4, t4.more (by omega)⟩, ?_⟩)
    · rw [im1 (by omega) hk0]
    · dsimp only; rw [im1 (by omega) hk0]; omega
  rintro _ ⟨ks, c7, a7, s7, rfl, hkl, t7⟩
  dsimp only
  refine Ok.bind (Q := fun w => ∃ (l : List Kv) (c : List Int) (e s : Int), w = (b, x, y, z, l, c, e, s) ∧ l.length ≤ 5 ∧ To code a 52 c e) ?_ ?_
  · refine Ok.loop (fun w => ∃ (i : Nat) (l : List Kv) (c : List Int) (e s : Int), i ≤ ks.length ∧ w = (b, x, y, z, us, l, ks, ((ks.length : Nat) : Int), ((i : Nat) : Int), c, e, s) ∧ l.length ≤ i ∧ To code a (32 + 4 * (i : Int)) c e) (fun w => (w.2.2.2.2.2.2.2.1 - w.2.2.2.2.2.2.2.2.1).toNat)
      ⟨0, [], c7, a7, s7, by omega, rfl, by simp, t7.more (by omega)⟩ ?_
    rintro _ ⟨i, l, c, e, s, hi, rfl, hll, t⟩
    unfold s_l1Cur_sets_l_f_L3
    dsimp only
    refine Ok.ite (fun hc => ?_) fun hc => Ok.mk ⟨l, c, e, s, rfl, by omega, t.more (by omega)⟩
    have hlt : i < ks.length := by simpa using hc
    refine Ok.yes (by simp) (Ok.yes (by simp; omega) ?_)
    rw [Nat.zero_add, Int.toNat_natCast, gb_some hlt]
    refine Ok.bind_eq rfl ?_
    refine Ok.bind (Q := fun w => ∃ (f : Bool) (c : List Int) (e s : Int), w = (b, x, y, z, us, l, ks, ((ks.length : Nat) : Int), ((i : Nat) : Int), f, gb ks i, 0, c, e, s) ∧ (f = true → 0 < us.length) ∧ To code a (32 + 4 * (i : Int) + 2) c e) ?_ ?_
    · refine Ok.ite (fun hc => ?_) fun _ => Ok.mk ⟨false, c, e, s, rfl, fun hh => (by cases hh), t.more (by omega)⟩
      have hpos : 0 < us.length := by simp at hc; omega
      refine (one_ok (t.at (j := 2) (h.less (by omega)))).bind ?_
      rintro ⟨f, c2, a2, s2⟩ t2
      exact Ok.mk ⟨!f, c2, a2, s2, rfl, fun _ => hpos, t.trans t2⟩
    rintro _ ⟨f, c2, a2, s2, rfl, hf, t2⟩
    dsimp only
    refine Ok.bind (Q := fun w => ∃ (v : Int) (c : List Int) (e s : Int), w = (b, x, y, z, us, l, ks, ((ks.length : Nat) : Int), ((i : Nat) : Int), gb ks i, v, c, e, s) ∧ To code a (32 + 4 * (i : Int) + 4) c e) ?_ ?_
    · refine Ok.ite (fun hc => ?_) fun _ => Ok.mk ⟨0, c2, a2, s2, rfl, t2.more (by omega)⟩
      have hpos := hf hc
      refine (pick_ok (t2.at (j := 2) (h.less (by omega)))).bind ?_
      rintro ⟨p, c3, a3, s3⟩ ⟨⟨p0, p1⟩, t3⟩
      dsimp only at p0 p1 t3 ⊢
      obtain ⟨m, rfl⟩ := Int.eq_ofNat_of_zero_le p0
      have hm : m < us.length := by omega
      refine Ok.yes (by simp) (Ok.yes (by simp; omega) ?_)
      rw [Nat.zero_add, Int.toNat_natCast, gb_some hm]
      exact Ok.mk ⟨_, c3, a3, s3, rfl, (t2.trans t3).more (by omega)⟩
    rintro _ ⟨v, c4, a4, s4, rfl, t4⟩
    dsimp only
    refine Ok.yes (by simp only [roomFor, decide_eq_true_eq, List.length_singleton]; omega) (Ok.mk ⟨⟨i + 1, _, c4, a4, s4, by omega, by rw [ix64 (by omega)], by simp; omega, t4.more (by omega)⟩, ?_⟩)
    dsimp only
    rw [ix64 (by omega)]; omega
  rintro _ ⟨l, c8, a8, s8, rfl, hll, t8⟩
  dsimp only
  refine (one_ok (t8.at (j := 2) (h.less (by omega)))).bind ?_
  rintro ⟨f, c9, a9, s9⟩ t9
  dsimp only at t9 ⊢
  have t9' := t8.trans t9
  refine Ok.bind (Q := fun w => ∃ (l : List Kv) (c : List Int) (e s : Int), w = (b, x, y, z, l, c, e, s) ∧ l.length ≤ 10 ∧ To code a 60 c e) ?_ (fun w hw => by
    obtain ⟨l, c, e, s, rfl, h1, h2⟩ := hw
    exact Ok.mk ⟨l, c, e, s, rfl, h1, h2⟩)
  refine Ok.ite (fun _ => ?_) fun _ => Ok.mk ⟨l, c9, a9, s9, rfl, by omega, t9'.more (by omega)⟩
  refine (among_ok (t9'.at (j := 2) (h.less (by omega))) (by simp)).bind ?_
  rintro ⟨k1, c10, a10, s10⟩ ⟨_, t10⟩
  dsimp only at t10 ⊢
  have t10' := t9'.trans t10
  refine (among_ok (t10'.at (j := 2) (h.less (by omega))) (by simp)).bind ?_
  rintro ⟨v1, c11, a11, s11⟩ ⟨_, t11⟩
  dsimp only at t11 ⊢
  exact Ok.yes (by simp only [roomFor, decide_eq_true_eq, List.length_singleton]; omega) (Ok.mk ⟨_, c11, a11, s11, rfl, by simp; omega, (t10'.trans t11).more (by omega)⟩)
theorem tree_ok {code : List Int} {a s : Int} (h : At code 600 a) : Ok (s_l1Cur_tree_f code a s) fun r => ∃ (root : Int) (b : Bls) (x y z c : List Int) (e s : Int), r = (root, b, x, y, z, c, e, s) ∧ Dr b x y z 300 ∧ To code a 300 c e := by
  unfold s_l1Cur_tree_f
  refine (pick_ok (h.less (by omega))).bind ?_
  rintro ⟨n1, c1, a1, s1⟩ ⟨⟨n0, n1'⟩, t1⟩
  dsimp only at n0 n1' t1 ⊢
  rw [w64 (by omega) (by omega)]
  refine (fresh_dr (by omega) (by omega)).bind ?_
  rintro ⟨b, x⟩ d0
  dsimp only at d0 ⊢
  refine (pick_ok (t1.at (j := 2) (h.less (by omega)))).bind ?_
  rintro ⟨m, c3, a3, s3⟩ ⟨⟨m0, m1⟩, t3⟩
  dsimp only at m0 m1 t3 ⊢
  have t3' := t1.trans t3
  refine Ok.bind (Q := fun w => ∃ (b : Bls) (x z : List Int), w = (b, x, [], z, c3, a3, s3) ∧ Dr b x [] z 10) ?_ ?_
  · refine Ok.loop (fun w => ∃ (k : Nat) (b : Bls) (x z : List Int), k ≤ 5 ∧ w = (((k : Nat) : Int), b, x, [], z, c3, a3, s3) ∧ Dr b x [] z (5 - k)) (fun w => w.1.toNat) ⟨(2 + m).toNat, b, x, [], by omega, by rw [w64 (by omega) (by omega), Int.toNat_of_nonneg (by omega)], d0.more (by omega)⟩ ?_
    rintro _ ⟨k, b, x, z, hk, rfl, d⟩
    unfold s_l1Cur_tree_f_L1
    dsimp only
    refine Ok.ite (fun hc => ?_) fun hc => Ok.mk ⟨b, x, z, rfl, d.more (by omega)⟩
    have hk0 : 0 < k := by simp at hc; omega
    refine (take_any d (by omega)).bind ?_
    rintro ⟨r, b', x', y', z'⟩ ⟨q1, q2, q3⟩
    dsimp only at q1 q2 q3 ⊢
    subst q2
    exact Ok.mk ⟨⟨k - 1, b', x', z', by omega, by rw [im1 (by omega) hk0], q3.more (by omega)⟩, by dsimp only; rw [im1 (by omega) hk0]; omega⟩
  rintro _ ⟨b, x, z, rfl, d⟩
  dsimp only
  refine (pick_ok (t3'.at (j := 2) (h.less (by omega)))).bind ?_
  rintro ⟨n6, c6, a6, s6⟩ ⟨⟨n60, n61⟩, t6⟩
  dsimp only at n60 n61 t6 ⊢
  have t6' := t3'.trans t6
  refine Ok.bind (Q := fun w => ∃ (root : Int) (b : Bls) (x y z c : List Int) (e s : Int), w = (root, b, x, y, z, c, e, s) ∧ Num b root ∧ Dr b x y z 300 ∧ To code a 200 c e) ?_ ?_
  · have hb0 := d.hb
    refine Ok.loop (fun w => ∃ (k : Nat) (root : Int) (b : Bls) (x y z c : List Int) (e s : Int), k ≤ 3 ∧ w = (root, ((k : Nat) : Int), b, x, y, z, c, e, s) ∧ Num b root ∧ Dr b x y z 300 ∧ To code a (6 + 62 * (3 - (k : Int))) c e) (fun w => w.2.1.toNat)
      ⟨n6.toNat, 0, b, x, [], z, c6, a6, s6, by omega, by rw [Int.toNat_of_nonneg n60], ⟨by omega, by omega⟩, d.more (by omega), t6'.more (by omega)⟩ ?_
    rintro _ ⟨k, root, b, x, y, z, c, e, s, hk, rfl, hr, d, t⟩
    unfold s_l1Cur_tree_f_L3
    dsimp only
    refine Ok.ite (fun hc => ?_) fun hc => Ok.mk ⟨root, b, x, y, z, c, e, s, rfl, hr, d, t.more (by omega)⟩
    have hk0 : 0 < k := by simp at hc; omega
    refine (sets_ok (t.at (j := 100) (h.less (by omega))) d).bind ?_
    rintro _ ⟨l, c7, a7, s7, rfl, hll, t7⟩
    dsimp only
    have t7' := t.trans t7
    refine (setK_dr (root := root) (l := l) d (by omega) (by omega)).bind ?_
    rintro ⟨at_, ok, b', x', y', z'⟩ hq
    dsimp only at hq ⊢
    refine Ok.bind (Q := fun w => ∃ (root : Int) (b : Bls) (x y z c : List Int) (e s : Int), w = (root, ((k : Nat) : Int), b, x, y, z, c, e, s) ∧ Num b root ∧ Dr b x y z 300 ∧ To code a (6 + 62 * (3 - (k : Int)) + 62) c e) ?_ ?_
    · refine Ok.ite (fun hc => ?_) fun _ => Ok.mk ⟨root, b, x, y, z, c7, a7, s7, rfl, hr, d, t7'.more (by omega)⟩
      obtain ⟨p1, g, p3, p4⟩ := hq hc
      have d' := (g.dr p3 p4).more (show 127 ≤ 300 by omega)
      refine (one_ok (t7'.at (j := 2) (h.less (by omega)))).bind ?_
      rintro ⟨f, c9, a9, s9⟩ t9
      dsimp only at t9 ⊢
      have t9' := t7'.trans t9
      refine Ok.bind (Q := fun w => ∃ (root : Int) (b : Bls) (x y z c : List Int) (e s : Int), w = (root, ((k : Nat) : Int), b, x, y, z, c, e, s) ∧ Num b root ∧ Dr b x y z 300 ∧ To code a (6 + 62 * (3 - (k : Int)) + 62) c e) ?_ (fun w hw => by
        obtain ⟨root, b, x, y, z, c, e, s, rfl, hw⟩ := hw
        exact Ok.mk ⟨root, b, x, y, z, c, e, s, rfl, hw⟩)
      refine Ok.ite (fun _ => ?_) fun _ => Ok.mk ⟨at_, b', x', y', z', c9, a9, s9, rfl, p1, d', t9'.more (by omega)⟩
      have hym := up_mem g.hy
      have hb' := g.hb
      obtain ⟨_, hyl⟩ := g.ylen
      refine Ok.bind (Q := fun w => ∃ x2 : List Int, w = (at_, ((k : Nat) : Int), b', x2, y', z', c9, a9, s9) ∧ x2.length = 20 ∧ U8s x2 ∧ ∀ j, j < 33 → bit x2 j = true) ?_ ?_
      · refine Ok.loop (fun w => ∃ (i : Nat) (x2 : List Int), i ≤ y'.length ∧ w = (at_, ((k : Nat) : Int), y', ((y'.length : Nat) : Int), ((i : Nat) : Int), b', x2, z', c9, a9, s9) ∧ x2.length = 20 ∧ U8s x2 ∧ ∀ j, j < 33 → bit x2 j = true) (fun w => (w.2.2.2.1 - w.2.2.2.2.1).toNat)
          ⟨0, x', by omega, rfl, g.hx, p4, d'.hlow⟩ ?_
        rintro _ ⟨i, x2, hi, rfl, h20, hu2, hlow⟩
        unfold s_l1Cur_tree_f_L2
        dsimp only
        refine Ok.ite (fun hc => ?_) fun hc => Ok.mk ⟨x2, rfl, h20, hu2, hlow⟩
        have hlt : i < y'.length := by simpa using hc
        refine Ok.yes (by simp) (Ok.yes (by simp; omega) ?_)
        rw [Nat.zero_add, Int.toNat_natCast, List.getElem?_eq_getElem hlt]
        refine Ok.bind_eq rfl ?_
        obtain ⟨v1, v2, _⟩ := hym _ (List.getElem_mem hlt)
        obtain ⟨p, hp⟩ := Int.eq_ofNat_of_zero_le (show 0 ≤ y'[i] by omega)
        rw [hp] at v1 v2 ⊢
        refine Ok.bind_eq (s_clr_eq (by omega) (by omega)) (Ok.mk ⟨⟨i + 1, clrB x2 p, by omega, by rw [ix64 (by omega)], by unfold clrB; rw [List.length_set]; exact h20, u8_clr hu2 _ _ _, fun j hj => ?_⟩, ?_⟩)
        · rw [bit_clr_ne hu2 (by omega) (by omega) (by omega)]; exact hlow j hj
        · dsimp only; rw [ix64 (by omega)]; omega
      rintro _ ⟨x2, rfl, h20, hu2, hlow⟩
      dsimp only
      have hn : Ris ([] : List Int) := by rw [ris_iff]; exact List.Pairwise.nil
      exact Ok.mk ⟨at_, b', x2, [], [], c9, a9, s9, rfl, p1, ⟨g.hb, g.hk, p3, h20, hu2, hn, hn, hlow, by simp, by simp⟩, t9'.more (by omega)⟩
    · rintro _ ⟨root, b, x, y, z, c, e, s, rfl, hr, d, t⟩
      dsimp only
      exact Ok.mk ⟨⟨k - 1, root, b, x, y, z, c, e, s, by omega, by rw [im1 (by omega) hk0], hr, d, t.more (by omega)⟩, by dsimp only; rw [im1 (by omega) hk0]; omega⟩
  rintro _ ⟨root, b, x, y, z, c, e, s, rfl, hr, d, t⟩
  dsimp only
  have hb := d.hb
  refine (pick_ok (t.at (j := 2) (h.less (by omega)))).bind ?_
  rintro ⟨p, c1, a1, s1⟩ ⟨_, t1⟩
  dsimp only at t1 ⊢
  have t1' := t.trans t1
  refine Ok.bind (Q := fun w => ∃ (root : Int) (b : Bls) (x y z c : List Int) (e s : Int), w = (root, b, x, y, z, c, e, s) ∧ Dr b x y z 300 ∧ To code a 300 c e) ?_ (fun w hw => by
    obtain ⟨root, b, x, y, z, c, e, s, rfl, hw⟩ := hw
    exact Ok.mk ⟨root, b, x, y, z, c, e, s, rfl, hw⟩)
  refine Ok.ite (fun _ => ?_) fun _ => ?_
  · refine Ok.bind (Q := fun w => ∃ (root : Int) (b : Bls) (x y z c : List Int) (e s : Int), w = (root, b, x, y, z, c, e, s) ∧ Dr b x y z 300 ∧ To code a 300 c e) ?_ (fun w hw => by
      obtain ⟨root, b, x, y, z, c, e, s, rfl, hw⟩ := hw
      exact Ok.mk ⟨root, b, x, y, z, c, e, s, rfl, hw⟩)
    refine Ok.ite (fun hc => ?_) fun _ => Ok.mk ⟨root, b, x, y, z, c1, a1, s1, rfl, d, t1'.more (by omega)⟩
    obtain ⟨r0, r1⟩ := hr
    obtain ⟨m, rfl⟩ := Int.eq_ofNat_of_zero_le r0
    have hm : m < b.length := by omega
    have hmk := d.hk _ (List.getElem_mem hm)
    refine Ok.yes (by simp) (Ok.yes (by simp; omega) ?_)
    rw [Nat.zero_add, Int.toNat_natCast, List.getElem?_eq_getElem hm]
    refine Ok.bind_eq rfl ((pick_ok (t1'.at (j := 2) (h.less (by omega)))).bind ?_)
    rintro ⟨j, c2, a2, s2⟩ ⟨⟨j0, j1⟩, t2⟩
    dsimp only at j0 j1 t2 ⊢
    obtain ⟨j, rfl⟩ := Int.eq_ofNat_of_zero_le j0
    have hj : j < b[m].length := by omega
    refine Ok.yes (by simp) (Ok.bind_eq rfl (Ok.yes (by simp; omega) (Ok.bind_eq rfl ?_)))
    rw [Nat.zero_add, Int.toNat_natCast, List.getElem?_eq_getElem hj]
    have hgj : b[m][j]? = some b[m][j] := List.getElem?_eq_getElem hj
    refine Ok.bind_eq rfl (Ok.yes (by simp) (Ok.bind_eq rfl (Ok.yes (by simp; omega) (Ok.bind_eq rfl (Ok.bind_eq hgj (Ok.bind_eq rfl (Ok.bind_eq hgj ?_)))))))
    exact Ok.mk ⟨_, _, _, _, _, _, _, _, rfl, d.flip hm j _, (t1'.trans t2).more (by omega)⟩
  · refine Ok.bind (Q := fun w => ∃ (root : Int) (b : Bls) (x y z c : List Int) (e s : Int), w = (root, b, x, y, z, c, e, s) ∧ Dr b x y z 300 ∧ To code a 300 c e) ?_ (fun w hw => by
      obtain ⟨root, b, x, y, z, c, e, s, rfl, hw⟩ := hw
      exact Ok.mk ⟨root, b, x, y, z, c, e, s, rfl, hw⟩)
    refine Ok.ite (fun _ => ?_) fun _ => Ok.mk ⟨root, b, x, y, z, c1, a1, s1, rfl, d, t1'.more (by omega)⟩
    refine (among_ok (t1'.at (j := 2) (h.less (by omega))) (by simp)).bind ?_
    rintro ⟨r2, c2, a2, s2⟩ ⟨_, t2⟩
    exact Ok.mk ⟨r2, b, x, y, z, c2, a2, s2, rfl, d, (t1'.trans t2).more (by omega)⟩
theorem drawKeys_ok {code : List Int} (hb : Bytes code) : Ok (s_DrawSetKeys code) fun r => ∃ (root : Int) (l : List Kv) (b : Bls) (x y z : List Int), r = (root, l, b, x, y, z) ∧ l.length ≤ 10 ∧ Dr b x y z 500 := by
  unfold s_DrawSetKeys
  have h : At code 9000 0 := ⟨hb, by omega, by omega⟩
  refine (tree_ok (h.less (by omega))).bind ?_
  rintro _ ⟨root, b, x, y, z, c1, a1, s1, rfl, d, t1⟩
  dsimp only
  refine (sets_ok (t1.at (j := 100) (h.less (by omega))) d).bind ?_
  rintro _ ⟨l, c2, a2, s2, rfl, hl, t2⟩
  dsimp only
  have t2' := t1.trans t2
  refine (one_ok (t2'.at (j := 2) (h.less (by omega)))).bind ?_
  rintro ⟨f, c3, a3, s3⟩ t3
  dsimp only at t3 ⊢
  have t3' := t2'.trans t3
  refine Ok.bind (Q := fun w => ∃ (b : Bls) (x y z : List Int), w = (root, l, b, x, y, z) ∧ Dr b x y z 500) ?_ (fun w hw => by
    obtain ⟨b, x, y, z, rfl, hw⟩ := hw
    exact Ok.mk ⟨root, l, b, x, y, z, rfl, hl, hw⟩)
  refine Ok.ite (fun _ => ?_) fun _ => Ok.mk ⟨_, _, _, _, rfl, d.more (by omega)⟩
  refine Ok.bind (Q := fun w => ∃ (b : Bls) (x y z : List Int), w = (root, l, b, x, y, z) ∧ Dr b x y z 500) ?_ (fun w hw => by
    obtain ⟨b, x, y, z, rfl, hw⟩ := hw
    exact Ok.mk ⟨b, x, y, z, rfl, hw⟩)
  have hbl := d.hb
  refine Ok.loop (fun w => ∃ (b' : Bls) (x' z' c : List Int) (e s : Int), w = (root, l, b', x', y, z', c, e, s) ∧ b'.length = b.length ∧ cnt x' b.length ≤ 160 ∧ Dr b' x' y z' (300 + (160 - cnt x' b.length)) ∧ To code 0 (8312 + 2 * (160 - (cnt x' b.length : Int))) c e) (fun w => cnt w.2.2.2.1 w.2.2.1.length)
    ⟨b, x, z, c3, a3, s3, rfl, rfl, by have := cnt_le (x := x) b.length; omega, d.more (by omega), t3'.more (by have := cnt_le (x := x) b.length; omega)⟩ ?_
  rintro _ ⟨b', x', z', c, e, s, rfl, hbb, hct, d', t⟩
  unfold s_DrawSetKeys_L1
  dsimp only
  refine Ok.bind_eq (s_free_cnt (by omega) d'.hx) ?_
  refine (pick_ok (t.at (j := 2) (h.less (by omega)))).bind ?_
  rintro ⟨p, c4, a4, s4⟩ ⟨⟨p0, p1⟩, t4⟩
  dsimp only at p0 p1 t4 ⊢
  have t4' := t.trans t4
  refine Ok.ite (fun hc => ?_) fun hc => Ok.mk ⟨_, _, _, _, rfl, d'.more (by omega)⟩
  have hpos : 0 < cnt x' b'.length := by simp at hc; omega
  refine (take_dr d' (by omega) hpos).bind ?_
  rintro ⟨k5, b5, x5, y5, z5⟩ ⟨q1, q2, q3, q4⟩
  dsimp only at q1 q2 q3 q4
  subst q2
  rw [hbb] at q4
  refine Ok.mk ⟨⟨b5, x5, z5, c4, a4, s4, rfl, by rw [q1, hbb], by omega, q3.more (by omega), t4'.more (by omega)⟩, ?_⟩
  dsimp only
  rw [q1, hbb]; omega
end Go.V.G
