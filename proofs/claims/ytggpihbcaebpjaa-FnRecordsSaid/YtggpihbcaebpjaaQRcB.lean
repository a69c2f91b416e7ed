import Derived.Test.YtggpihbcaebpjaaQRcA
set_option linter.unusedVariables false
set_option linter.unusedSimpArgs false
set_option maxRecDepth 100000
namespace Go.V.G
open Go.V
def Ris (l : List Int) : Prop := ∀ i j (hi : i < l.length) (hj : j < l.length), i < j → l[i] < l[j]
theorem ris_of {n : Nat} {bits l : List Int} (h : upB n bits l = true) : Ris l ∧ ∀ i (hi : i < l.length), 33 ≤ l[i] ∧ l[i] ≤ (n : Int) - 1 ∧ bit bits l[i].toNat = true := by
  have hg : ∀ i (hi : i < l.length), (33 ≤ l[i] ∧ l[i] ≤ (n : Int) - 1) ∧ bit bits l[i].toNat = true ∧ (0 < i → l[i - 1]?.getD 0 < l[i]) := fun i hi => by
    have := all_range.1 h i hi
    unfold upG at this
    rw [List.getElem?_eq_getElem hi, Option.getD_some] at this
    simp only [Bool.and_eq_true, decide_eq_true_eq] at this
    exact this
  refine ⟨fun i j hi hj hij => ?_, fun i hi => ⟨(hg i hi).1.1, (hg i hi).1.2, (hg i hi).2.1⟩⟩
  induction j with
  | zero => omega
  | succ j ih =>
    have h1 := (hg (j + 1) hj).2.2 (by omega)
    rw [show j + 1 - 1 = j from rfl, List.getElem?_eq_getElem (by omega), Option.getD_some] at h1
    by_cases hjj : i = j
    · subst hjj; exact h1
    · have := ih (by omega) (by omega)
      omega
structure Spot (l : List Int) (n : Int) (k : Nat) : Prop where
  le : k ≤ l.length
  lo : ∀ j (h : j < l.length), j < k → l[j] < n
  hi : ∀ j (h : j < l.length), k ≤ j → n ≤ l[j]
theorem Spot.one {l : List Int} {n : Int} {k m : Nat} (h : Spot l n k) (h' : Spot l n m) : k = m := by
  rcases Nat.lt_trichotomy k m with hl | hl | hl
  · have h1 := h.hi k (by have := h'.le; omega) (Nat.le_refl _)
    have h2 := h'.lo k (by have := h'.le; omega) hl
    omega
  · exact hl
  · have h1 := h'.hi m (by have := h.le; omega) (Nat.le_refl _)
    have h2 := h.lo m (by have := h.le; omega) hl
    omega
def putI (l : List Int) (n : Int) (k : Nat) : List Int := if l[k]? = some n then l else l.take k ++ ([n] ++ l.drop k)
theorem s_put_eq' {l : List Int} (hl : l.length ≤ 1048576) (hr : Ris l) (n : Int) : ∃ k, Spot l n k ∧ s_l5Put l n = some (putI l n k) := by
  unfold s_l5Put
  have hloop : Ok (loopG s_l5Put_L1 (l, n, 0)) fun v => ∃ k : Nat, Spot l n k ∧ v = (l, n, ((k : Nat) : Int)) := by
    refine Ok.loop (fun y => ∃ k : Nat, k ≤ l.length ∧ (∀ j (h : j < l.length), j < k → l[j] < n) ∧ y = (l, n, ((k : Nat) : Int))) (fun y => (((l.length : Nat) : Int) - y.2.2).toNat) ⟨0, by omega, fun j h hj => absurd hj (by omega), rfl⟩ ?_
    rintro _ ⟨k, hk, hlo, rfl⟩
    unfold s_l5Put_L1
    dsimp only
    by_cases hlt : k < l.length
    · rw [if_pos (by simp; omega), if_pos (by simp), if_pos (by simp; omega), Nat.zero_add, Int.toNat_natCast, List.getElem?_eq_getElem hlt, Option.bind_some, Option.bind_some]
      dsimp only
      by_cases hc : l[k] < n
      · rw [if_pos (by simpa using hc), ix64 (by omega)]
        refine Ok.mk ⟨⟨k + 1, by omega, fun j h hj => ?_, rfl⟩, by dsimp only; omega⟩
        by_cases hjk : j = k
        · subst hjk; exact hc
        · exact hlo j h (by omega)
      · rw [if_neg (by simpa using hc)]
        refine Ok.mk ⟨k, ⟨hk, hlo, fun j h hj => ?_⟩, rfl⟩
        by_cases hjk : j = k
        · subst hjk; omega
        · have := hr k j hlt h (by omega); omega
    · rw [if_neg (by simp; omega), Option.bind_some]
      exact Ok.mk ⟨k, ⟨hk, hlo, fun j h hj => absurd h (by omega)⟩, rfl⟩
  obtain ⟨v, hv, k, hs, rfl⟩ := hloop
  refine ⟨k, hs, ?_⟩
  have hk := hs.le
  rw [hv, Option.bind_some]
  dsimp only
  have ins : ∀ (c : Bool), c = false → (if c = true then some l else
      if (decide ((0 : Int) ≤ 0)) = true then
      if (decide ((0 : Int) ≤ ((k : Nat) : Int))) = true then
      if (decide ((((k : Nat) : Int) : Int) ≤ ((List.length l : Nat) : Int))) = true then
      if (decide ((((List.length l : Nat) : Int) : Int) ≤ ((List.length l : Nat) : Int))) = true then
      if (roomFor (List.length ([] : List Int) + List.length ((l.drop (Int.toNat 0)).take (Int.toNat ((k : Nat) : Int) - Int.toNat 0))) 8) = true then
      if (roomFor (List.length (([] : List Int) ++ ((l.drop (Int.toNat 0)).take (Int.toNat ((k : Nat) : Int) - Int.toNat 0))) + List.length ([n] : List Int)) 8) = true then
      if (decide ((0 : Int) ≤ ((k : Nat) : Int))) = true then
      if (decide ((((k : Nat) : Int) : Int) ≤ ((List.length l : Nat) : Int))) = true then
      if (decide ((((List.length l : Nat) : Int) : Int) ≤ ((List.length l : Nat) : Int))) = true then
      if (decide ((((List.length l : Nat) : Int) : Int) ≤ ((List.length l : Nat) : Int))) = true then
      if (roomFor (List.length ((([] : List Int) ++ ((l.drop (Int.toNat 0)).take (Int.toNat ((k : Nat) : Int) - Int.toNat 0))) ++ ([n] : List Int)) + List.length ((l.drop (Int.toNat ((k : Nat) : Int))).take (Int.toNat ((List.length l : Nat) : Int) - Int.toNat ((k : Nat) : Int)))) 8) = true then
      some (((([] : List Int) ++ ((l.drop (Int.toNat 0)).take (Int.toNat ((k : Nat) : Int) - Int.toNat 0))) ++ ([n] : List Int)) ++ ((l.drop (Int.toNat ((k : Nat) : Int))).take (Int.toNat ((List.length l : Nat) : Int) - Int.toNat ((k : Nat) : Int))))
      else none else none else none else none else none else none else none else none else none else none else none) = some (l.take k ++ ([n] ++ l.drop k)) := by
    rintro c rfl
    have r1 : ∀ m : Nat, m ≤ 1048577 → roomFor m 8 = true := fun m hm => by simp only [roomFor, decide_eq_true_eq]; omega
    rw [if_neg (by simp), if_pos (by simp), if_pos (by simp), if_pos (by simp; omega), if_pos (by simp), if_pos (r1 _ (by simp; omega)), if_pos (r1 _ (by simp; omega)), if_pos (by simp), if_pos (by simp; omega), if_pos (by simp), if_pos (by simp), if_pos (r1 _ (by simp; omega))]
    refine congrArg some ?_
    simp only [Int.toNat_natCast, List.nil_append, List.append_assoc]
    rw [show Int.toNat 0 = 0 from rfl, List.drop_zero, Nat.sub_zero, List.take_of_length_le (l := l.drop k) (by simp)]
  unfold putI
  by_cases hlt : k < l.length
  · rw [if_pos (by simp; omega), if_pos (by simp), if_pos (by simp; omega), Nat.zero_add, Int.toNat_natCast, List.getElem?_eq_getElem hlt, Option.bind_some, Option.bind_some]
    dsimp only
    by_cases hc : l[k] = n
    · rw [if_pos (by simpa using hc), if_pos (by rw [hc])]
    · rw [if_neg (show ¬ (some l[k] = some n) by simpa using hc)]
      exact ins _ (by simpa using hc)
  · rw [if_neg (by simp; omega), Option.bind_some, if_neg (show ¬ (l[k]? = some n) by rw [List.getElem?_eq_none (by omega)]; simp)]
    exact ins false rfl
theorem less_eq (a b : Int) : cmp_Less_int a b = some (decide (a < b)) := by
  unfold cmp_Less_int cmp_isNaN_int; simp
theorem bsi_eq {l : List Int} (hl : l.length ≤ 1048576) (hr : Ris l) (n : Int) : ∃ k, Spot l n k ∧ slices_BinarySearch_int_int l n = some (((k : Nat) : Int), decide (l[k]? = some n)) := by
  unfold slices_BinarySearch_int_int
  have hloop : Ok (loopG slices_BinarySearch_int_int_L1 (l, n, ((l.length : Nat) : Int), 0, ((l.length : Nat) : Int))) (fun r => ∃ k, Spot l n k ∧ r = (l, n, ((l.length : Nat) : Int), ((k : Nat) : Int))) := by
    refine Ok.loop (fun y => ∃ a b : Nat, a ≤ b ∧ b ≤ l.length ∧ (∀ j (h : j < l.length), j < a → l[j] < n) ∧ (∀ j (h : j < l.length), b ≤ j → n ≤ l[j]) ∧ y = (l, n, ((l.length : Nat) : Int), ((a : Nat) : Int), ((b : Nat) : Int)))
      (fun y => (y.2.2.2.2 - y.2.2.2.1).toNat) ⟨0, l.length, by omega, by omega, fun j h h2 => absurd h2 (by omega), fun j h h2 => absurd h2 (by omega), rfl⟩ ?_
    rintro _ ⟨a, b, hab, hb, h1, h2, rfl⟩
    unfold slices_BinarySearch_int_int_L1
    dsimp only
    refine Ok.ite (fun hc => ?_) fun hc => ?_
    · have hlt : a < b := by simpa using hc
      have e1 : IntKind.wrap .i64 (Int.fdiv (IntKind.wrap .u64 (IntKind.wrap .i64 (((a : Nat) : Int) + ((b : Nat) : Int)))) (2 ^ (min (Int.toNat 1) (IntKind.bits .u64)))) = (((a + b) / 2 : Nat) : Int) := by
        rw [w64 (n := ((a : Nat) : Int) + ((b : Nat) : Int)) (by omega) (by omega), wu64 (by omega) (by omega), show (2 : Int) ^ (min (Int.toNat 1) (IntKind.bits .u64)) = 2 from rfl, Int.fdiv_eq_ediv_of_nonneg _ (by omega), w64 (by omega) (by omega)]
        omega
      rw [e1]
      have hk : (a + b) / 2 < l.length := by omega
      refine Ok.yes (by simp) (Ok.yes (by simp; omega) ?_)
      rw [Int.toNat_natCast]
      refine Ok.bind_eq (List.getElem?_eq_getElem hk) (Ok.bind_eq (less_eq _ _) ?_)
      by_cases hlt2 : l[(a + b) / 2] < n
      · refine Ok.bind_eq (if_pos (by simpa using hlt2)) (Ok.mk ⟨⟨(a + b) / 2 + 1, b, by omega, hb, fun j h hj => ?_, h2, ?_⟩, ?_⟩)
        · by_cases hjj : j = (a + b) / 2
          · subst hjj; exact hlt2
          · have := hr j _ h hk (by omega); omega
        · rw [ix64 (by omega)]
        · dsimp only; rw [ix64 (by omega)]; omega
      · refine Ok.bind_eq (if_neg (by simpa using hlt2)) (Ok.mk ⟨⟨a, (a + b) / 2, by omega, by omega, h1, fun j h hj => ?_, rfl⟩, ?_⟩)
        · by_cases hjj : j = (a + b) / 2
          · subst hjj; omega
          · have := hr _ j hk h (by omega); omega
        · dsimp only; omega
    · have hlt : a = b := by simp at hc; omega
      subst hlt
      exact Ok.mk ⟨a, ⟨hb, h1, h2⟩, rfl⟩
  obtain ⟨r, hr', k, hs, rfl⟩ := hloop
  refine ⟨k, hs, ?_⟩
  rw [hr', Option.bind_some]
  dsimp only
  by_cases hlt : k < l.length
  · rw [if_pos (by simp; omega), if_pos (by simp), Int.toNat_natCast, List.getElem?_eq_getElem hlt, Option.bind_some]
    by_cases hc : l[k] = n
    · rw [if_pos (by simpa using hc), Option.bind_some, hc]; simp
    · rw [if_neg (by simpa using hc), if_pos (by simp), Option.bind_some]
      unfold slices_isNaN_int
      simp [hc]
  · rw [if_neg (by simp; omega), Option.bind_some, List.getElem?_eq_none (by omega)]; simp
theorem i_insert_eq {l : List Int} (hl : l.length ≤ 1048576) (hr : Ris l) (n : Int) : ∃ k, Spot l n k ∧ i_insert l n = some (putI l n k) := by
  obtain ⟨k, hs, hb⟩ := bsi_eq hl hr n
  refine ⟨k, hs, ?_⟩
  have hk := hs.le
  unfold i_insert putI
  rw [hb, Option.bind_some]
  dsimp only
  by_cases hc : l[k]? = some n
  · rw [if_pos (by simpa using hc), if_pos hc]
  · rw [if_neg (by simpa using hc), if_neg hc]
    unfold slices_Insert_int_int
    rw [if_pos ⟨by omega, by rw [Int.toNat_natCast]; exact hk, by simp, by simp; omega⟩, Option.bind_some, Int.toNat_natCast]
theorem cloneI_any {x : List Int} (h : x.length ≤ 1048576) : slices_Clone_int_int x = some x := by
  unfold slices_Clone_int_int
  have hr : roomFor (List.length ([] : List Int) + List.length x) 8 = true := by
    simp only [List.length_nil, roomFor, decide_eq_true_eq]; omega
  cases x with
  | nil => simp [bothQ, roomFor]
  | cons a x => simp only [bothQ, List.isEmpty_cons, Bool.false_eq_true, if_false, Option.bind_some, hr, if_true, List.nil_append]
structure GS (b : Bls) (x y z : List Int) : Prop where
  hb : 40 ≤ b.length ∧ b.length ≤ 160
  hx : x.length = 20
  hk : ∀ c ∈ b, c.length = 128
  hbits : ∀ i, i < 160 → bG b.length x i = true
  hy : upB b.length x y = true
  hz : upB b.length x z = true
theorem gs_of {b : Bls} {x y z : List Int} (h : gsp b x y z = true) : GS b x y z := by
  unfold gsp at h
  simp only [Bool.and_eq_true, decide_eq_true_eq] at h
  obtain ⟨⟨h1, h2, h3⟩, h4, h5, h6⟩ := h
  refine ⟨h1, h2, fun c hc => ?_, all_range.1 h4, h5, h6⟩
  have := List.all_eq_true.1 h3 c hc
  simpa using this
theorem GS.bd {b : Bls} {x y z : List Int} (g : GS b x y z) : Bd b := ⟨by have := g.hb; omega, fun c hc => by have := g.hk c hc; omega⟩
theorem i_copiedS_eq {b : Bls} {x y z : List Int} (g : GS b x y z) (h : SB b x y z) : i_Space_copied b x y z = some (b, x, y, z) := by
  unfold i_Space_copied
  rw [copyBlocks_eq g.bd, Option.bind_some, clone_any (by have := g.hx; omega), Option.bind_some, cloneI_any h.y, Option.bind_some, cloneI_any h.z]; rfl
theorem s_ownS_eq {b : Bls} {x y z : List Int} (g : GS b x y z) (h : SB b x y z) : s_l5Own b x y z = some (b, x, y, z) := by
  unfold s_l5Own
  have hb := g.hb
  have hl := loop_run s_l5Own_L1 (fun k => (b.take k, b, ((b.length : Nat) : Int), ((k : Nat) : Int), b, x, y, z)) b.length (b, b, x, y, z) (fun k hk => by
    unfold s_l5Own_L1
    dsimp only
    have hk2 := g.hk _ (List.getElem_mem hk)
    rw [if_pos (by simp; omega), if_pos (by simp), Int.toNat_natCast, List.getElem?_eq_getElem hk, Option.bind_some,
      if_pos (by simp only [List.length_nil, roomFor, decide_eq_true_eq]; omega),
      if_pos (by simp only [List.length_take, List.length_singleton, roomFor, decide_eq_true_eq]; omega), ix64 (by omega), List.take_succ_eq_append_getElem hk, List.nil_append]) (by
    unfold s_l5Own_L1
    dsimp only
    rw [if_neg (by simp), List.take_length])
  rw [show loopG s_l5Own_L1 ([], b, ((b.length : Nat) : Int), 0, b, x, y, z) = _ from hl, Option.bind_some]
  have hy := h.y; have hz := h.z; have hx := g.hx
  dsimp only
  rw [if_pos (by simp only [List.length_nil, roomFor, decide_eq_true_eq]; omega), if_pos (by simp only [List.length_nil, roomFor, decide_eq_true_eq]; omega), if_pos (by simp only [List.length_nil, roomFor, decide_eq_true_eq]; omega)]
  rfl
def zeroB : List Int := List.replicate 128 0
end Go.V.G

set_option linter.unusedVariables false
set_option linter.unusedSimpArgs false
set_option maxRecDepth 100000
namespace Go.V.G
open Go.V
theorem ofInt8 {r : Int} (h0 : 0 ≤ r) (h1 : r ≤ 255) : (BitVec.ofInt (IntKind.bits .u8) r).toNat = r.toNat := by
  obtain ⟨n, rfl⟩ := Int.eq_ofNat_of_zero_le h0
  show (BitVec.ofInt (IntKind.bits .u8) ((n : Nat) : Int)).toNat = Int.toNat ((n : Nat) : Int)
  rw [BitVec.ofInt_natCast, BitVec.toNat_ofNat, show IntKind.bits .u8 = 8 from rfl, Int.toNat_natCast]
  omega
theorem wub {r : Int} (h0 : 0 ≤ r) (h1 : r ≤ 255) : IntKind.wrap .u8 r = r := by rw [IntKind.wrap_u8]; omega
theorem ub_test {r : Int} (h0 : 0 ≤ r) (h1 : r ≤ 255) {j : Nat} (hj : j < 8) : ub r j = r.toNat.testBit j := by
  obtain ⟨n, rfl⟩ := Int.eq_ofNat_of_zero_le h0
  have hn : n ≤ 255 := by omega
  unfold ub
  rw [show min j (IntKind.bits .u8) = j from by show min j 8 = j; omega, Int.fdiv_eq_ediv_of_nonneg _ (by exact Int.le_of_lt (Int.pow_pos (by decide)))]
  have hp : (2 : Int) ^ j = ((2 ^ j : Nat) : Int) := by norm_cast
  rw [hp]
  have hq : ((n : Nat) : Int) / ((2 ^ j : Nat) : Int) = ((n / 2 ^ j : Nat) : Int) := by norm_cast
  rw [hq]
  have hle : n / 2 ^ j ≤ 255 := Nat.le_trans (Nat.div_le_self _ _) hn
  show _ = Nat.testBit (Int.toNat ((n : Nat) : Int)) j
  rw [Int.toNat_natCast, Nat.testBit_eq_decide_div_mod_eq]
  generalize n / 2 ^ j = q at hle
  rw [BitVec.toNat_and, ofInt8 (by omega) (by omega), ofInt8 (by omega) (by omega), Int.toNat_natCast, show (1 : Int).toNat = 1 from rfl, Nat.and_one_is_mod, wub (by omega) (by omega)]
  by_cases h : q % 2 = 1
  · rw [decide_eq_true h, decide_eq_true (by omega)]
  · rw [decide_eq_false h, decide_eq_false (by omega)]
theorem sb_val {r : Int} (h0 : 0 ≤ r) (h1 : r ≤ 255) {j : Nat} (hj : j < 8) : sb r j = ((r.toNat ||| 2 ^ j : Nat) : Int) ∧ r.toNat ||| 2 ^ j ≤ 255 := by
  have hr : r.toNat < 2 ^ 8 := by omega
  have hj2 : 2 ^ j < 2 ^ 8 := Nat.pow_lt_pow_right (by decide) hj
  have hor : r.toNat ||| 2 ^ j < 2 ^ 8 := Nat.or_lt_two_pow hr hj2
  have hp : (2 : Int) ^ j = ((2 ^ j : Nat) : Int) := by norm_cast
  unfold sb
  rw [show min j (IntKind.bits .u8) = j from by show min j 8 = j; omega, Int.one_mul, hp]
  clear hp
  generalize 2 ^ j = p at hj2 hor ⊢
  rw [wub (r := ((p : Nat) : Int)) (by omega) (by omega), BitVec.toNat_or, ofInt8 h0 h1, ofInt8 (by omega) (by omega), Int.toNat_natCast, wub (by omega) (by omega)]
  exact ⟨rfl, by omega⟩
def U8s (x : List Int) : Prop := ∀ v ∈ x, 0 ≤ v ∧ v ≤ 255
theorem bit_set {x : List Int} (hu : U8s x) {k j : Nat} (hk : k / 8 < x.length) (hj : j / 8 < x.length) : bit (setB x k) j = (decide (j = k) || bit x j) := by
  unfold bit setB
  have hgk : x[k / 8]? = some x[k / 8] := List.getElem?_eq_getElem hk
  have hgj : x[j / 8]? = some x[j / 8] := List.getElem?_eq_getElem hj
  have uk := hu _ (List.getElem_mem hk)
  have uj := hu _ (List.getElem_mem hj)
  rw [hgk, Option.getD_some]
  by_cases hd : j / 8 = k / 8
  · rw [hd, List.getElem?_set_self hk, Option.getD_some, hgk, Option.getD_some]
    obtain ⟨e1, e2⟩ := sb_val uk.1 uk.2 (Nat.mod_lt k (by decide))
    rw [e1, ub_test (by omega) (by omega) (Nat.mod_lt j (by decide)), ub_test uk.1 uk.2 (Nat.mod_lt j (by decide)), Int.toNat_natCast, Nat.testBit_or, Nat.testBit_two_pow]
    by_cases hjk : j = k
    · subst hjk; simp
    · have : ¬ (k % 8 = j % 8) := by omega
      rw [decide_eq_false hjk, decide_eq_false this]; simp
  · have hjk : ¬ j = k := by rintro rfl; exact hd rfl
    rw [List.getElem?_set_ne (Ne.symm hd), decide_eq_false hjk, Bool.false_or]
theorem u8_set {x : List Int} (hu : U8s x) {k : Nat} (hk : k / 8 < x.length) : U8s (setB x k) := by
  intro v hv
  unfold setB at hv
  rcases List.mem_or_eq_of_mem_set hv with hv | rfl
  · exact hu v hv
  · have uk := hu _ (List.getElem_mem hk)
    rw [List.getElem?_eq_getElem hk, Option.getD_some]
    obtain ⟨e1, e2⟩ := sb_val uk.1 uk.2 (Nat.mod_lt k (by decide))
    rw [e1]; omega
def cnt (x : List Int) : Nat → Nat
  | 0 => 0
  | n + 1 => cnt x n + (if bit x n = true then 0 else 1)
theorem cnt_set {x : List Int} (hu : U8s x) {k : Nat} (hk : k / 8 < x.length) (hb : bit x k = false) : ∀ n, n ≤ 8 * x.length → cnt (setB x k) n + (if k < n then 1 else 0) = cnt x n
  | 0, _ => rfl
  | n + 1, hn => by
    have ih := cnt_set hu hk hb n (by omega)
    simp only [cnt]
    rw [bit_set hu hk (show n / 8 < x.length by omega)]
    by_cases hnk : n = k
    · subst hnk
      rw [hb]
      simp at ih ⊢
      omega
    · rw [decide_eq_false hnk, Bool.false_or]
      split at ih <;> split <;> split <;> omega
theorem cnt_zero {x : List Int} : ∀ n, cnt x n = 0 ↔ ∀ k, k < n → bit x k = true
  | 0 => by simp [cnt]
  | n + 1 => by
    have ih := cnt_zero (x := x) n
    simp only [cnt]
    constructor
    · intro h k hk
      by_cases hkn : k = n
      · subst hkn
        cases hb : bit x k with
        | true => rfl
        | false => rw [hb] at h; simp at h
      · exact ih.1 (by omega) k (by omega)
    · intro h
      rw [ih.2 fun k hk => h k (by omega), h n (by omega)]; rfl
theorem cnt_le {x : List Int} : ∀ n, cnt x n ≤ n
  | 0 => Nat.le_refl _
  | n + 1 => by have := cnt_le (x := x) n; simp only [cnt]; split <;> omega
theorem ris_iff {l : List Int} : Ris l ↔ l.Pairwise (· < ·) := by
  rw [List.pairwise_iff_getElem]
  exact ⟨fun h i j hi hj hij => h i j hi hj hij, fun h i j hi hj hij => h i j hi hj hij⟩
theorem ris_put {l : List Int} (hr : Ris l) {n : Int} {k : Nat} (hs : Spot l n k) : Ris (putI l n k) := by
  unfold putI
  split
  · exact hr
  · rename_i hne
    rw [ris_iff] at hr ⊢
    have hlo : ∀ v ∈ l.take k, v < n := by
      intro v hv
      obtain ⟨j, hj, rfl⟩ := List.getElem_of_mem hv
      rw [List.length_take] at hj
      rw [List.getElem_take]
      exact hs.lo j (by omega) (by omega)
    have hhi : ∀ v ∈ l.drop k, n < v := by
      intro v hv
      obtain ⟨j, hj, rfl⟩ := List.getElem_of_mem hv
      rw [List.length_drop] at hj
      rw [List.getElem_drop]
      have hkj : k + j < l.length := by omega
      have h1 := hs.hi (k + j) hkj (by omega)
      by_cases hj0 : j = 0
      · subst hj0
        have : l[k]? = some l[k] := List.getElem?_eq_getElem (by omega)
        have hne' : ¬ l[k] = n := fun hh => hne (by rw [this, hh])
        simp only [Nat.add_zero] at h1 ⊢
        omega
      · have hk0 : k < l.length := by omega
        have h2 := hs.hi k hk0 (Nat.le_refl _)
        have h3 := (ris_iff.2 hr) k (k + j) hk0 hkj (by omega)
        omega
    rw [List.pairwise_append]
    refine ⟨hr.sublist (List.take_sublist _ _), ?_, ?_⟩
    · rw [List.pairwise_append]
      refine ⟨by simp, hr.sublist (List.drop_sublist _ _), ?_⟩
      intro a ha b hb
      simp only [List.mem_singleton] at ha
      subst ha
      exact hhi b hb
    · intro a ha b hb
      have h1 := hlo a ha
      rcases List.mem_append.1 hb with hb | hb
      · simp only [List.mem_singleton] at hb; subst hb; exact h1
      · have := hhi b hb; omega
theorem put_both2 {l : List Int} (hl : l.length ≤ 1048576) (hr : Ris l) (n : Int) : ∃ z, s_l5Put l n = some z ∧ i_insert l n = some z ∧ z.length ≤ l.length + 1 ∧ Ris z := by
  obtain ⟨k, hs, h1⟩ := s_put_eq' hl hr n
  obtain ⟨m, ht, h2⟩ := i_insert_eq hl hr n
  obtain rfl := hs.one ht
  refine ⟨_, h1, h2, ?_, ris_put hr hs⟩
  unfold putI
  split
  · omega
  · have := hs.le; simp; omega
structure Wk (n : Nat) (b : Bls) (x z : List Int) (lz : Nat) : Prop where
  hn : 40 ≤ n ∧ n ≤ 160
  hb : b.length = n
  hk : ∀ c ∈ b, c.length = 128
  hx : x.length = 20
  hu : U8s x
  hlow : ∀ k, k < 33 → bit x k = true
  hr : Ris z
  hz : z.length ≤ lz
theorem take_wk {n : Nat} {b : Bls} {x y z : List Int} {lz : Nat} (h : Wk n b x z lz) (hlz : lz ≤ 1048000) :
    (cnt x n = 0 ∧ i_Space_take_oooo b x y z = some (0, false, b, x, y, z)) ∨
    ∃ k b' x' z', (33 ≤ k ∧ k < n) ∧ s_l5Take_oooo b x y z = some (((k : Nat) : Int), b', x', y, z') ∧ i_Space_take_oooo b x y z = some (((k : Nat) : Int), true, b', x', y, z') ∧ Wk n b' x' z' (lz + 1) ∧ cnt x' n + 1 = cnt x n := by
  have hn := h.hn; have hbl := h.hb; have hx := h.hx
  by_cases hall : ∀ k, k < n → bit x k = true
  · left
    refine ⟨(cnt_zero n).2 hall, ?_⟩
    unfold i_Space_take_oooo
    have hl := loop_run i_Space_take_oooo_L1 (fun k => (((b.length : Nat) : Int), ((k : Nat) : Int), b, x, y, z)) b.length (.inl (b, x, y, z)) (fun k hk => by
      unfold i_Space_take_oooo_L1
      dsimp only
      rw [if_pos (by simp; omega), i_usedO_eq (by omega) (by omega), Option.bind_some, hall k (by omega)]
      dsimp only
      rw [if_neg (by simp), ix64 (by omega)]) (by
      unfold i_Space_take_oooo_L1
      dsimp only
      rw [if_neg (by simp)])
    rw [show loopG i_Space_take_oooo_L1 (((b.length : Nat) : Int), 0, b, x, y, z) = _ from hl]
    rfl
  · right
    have hex : ∃ k, k < n ∧ bit x k = false ∧ ∀ j, j < k → bit x j = true := by
      have hex0 : ∃ k, k < n ∧ bit x k = false := by
        refine Classical.byContradiction fun hn => hall fun k hk => ?_
        cases hbk : bit x k with
        | true => rfl
        | false => exact absurd ⟨k, hk, hbk⟩ hn
      obtain ⟨k, hk⟩ := hex0
      induction k using Nat.strongRecOn with
      | _ k ih =>
        by_cases hxx : ∃ j, j < k ∧ bit x j = false
        · obtain ⟨j, hj, hp⟩ := hxx
          exact ih j hj ⟨by omega, hp⟩
        · refine ⟨k, hk.1, hk.2, fun j hj => ?_⟩
          cases hpj : bit x j with
          | true => rfl
          | false => exact absurd ⟨j, hj, hpj⟩ hxx
    obtain ⟨k, hk, hbk, hbefore⟩ := hex
    have hk33 : 33 ≤ k := by
      refine Classical.byContradiction fun hn => ?_
      have := h.hlow k (by omega)
      rw [hbk] at this; cases this
    obtain ⟨t', hp1, hp2, hp3, hp4⟩ := put_both2 (by have := h.hz; omega) h.hr ((k : Nat) : Int)
    have hkb : k < b.length := by omega
    refine ⟨k, b.set k zeroB, setB x k, t', ⟨hk33, hk⟩, ?_, ?_, ?_, ?_⟩
    · unfold s_l5Take_oooo
      have hl := loop_run s_l5Take_oooo_L1 (fun i => (((33 + i : Nat) : Int), b, x, y, z)) (k - 33) (.inr (((k : Nat) : Int), b.set k zeroB, setB x k, y, t')) (fun i hi => by
        unfold s_l5Take_oooo_L1
        dsimp only
        rw [if_pos (by simp; omega), s_used_eq (by omega) (by omega), Option.bind_some, hbefore (33 + i) (by omega), if_neg (by simp), ix64 (by omega)]
        rfl) (by
        unfold s_l5Take_oooo_L1
        dsimp only
        rw [show 33 + (k - 33) = k by omega, if_pos (by simp; omega), s_used_eq (by omega) (by omega), Option.bind_some, hbk, if_pos (show (!false) = true from rfl), s_set_eq (by omega) (by omega), Option.bind_some,
          if_pos (by simp), if_pos (by simp), if_pos (by simp [roomFor]), if_pos (by simp), if_pos (by simp; omega), Nat.zero_add, Int.toNat_natCast, List.getElem?_eq_getElem hkb, Option.bind_some, Option.bind_some, hp1]
        rfl)
      rw [show loopG s_l5Take_oooo_L1 (33, b, x, y, z) = _ from hl]
      rfl
    · unfold i_Space_take_oooo
      have hcl : slices_Clone_byte_byte (List.replicate (Int.toNat 128) (0 : Int)) = some zeroB := clone_any (by simp)
      have hlay : i_Space_lay_oooo ((k : Nat) : Int) (List.replicate (Int.toNat 128) (0 : Int)) b (setB x k) y z = some (b.set k zeroB, setB x k, y, t') := by
        unfold i_Space_lay_oooo
        rw [hcl, Option.bind_some, if_pos (by simp), if_pos (by simp; omega), Nat.zero_add, Int.toNat_natCast, List.getElem?_eq_getElem hkb, Option.bind_some, Option.bind_some, hp2]; rfl
      have hl := loop_run i_Space_take_oooo_L1 (fun i => (((b.length : Nat) : Int), ((i : Nat) : Int), b, x, y, z)) k (.inr (((k : Nat) : Int), true, b.set k zeroB, setB x k, y, t')) (fun i hi => by
        unfold i_Space_take_oooo_L1
        dsimp only
        rw [if_pos (by simp; omega), i_usedO_eq (by omega) (by omega), Option.bind_some, hbefore i hi]
        dsimp only
        rw [if_neg (by simp), ix64 (by omega)]) (by
        unfold i_Space_take_oooo_L1
        dsimp only
        have hk8 : k / 8 < x.length := by omega
        have hg8 : x[k / 8]? = some x[k / 8] := List.getElem?_eq_getElem hk8
        rw [if_pos (by simp; omega), i_usedO_eq (by omega) (by omega), Option.bind_some, hbk]
        dsimp only
        rw [dv8 (by omega), md8, if_pos (show (!false) = true from rfl), if_pos (by simp), if_pos (by simp; omega), if_pos (by simp; omega), Nat.zero_add, Int.toNat_natCast, hg8, Option.bind_some, if_pos (by simp), if_pos (by simp; omega), if_pos (by simp; omega), if_pos (by simp; omega),
          Option.bind_some, Option.bind_some, if_pos (by simp), if_pos (by simp), if_pos (by simp [roomFor])]
        have hsb : x.set (k / 8) (IntKind.wrap .u8 (((BitVec.ofInt (IntKind.bits .u8) x[k / 8] ||| BitVec.ofInt (IntKind.bits .u8) (IntKind.wrap .u8 (1 * 2 ^ (min (Int.toNat ((k % 8 : Nat) : Int)) (IntKind.bits .u8))))).toNat : Int))) = setB x k := by
          unfold setB sb; rw [hg8, Option.getD_some, Int.toNat_natCast]
        rw [hsb, hlay]
        rfl)
      rw [show loopG i_Space_take_oooo_L1 (((b.length : Nat) : Int), 0, b, x, y, z) = _ from hl]
      rfl
    · refine ⟨hn, by rw [List.length_set]; exact hbl, fun c hc => ?_, by unfold setB; rw [List.length_set]; exact hx, u8_set h.hu (by omega), fun j hj => ?_, hp4, by have := h.hz; omega⟩
      · rcases List.mem_or_eq_of_mem_set hc with hc | rfl
        · exact h.hk c hc
        · rfl
      · rw [bit_set h.hu (by omega) (by omega), h.hlow j hj, Bool.or_true]
    · have := cnt_set h.hu (show k / 8 < x.length by omega) hbk n (by omega)
      rw [if_pos hk] at this
      exact this
end Go.V.G

set_option linter.unusedVariables false
set_option linter.unusedSimpArgs false
set_option maxRecDepth 100000
namespace Go.V.G
open Go.V
theorem loop2 {σ τ : Type} {f g : σ → Option (σ ⊕ τ)} {R : τ → Prop} (I : Nat → σ → Prop) (n : Nat) (step : ∀ i s, i < n → I i s → ∃ s', f s = some (.inl s') ∧ g s = some (.inl s') ∧ I (i + 1) s')
    (last : ∀ s, I n s → ∃ t, f s = some (.inr t) ∧ g s = some (.inr t) ∧ R t) {s : σ} (h : I 0 s) : ∃ t, loopG f s = some t ∧ loopG g s = some t ∧ R t := by
  have key : ∀ d i s, d = n - i → i ≤ n → I i s → ∃ t, loopG f s = some t ∧ loopG g s = some t ∧ R t := by
    intro d
    induction d with
    | zero =>
      intro i s hd hi hs
      obtain rfl : i = n := by omega
      obtain ⟨t, h1, h2, h3⟩ := last s hs
      exact ⟨t, by rw [loopG_eq, h1], by rw [loopG_eq, h2], h3⟩
    | succ d ih =>
      intro i s hd hi hs
      obtain ⟨s', h1, h2, h3⟩ := step i s (by omega) hs
      obtain ⟨t, k1, k2, k3⟩ := ih (i + 1) s' (by omega) (by omega) h3
      exact ⟨t, by rw [loopG_eq, h1]; exact k1, by rw [loopG_eq, h2]; exact k2, k3⟩
  exact key n 0 s (by omega) (Nat.zero_le _) h
theorem s_free_cnt {b : Bls} {x y z : List Int} (hb : b.length ≤ 160) (hx : x.length = 20) : s_l5Free b x y z = some ((cnt x b.length : Nat) : Int) := by
  unfold s_l5Free
  have hl := loop_run s_l5Free_L1 (fun k => (((cnt x k : Nat) : Int), ((b.length : Nat) : Int), ((k : Nat) : Int), b, x, y, z)) b.length ((cnt x b.length : Nat) : Int) (fun k hk => by
    unfold s_l5Free_L1
    dsimp only
    have hc := cnt_le (x := x) k
    rw [if_pos (by simp; omega), s_used_eq (by omega) (by omega), Option.bind_some]
    cases hbk : bit x k with
    | false =>
      rw [if_pos (show (!false) = true from rfl), Option.bind_some]
      dsimp only
      rw [ix64 (by omega), ix64 (by omega)]
      simp only [cnt, hbk]
      rfl
    | true =>
      rw [if_neg (by simp), Option.bind_some]
      dsimp only
      rw [ix64 (by omega)]
      simp only [cnt, hbk]
      rfl) (by
    unfold s_l5Free_L1
    dsimp only
    rw [if_neg (by simp)])
  rw [show loopG s_l5Free_L1 (0, ((b.length : Nat) : Int), 0, b, x, y, z) = _ from hl]; rfl
def nd (n : Nat) : Nat := if n = 0 then 1 else (n + 123) / 124
theorem s_need_eq {n : Nat} (h : n ≤ 1000) : s_l7Need ((n : Nat) : Int) = some ((nd n : Nat) : Int) := by
  unfold s_l7Need nd
  by_cases h0 : n = 0
  · subst h0; rfl
  · rw [if_neg (by simp; omega), if_neg h0, if_pos (by simp), w64 (n := ((n : Nat) : Int) + 124) (by omega) (by omega), w64 (n := ((n : Nat) : Int) + 124 - 1) (by omega) (by omega), Int.tdiv_eq_ediv_of_nonneg (by omega), w64 (by omega) (by omega)]
    refine congrArg some ?_
    omega
theorem i_need_eq {n : Nat} (h : n ≤ 1000) : i_needRecord ((n : Nat) : Int) = some ((nd n : Nat) : Int) := by
  unfold i_needRecord nd
  rw [if_pos (by simp), w64 (n := ((n : Nat) : Int) + 124) (by omega) (by omega), w64 (n := ((n : Nat) : Int) + 124 - 1) (by omega) (by omega), Int.tdiv_eq_ediv_of_nonneg (by omega), w64 (by omega) (by omega)]
  refine congrArg some ?_
  by_cases h0 : n = 0
  · subst h0; rfl
  · rw [if_neg h0, if_neg (by omega)]; omega
theorem nd_le {n : Nat} (h : n ≤ 1000) : 1 ≤ nd n ∧ nd n ≤ 9 ∧ ∀ i, i < nd n → 124 * i ≤ n := by
  unfold nd
  split
  · refine ⟨by omega, by omega, fun i hi => by omega⟩
  · refine ⟨by omega, by omega, fun i hi => by omega⟩
inductive Tks (y : List Int) : Nat → Bls → List Int → List Int → List Int → Bls → List Int → List Int → Prop where
  | nil (b : Bls) (x z : List Int) : Tks y 0 b x z [] b x z
  | snoc {m : Nat} {b : Bls} {x z l : List Int} {b1 : Bls} {x1 z1 : List Int} {k : Nat} {b2 : Bls} {x2 z2 : List Int} (h : Tks y m b x z l b1 x1 z1) (hs : s_l5Take_oooo b1 x1 y z1 = some (((k : Nat) : Int), b2, x2, y, z2))
      (hi : i_Space_take_oooo b1 x1 y z1 = some (((k : Nat) : Int), true, b2, x2, y, z2)) : Tks y (m + 1) b x z (l ++ [((k : Nat) : Int)]) b2 x2 z2
theorem tks_len {y : List Int} {m : Nat} {b : Bls} {x z l : List Int} {b' : Bls} {x' z' : List Int} (h : Tks y m b x z l b' x' z') : l.length = m := by
  induction h with
  | nil => rfl
  | snoc _ _ _ ih => simp [ih]
theorem tks_ex {y : List Int} {n : Nat} {b : Bls} {x z : List Int} {lz : Nat} (h : Wk n b x z lz) (hlz : lz ≤ 1040000) : ∀ m, m ≤ cnt x n → m ≤ 1000 →
    ∃ l b' x' z', Tks y m b x z l b' x' z' ∧ Wk n b' x' z' (lz + m) ∧ cnt x' n + m = cnt x n ∧ ∀ v ∈ l, 33 ≤ v ∧ v < (n : Int)
  | 0, _, _ => ⟨[], b, x, z, .nil b x z, h, rfl, fun v hv => by cases hv⟩
  | m + 1, hm, hb => by
    obtain ⟨l, b1, x1, z1, h1, h2, h3, h4⟩ := tks_ex h hlz m (by omega) (by omega)
    rcases take_wk (y := y) h2 (by omega) with ⟨h0, _⟩ | ⟨k, b2, x2, z2, hk, hs, hi, hw, hc⟩
    · omega
    · refine ⟨_, b2, x2, z2, .snoc h1 hs hi, hw, by omega, fun v hv => ?_⟩
      rcases List.mem_append.1 hv with hv | hv
      · exact h4 v hv
      · simp only [List.mem_singleton] at hv; subst hv; omega
theorem tks_s {y : List Int} {data : List Int} {m : Nat} {b : Bls} {x z l : List Int} {b' : Bls} {x' z' : List Int} (h : Tks y m b x z l b' x' z') : ∀ rem : Nat, m + rem ≤ 1000 →
    loopG s_l7Lay_oooo_L1 (data, [], ((m + rem : Nat) : Int), b, x, y, z) = loopG s_l7Lay_oooo_L1 (data, l, ((rem : Nat) : Int), b', x', y, z') := by
  induction h with
  | nil => intro rem _; rw [Nat.zero_add]
  | @snoc m b x z l b1 x1 z1 k b2 x2 z2 h hs hi ih =>
    intro rem hr
    have := ih (rem + 1) (by omega)
    rw [show m + 1 + rem = m + (rem + 1) by omega, this, loopG_eq]
    have hl := tks_len h
    have e : IntKind.wrap .i64 (((rem + 1 : Nat) : Int) - 1) = ((rem : Nat) : Int) := by rw [w64 (by omega) (by omega)]; omega
    unfold s_l7Lay_oooo_L1
    dsimp only
    rw [if_pos (by simp only [decide_eq_true_eq]; omega), hs, Option.bind_some]
    dsimp only
    rw [if_pos (by simp only [List.length_singleton, roomFor, decide_eq_true_eq]; omega), e]
theorem tks_i {y : List Int} {need : Nat} {m : Nat} {b : Bls} {x z l : List Int} {b' : Bls} {x' z' : List Int} (h : Tks y m b x z l b' x' z') : m ≤ need → need ≤ 1000 →
    loopG i_Space_takeMany_oooo_L1 ([], ((need : Nat) : Int), 0, b, x, y, z) = loopG i_Space_takeMany_oooo_L1 (l, ((need : Nat) : Int), ((m : Nat) : Int), b', x', y, z') := by
  induction h with
  | nil => intro _ _; rfl
  | @snoc m b x z l b1 x1 z1 k b2 x2 z2 h hs hi ih =>
    intro hm hn
    have := ih (by omega) hn
    rw [this, loopG_eq]
    have hl := tks_len h
    unfold i_Space_takeMany_oooo_L1
    dsimp only
    rw [if_pos (by simp; omega), hi, Option.bind_some]
    dsimp only
    rw [if_neg (by simp), if_pos (by simp only [List.length_singleton, roomFor, decide_eq_true_eq]; omega), ix64 (by omega)]
def blkOf (data list : List Int) (i : Nat) : List Int :=
  let own := (data.drop (124 * i)).take 124
  let next := if i + 1 < list.length then list[i + 1]?.getD 0 else 0
  let hd := [82, IntKind.wrap .u8 (next / 256), IntKind.wrap .u8 next, IntKind.wrap .u8 ((own.length : Nat) : Int)] ++ own
  hd ++ List.replicate (128 - hd.length) 0
theorem lay_step {data list : List Int} {n : Nat} (hd : data.length ≤ 1000) (hl : list.length = nd data.length) (hv : ∀ v ∈ list, 33 ≤ v ∧ v < (n : Int)) {i : Nat} (hi : i < list.length) {b : Bls} {x y z : List Int} {lz : Nat} (h : Wk n b x z lz) (hlz : lz ≤ 1040000) :
    ∃ b' z', s_l7Lay_oooo_L2 (data, list, ((list.length : Nat) : Int), ((i : Nat) : Int), b, x, y, z) = some (.inl (data, list, ((list.length : Nat) : Int), ((i + 1 : Nat) : Int), b', x, y, z')) ∧
      i_Space_layRecord_oooo_L1 (data, list, ((list.length : Nat) : Int), ((i : Nat) : Int), b, x, y, z) = some (.inl (data, list, ((list.length : Nat) : Int), ((i + 1 : Nat) : Int), b', x, y, z')) ∧ Wk n b' x z' (lz + 1) ∧ b' = b.set list[i].toNat (blkOf data list i) ∧ s_l5Put z list[i] = some z' := by
  obtain ⟨n1, n2, n3⟩ := nd_le hd
  have hi9 : i < 9 := by omega
  have h124 := n3 i (by omega)
  have hn := h.hn; have hbl := h.hb
  have hgi : list[i]? = some list[i] := List.getElem?_eq_getElem hi
  have hri := hv _ (List.getElem_mem hi)
  obtain ⟨k, hk⟩ := Int.eq_ofNat_of_zero_le (show 0 ≤ list[i] by omega)
  have hkn : k < n := by omega
  obtain ⟨t', hp1, hp2, hp3, hp4⟩ := put_both2 (by have := h.hz; omega) h.hr ((k : Nat) : Int)
  generalize hnx : (if i + 1 < list.length then list[i + 1]?.getD 0 else 0) = next
  have hnext : 0 ≤ next ∧ next < 160 := by
    rw [← hnx]
    split
    · rename_i h1
      have := hv _ (List.getElem_mem h1)
      rw [List.getElem?_eq_getElem h1, Option.getD_some]; omega
    · omega
  generalize hown : (data.drop (124 * i)).take 124 = own
  have hol : own.length ≤ 124 := by rw [← hown, List.length_take]; omega
  have hwl : ([82, IntKind.wrap .u8 (next / 256), IntKind.wrap .u8 next, IntKind.wrap .u8 ((own.length : Nat) : Int)] ++ own).length = own.length + 4 := by simp
  have hblk : blkOf data list i = ([82, IntKind.wrap .u8 (next / 256), IntKind.wrap .u8 next, IntKind.wrap .u8 ((own.length : Nat) : Int)] ++ own) ++ List.replicate (128 - (own.length + 4)) 0 := by
    unfold blkOf
    simp only
    rw [hown, hnx, hwl]
  have hblen : (blkOf data list i).length = 128 := by rw [hblk, List.length_append, hwl, List.length_replicate]; omega
  have e1 : IntKind.wrap .i64 (((i : Nat) : Int) + 1) = ((i + 1 : Nat) : Int) := ix64 (by omega)
  have w1 : IntKind.wrap .i64 (((i : Nat) : Int) * 124) = ((124 * i : Nat) : Int) := by rw [w64 (by omega) (by omega)]; omega
  have w2 : IntKind.wrap .i64 (124 * ((i : Nat) : Int)) = ((124 * i : Nat) : Int) := by rw [w64 (by omega) (by omega)]; omega
  have w3 : IntKind.wrap .i64 (124 * ((i + 1 : Nat) : Int)) = ((124 * (i + 1) : Nat) : Int) := by rw [w64 (by omega) (by omega)]; omega
  have hhi : IntKind.wrap .i64 (Int.tdiv next 256) = next / 256 := by rw [Int.tdiv_eq_ediv_of_nonneg hnext.1, w64 (by omega) (by omega)]
  have hhf : Int.fdiv next (2 ^ (min (Int.toNat 8) (IntKind.bits .i64))) = next / 256 := by
    rw [show (2 : Int) ^ (min (Int.toNat 8) (IntKind.bits .i64)) = 256 from rfl, Int.fdiv_eq_ediv_of_nonneg _ (by omega)]
  have hkb : k < b.length := by omega
  refine ⟨b.set k (blkOf data list i), t', ?_, ?_, ⟨hn, by rw [List.length_set]; exact hbl, fun c hc => ?_, h.hx, h.hu, h.hlow, hp4, by have := h.hz; omega⟩, by rw [hk, Int.toNat_natCast], by rw [hk]; exact hp1⟩
  · unfold s_l7Lay_oooo_L2
    dsimp only
    rw [if_pos (by simp; omega), if_pos (by simp), if_pos (by simp; omega), Nat.zero_add, Int.toNat_natCast, hgi, Option.bind_some, e1]
    have hv7 : (if (decide (((i + 1 : Nat) : Int) < ((List.length list : Nat) : Int))) = true then
          if (decide ((0 : Int) ≤ ((i + 1 : Nat) : Int))) = true then
          if (decide ((((i + 1 : Nat) : Int) : Int) < ((List.length list : Nat) : Int))) = true then
          Option.bind (list[0 + Int.toNat ((i + 1 : Nat) : Int)]?) fun r6 =>
          some (data, list, ((i : Nat) : Int), list[i], r6, ((list.length : Nat) : Int), ((i : Nat) : Int), b, x, y, z)
          else none
          else none
        else
          some (data, list, ((i : Nat) : Int), list[i], 0, ((list.length : Nat) : Int), ((i : Nat) : Int), b, x, y, z)) = some (data, list, ((i : Nat) : Int), list[i], next, ((list.length : Nat) : Int), ((i : Nat) : Int), b, x, y, z) := by
      by_cases h1 : i + 1 < list.length
      · rw [if_pos (by simp; omega), if_pos (by simp; omega), if_pos (by simp; omega), Nat.zero_add, Int.toNat_natCast, List.getElem?_eq_getElem h1, Option.bind_some]
        rw [if_pos h1, List.getElem?_eq_getElem h1, Option.getD_some] at hnx
        rw [hnx]
      · rw [if_neg (by simp; omega)]
        rw [if_neg h1] at hnx
        rw [hnx]
    rw [hv7, Option.bind_some]
    dsimp only
    rw [w1, if_pos (by simp; omega), if_pos (by simp; omega), if_pos (by simp), if_pos (by simp), Int.toNat_natCast, Int.toNat_natCast]
    have hfull : (List.drop (124 * i) data).take (data.length - 124 * i) = List.drop (124 * i) data := List.take_of_length_le (by simp)
    rw [hfull]
    have hv8 : (if (decide ((124 : Int) < ((List.length (List.drop (124 * i) data) : Nat) : Int))) = true then
          if (decide ((0 : Int) ≤ 0)) = true then
          if (decide ((0 : Int) ≤ 124)) = true then
          if (decide ((124 : Int) ≤ ((List.length (List.drop (124 * i) data) : Nat) : Int))) = true then
          if (decide ((((List.length (List.drop (124 * i) data) : Nat) : Int) : Int) ≤ ((List.length (List.drop (124 * i) data) : Nat) : Int))) = true then
          some (data, list, list[i], next, (List.drop (Int.toNat 0) (List.drop (124 * i) data)).take (Int.toNat 124 - Int.toNat 0), ((list.length : Nat) : Int), ((i : Nat) : Int), b, x, y, z)
          else none
          else none
          else none
          else none
        else
          some (data, list, list[i], next, List.drop (124 * i) data, ((list.length : Nat) : Int), ((i : Nat) : Int), b, x, y, z)) = some (data, list, list[i], next, own, ((list.length : Nat) : Int), ((i : Nat) : Int), b, x, y, z) := by
      by_cases h1 : 124 < (List.drop (124 * i) data).length
      · rw [if_pos (by simp only [decide_eq_true_eq]; omega), if_pos (by simp), if_pos (by simp), if_pos (by simp only [decide_eq_true_eq]; omega), if_pos (by simp)]
        have : (List.drop (Int.toNat 0) (List.drop (124 * i) data)).take (Int.toNat 124 - Int.toNat 0) = own := by rw [← hown]; rfl
        rw [this]
      · rw [if_neg (by simp only [decide_eq_true_eq]; omega)]
        have : List.drop (124 * i) data = own := by rw [← hown, List.take_of_length_le (by omega)]
        rw [this]
    rw [hv8, Option.bind_some]
    dsimp only
    rw [if_pos (by simp), hhi, if_pos (by simp only [roomFor, decide_eq_true_eq, List.length_cons, List.length_nil]; omega)]
    have hlay : s_l5Lay_oooo list[i] (([82, IntKind.wrap .u8 (next / 256), IntKind.wrap .u8 next, IntKind.wrap .u8 ((List.length own : Nat) : Int)] : List Int) ++ own) b x y z = some (b.set k (blkOf data list i), x, y, t') := by
      rw [hk]
      unfold s_l5Lay_oooo
      rw [if_pos (by simp), if_pos (by simp), if_pos (by simp [roomFor]), if_pos (by simp), if_pos (by simp; omega), Nat.zero_add, Int.toNat_natCast, List.getElem?_eq_getElem hkb, Option.bind_some, Option.bind_some, hp1, Option.bind_some]
      rw [hblk, show Int.toNat 128 = 128 from rfl, List.length_replicate, List.take_of_length_le (by rw [hwl]; omega), hwl, List.drop_replicate]
    rw [hlay, Option.bind_some, e1]
  · unfold i_Space_layRecord_oooo_L1
    dsimp only
    rw [if_pos (by simp; omega), if_pos (by simp), if_pos (by simp; omega), Nat.zero_add, Int.toNat_natCast, hgi, Option.bind_some, e1, w2, w3]
    generalize hmn : (if (((List.length data : Nat) : Int) : Int) < ((124 * (i + 1) : Nat) : Int) then ((List.length data : Nat) : Int) else ((124 * (i + 1) : Nat) : Int)) = mn
    have hmn' : mn = ((min data.length (124 * (i + 1)) : Nat) : Int) := by rw [← hmn]; split <;> omega
    subst hmn'
    rw [if_pos (by simp; omega), if_pos (by simp; omega), if_pos (by simp; omega), if_pos (by simp)]
    simp only [Int.toNat_natCast]
    have hown2 : (List.drop (124 * i) data).take (min data.length (124 * (i + 1)) - 124 * i) = own := by
      rw [← hown]
      by_cases h1 : data.length ≤ 124 * (i + 1)
      · rw [Nat.min_eq_left h1, List.take_of_length_le (by simp), List.take_of_length_le (by simp; omega)]
      · rw [Nat.min_eq_right (by omega), show 124 * (i + 1) - 124 * i = 124 by omega]
    rw [hown2]
    have hv5 : (if (decide (((i + 1 : Nat) : Int) < ((List.length list : Nat) : Int))) = true then
          if (decide ((0 : Int) ≤ ((i + 1 : Nat) : Int))) = true then
          if (decide ((((i + 1 : Nat) : Int) : Int) < ((List.length list : Nat) : Int))) = true then
          Option.bind (list[0 + (i + 1)]?) fun r4 =>
          some (data, list, list[i], own, r4, ((list.length : Nat) : Int), ((i : Nat) : Int), b, x, y, z)
          else none
          else none
        else
          some (data, list, list[i], own, 0, ((list.length : Nat) : Int), ((i : Nat) : Int), b, x, y, z)) = some (data, list, list[i], own, next, ((list.length : Nat) : Int), ((i : Nat) : Int), b, x, y, z) := by
      by_cases h1 : i + 1 < list.length
      · rw [if_pos (by simp; omega), if_pos (by simp; omega), if_pos (by simp; omega), Nat.zero_add, List.getElem?_eq_getElem h1, Option.bind_some]
        rw [if_pos h1, List.getElem?_eq_getElem h1, Option.getD_some] at hnx
        rw [hnx]
      · rw [if_neg (by simp; omega)]
        rw [if_neg h1] at hnx
        rw [hnx]
    rw [hv5, Option.bind_some]
    dsimp only
    have htwo : i_two next = some [IntKind.wrap .u8 (next / 256), IntKind.wrap .u8 next] := by
      unfold i_two
      rw [if_pos (by simp), hhf]
    rw [htwo, Option.bind_some, if_pos (by simp [roomFor]), if_pos (by simp [roomFor]), if_pos (by simp only [roomFor, decide_eq_true_eq, List.length_append, List.length_cons, List.length_nil]; omega)]
    have hpad : i_padded (((([82] : List Int) ++ [IntKind.wrap .u8 (next / 256), IntKind.wrap .u8 next]) ++ ([IntKind.wrap .u8 ((List.length own : Nat) : Int)] : List Int)) ++ own) 128 = some (blkOf data list i) := by
      have ew : (((([82] : List Int) ++ [IntKind.wrap .u8 (next / 256), IntKind.wrap .u8 next]) ++ ([IntKind.wrap .u8 ((List.length own : Nat) : Int)] : List Int)) ++ own) = [82, IntKind.wrap .u8 (next / 256), IntKind.wrap .u8 next, IntKind.wrap .u8 ((own.length : Nat) : Int)] ++ own := by simp
      unfold i_padded
      rw [ew, hwl, w64 (by omega) (by omega), if_pos (by simp; omega), show Int.toNat (128 - ((own.length + 4 : Nat) : Int)) = 128 - (own.length + 4) by omega, if_pos (by simp only [roomFor, decide_eq_true_eq, List.length_replicate]; omega), ← hblk]
    rw [hpad, Option.bind_some]
    have hlay : i_Space_lay_oooo list[i] (blkOf data list i) b x y z = some (b.set k (blkOf data list i), x, y, t') := by
      rw [hk]
      unfold i_Space_lay_oooo
      rw [clone_any (by omega), Option.bind_some, if_pos (by simp), if_pos (by simp; omega), Nat.zero_add, Int.toNat_natCast, List.getElem?_eq_getElem hkb, Option.bind_some, Option.bind_some, hp2]; rfl
    rw [hlay, Option.bind_some, e1]
  · rcases List.mem_or_eq_of_mem_set hc with hc | rfl
    · exact h.hk c hc
    · exact hblen
theorem ris_len {l : List Int} (hr : Ris l) (hb : ∀ i (h : i < l.length), 33 ≤ l[i] ∧ l[i] ≤ 159) : l.length ≤ 127 := by
  have key : ∀ i (h : i < l.length), 33 + (i : Int) ≤ l[i] := by
    intro i
    induction i with
    | zero => intro h; have := hb 0 h; omega
    | succ i ih => intro h; have h1 := ih (by omega); have h2 := hr i (i + 1) (by omega) h (by omega); omega
  refine Classical.byContradiction fun hn => ?_
  have h1 := key 127 (by omega)
  have h2 := hb 127 (by omega)
  omega
end Go.V.G

set_option linter.unusedVariables false
set_option linter.unusedSimpArgs false
set_option maxRecDepth 100000
namespace Go.V.G
open Go.V
theorem put_both3 {l : List Int} (hl : l.length ≤ 1048576) (hr : Ris l) (n : Int) : ∃ z, s_l5Put l n = some z ∧ i_insert l n = some z ∧ z.length ≤ l.length + 1 ∧ Ris z ∧ ∀ v, v ∈ z ↔ v ∈ l ∨ v = n := by
  obtain ⟨k, hs, h1⟩ := s_put_eq' hl hr n
  obtain ⟨m, ht, h2⟩ := i_insert_eq hl hr n
  obtain rfl := hs.one ht
  refine ⟨_, h1, h2, ?_, ris_put hr hs, fun v => ?_⟩
  · unfold putI
    split
    · omega
    · have := hs.le; simp; omega
  · unfold putI
    split
    · rename_i h
      have hm := List.mem_of_getElem? h
      exact ⟨.inl, fun h' => h'.elim id fun e => by rw [e]; exact hm⟩
    · have e : v ∈ l ↔ v ∈ l.take k ∨ v ∈ l.drop k := by
        rw [← List.mem_append, List.take_append_drop]
      rw [e]
      simp only [List.mem_append, List.mem_singleton]
      constructor
      · rintro (h | h | h)
        · exact .inl (.inl h)
        · exact .inr h
        · exact .inl (.inr h)
      · rintro ((h | h) | h)
        · exact .inl h
        · exact .inr (.inr h)
        · exact .inr (.inl h)
structure Wq (b : Bls) (x z : List Int) (lz : Nat) : Prop where
  hb : 39 ≤ b.length ∧ b.length ≤ 160
  hx : x.length = 20
  hu : U8s x
  hr : Ris z
  hz : z.length ≤ lz
theorem take_q {b : Bls} {x y z : List Int} {lz : Nat} (h : Wq b x z lz) (hlz : lz ≤ 1048000) : Ok (s_l5Take_oooo b x y z) fun r =>
    r = (0, b, x, y, z) ∨ ∃ (k : Nat) (z' : List Int), (33 ≤ k ∧ k < b.length) ∧ bit x k = false ∧ s_l5Put z ((k : Nat) : Int) = some z' ∧ r = (((k : Nat) : Int), b.set k zeroB, setB x k, y, z') := by
  have hbl := h.hb; have hx := h.hx; have hz := h.hz
  unfold s_l5Take_oooo
  refine Ok.bind (Q := fun v => v = .inl (b, x, y, z) ∨ ∃ (k : Nat) (z' : List Int), (33 ≤ k ∧ k < b.length) ∧ bit x k = false ∧ s_l5Put z ((k : Nat) : Int) = some z' ∧ v = .inr (((k : Nat) : Int), b.set k zeroB, setB x k, y, z')) ?_ ?_
  · refine Ok.loop (fun s => ∃ i : Nat, 33 ≤ i ∧ i ≤ 160 ∧ s = (((i : Nat) : Int), b, x, y, z)) (fun s => (200 - s.1).toNat) ⟨33, by omega, by omega, rfl⟩ ?_
    rintro _ ⟨i, h33, hi, rfl⟩
    unfold s_l5Take_oooo_L1
    dsimp only
    refine Ok.ite (fun hc => ?_) fun hc => Ok.mk (.inl rfl)
    have hlt : i < b.length := by simpa using hc
    refine Ok.bind_eq (s_used_eq (by omega) (by omega)) ?_
    refine Ok.ite (fun hu => ?_) fun hu => ?_
    · have hbk : bit x i = false := by simpa using hu
      obtain ⟨z', hp1, _⟩ := put_both3 (by omega) h.hr ((i : Nat) : Int)
      have hg : b[0 + Int.toNat ((i : Nat) : Int)]? = some b[i] := by simp [hlt]
      refine Ok.bind_eq (s_set_eq (by omega) (by omega)) (Ok.yes (by simp) (Ok.yes (by simp) (Ok.yes (by simp [roomFor]) (Ok.yes (by simp) (Ok.yes (by simpa using hlt) (Ok.bind_eq hg (Ok.bind_eq hg (Ok.bind_eq hp1 (Ok.mk (.inr ⟨i, z', ⟨h33, hlt⟩, hbk, hp1, ?_⟩))))))))))
      simp [zeroB]
    · have e1 := ix64 (i := i) (by omega)
      refine Ok.mk ⟨⟨i + 1, by omega, by omega, by rw [e1]⟩, ?_⟩
      dsimp only; rw [e1]; omega
  · rintro v (rfl | ⟨k, z', h1, h2, h3, rfl⟩)
    · exact Ok.mk (.inl rfl)
    · exact Ok.mk (.inr ⟨k, z', h1, h2, h3, rfl⟩)
theorem Wq.take {b : Bls} {x z : List Int} {lz : Nat} (h : Wq b x z lz) (hlz : lz ≤ 1048000) {k : Nat} (hk : k < b.length) {z' : List Int} (hz' : s_l5Put z ((k : Nat) : Int) = some z') : Wq (b.set k zeroB) (setB x k) z' (lz + 1) := by
  have hbl := h.hb; have hx := h.hx; have hz := h.hz
  obtain ⟨z2, e1, _, e2, e3, _⟩ := put_both3 (by omega) h.hr ((k : Nat) : Int)
  rw [e1] at hz'
  obtain rfl := Option.some.inj hz'
  exact ⟨by rw [List.length_set]; exact hbl, by unfold setB; rw [List.length_set]; exact hx, u8_set h.hu (by omega), e3, by omega⟩
theorem u8_wrap (n : Int) : 0 ≤ IntKind.wrap .u8 n ∧ IntKind.wrap .u8 n ≤ 255 := by rw [IntKind.wrap_u8]; omega
end Go.V.G

set_option linter.unusedVariables false
set_option linter.unusedSimpArgs false
set_option maxRecDepth 100000
namespace Go.V.G
open Go.V
theorem index_ok {l : List Int} {n : Int} (hl : l.length ≤ 1048576) : Ok (slices_Index_int_int l n) fun r => (0 ≤ r ↔ n ∈ l) := by
  unfold slices_Index_int_int
  refine Ok.bind (Q := fun r => (r = .inl () ∧ n ∉ l) ∨ ∃ k : Int, r = .inr k ∧ 0 ≤ k ∧ n ∈ l) ?_ ?_
  · refine Ok.loop (fun y => ∃ k : Nat, k ≤ l.length ∧ y = (l, n, ((l.length : Nat) : Int), ((k : Nat) : Int)) ∧ ∀ j (h : j < l.length), j < k → l[j] ≠ n) (fun y => (y.2.2.1 - y.2.2.2).toNat) ⟨0, by omega, rfl, fun j _ h => by omega⟩ ?_
    rintro _ ⟨k, hk, rfl, hn⟩
    unfold slices_Index_int_int_L1
    dsimp only
    refine Ok.ite (fun hc => ?_) fun hc => Ok.mk (.inl ⟨rfl, fun hm => ?_⟩)
    · have hlt : k < l.length := by simpa using hc
      have hg : l[Int.toNat ((k : Nat) : Int)]? = some l[k] := by simp [hlt]
      have e1 := ix64 (i := k) (by omega)
      refine Ok.yes (by simp) (Ok.bind_eq hg (Ok.ite (fun he => Ok.mk (.inr ⟨_, rfl, by omega, ?_⟩)) fun he => Ok.mk ⟨⟨k + 1, by omega, by rw [e1], fun j hj hjk => ?_⟩, ?_⟩))
      · have he' : n = l[k] := by simpa using he
        rw [he']; exact List.getElem_mem _
      · by_cases hjk' : j = k
        · subst hjk'; intro hh; exact he (by simp [hh])
        · exact hn j hj (by omega)
      · dsimp only; rw [e1]; omega
    · obtain ⟨j, hj, he⟩ := List.getElem_of_mem hm
      have : ¬ k < l.length := by simpa using hc
      exact hn j hj (by omega) he
  · rintro r (⟨rfl, h⟩ | ⟨k, rfl, h0, h⟩)
    · exact Ok.mk (by simp [h])
    · exact Ok.mk ⟨fun _ => h, fun _ => h0⟩
theorem contains_ok {l : List Int} {n : Int} (hl : l.length ≤ 1048576) : Ok (slices_Contains_int_int l n) fun r => (r = true ↔ n ∈ l) := by
  unfold slices_Contains_int_int
  exact (index_ok hl).bind fun r hr => Ok.mk (by rw [← hr]; simp)
theorem gsp_of {b : Bls} {x y z : List Int} (g : GS b x y z) : gsp b x y z = true := by
  unfold gsp
  simp only [Bool.and_eq_true, decide_eq_true_eq]
  exact ⟨⟨g.hb, g.hx, List.all_eq_true.2 fun c hc => by simpa using g.hk c hc⟩, all_range.2 g.hbits, g.hy, g.hz⟩
theorem upB_of {n : Nat} {bits l : List Int} (hr : Ris l) (h : ∀ v ∈ l, 33 ≤ v ∧ v ≤ (n : Int) - 1 ∧ bit bits v.toNat = true) : upB n bits l = true := by
  refine all_range.2 fun i hi => ?_
  rw [upG_eq n bits l i hi]
  have hm := h l[i] (List.getElem_mem _)
  rw [if_neg (fun hn => hn ⟨hm.1, hm.2.1⟩), if_neg (by rw [hm.2.2]; simp), if_neg]
  rintro ⟨h0, h1⟩
  rw [List.getElem?_eq_getElem (by omega), Option.getD_some] at h1
  have := hr (i - 1) i (by omega) hi (by omega)
  omega
theorem up_mem {n : Nat} {bits l : List Int} (h : upB n bits l = true) : ∀ v ∈ l, 33 ≤ v ∧ v ≤ (n : Int) - 1 ∧ bit bits v.toNat = true := by
  intro v hv
  obtain ⟨i, hi, rfl⟩ := List.getElem_of_mem hv
  exact (ris_of h).2 i hi
theorem GS.take {b : Bls} {x y z : List Int} (g : GS b x y z) (hu : U8s x) {k : Nat} (hk : 33 ≤ k ∧ k < b.length) {z' : List Int} (hzl : z.length ≤ 1048000) (hz' : s_l5Put z ((k : Nat) : Int) = some z') : GS (b.set k zeroB) (setB x k) y z' ∧ ((k : Nat) : Int) ∈ z' ∧ z'.length ≤ z.length + 1 ∧ bit (setB x k) k = true := by
  have hb := g.hb; have hx := g.hx
  obtain ⟨z2, e1, _, e2, e3, e4⟩ := put_both3 (by omega) (ris_of g.hz).1 ((k : Nat) : Int)
  rw [e1] at hz'
  obtain rfl := Option.some.inj hz'
  have hs : ∀ j, j < 160 → bit (setB x k) j = (decide (j = k) || bit x j) := fun j hj => bit_set hu (by omega) (by omega)
  have hup : ∀ v : Int, 33 ≤ v ∧ v ≤ (b.length : Int) - 1 ∧ bit x v.toNat = true → 33 ≤ v ∧ v ≤ ((b.set k zeroB).length : Int) - 1 ∧ bit (setB x k) v.toNat = true := fun v ⟨h1, h2, h3⟩ =>
    ⟨h1, by rw [List.length_set]; exact h2, by rw [hs _ (by omega), h3, Bool.or_true]⟩
  refine ⟨⟨by rw [List.length_set]; exact hb, by unfold setB; rw [List.length_set]; exact hx, fun c hc => ?_, fun i hi => ?_, ?_, ?_⟩, (e4 _).2 (.inr rfl), e2, by rw [hs k (by omega)]; simp⟩
  · rcases List.mem_or_eq_of_mem_set hc with hc | rfl
    · exact g.hk c hc
    · rfl
  · rw [List.length_set]
    have := g.hbits i hi
    unfold bG at this ⊢
    rw [hs i hi]
    by_cases hik : i = k
    · subst hik
      simp; omega
    · simpa [hik] using this
  · exact upB_of (ris_of g.hy).1 fun v hv => hup v (up_mem g.hy v hv)
  · refine upB_of e3 fun v hv => ?_
    rcases (e4 v).1 hv with hv | rfl
    · exact hup v (up_mem g.hz v hv)
    · exact ⟨by omega, by rw [List.length_set]; omega, by rw [hs _ (by omega)]; simp⟩
end Go.V.G

set_option linter.unusedVariables false
set_option linter.unusedSimpArgs false
set_option maxRecDepth 100000
namespace Go.V.G
open Go.V
theorem s_rest_ok {x : List Int} {n : Nat} (hx : x.length ≤ 1048576) (hn : n ≤ x.length) : Ok (s_l7Rest x ((n : Nat) : Int)) fun r => (r = true ↔ ∀ v ∈ x.drop n, v = 0) := by
  unfold s_l7Rest
  refine Ok.yes (by simp) (Ok.yes (by simp; omega) (Ok.yes (by simp) (Ok.yes (by simp) ?_)))
  have e : (List.drop (Int.toNat ((n : Nat) : Int)) x).take (Int.toNat ((List.length x : Nat) : Int) - Int.toNat ((n : Nat) : Int)) = x.drop n := by
    rw [Int.toNat_natCast, Int.toNat_natCast]
    exact List.take_of_length_le (by rw [List.length_drop]; omega)
  rw [e]
  have hl : (x.drop n).length ≤ 1048576 := by rw [List.length_drop]; omega
  generalize x.drop n = l at hl
  refine Ok.bind (Q := fun r => (r = .inl () ∧ ∀ v ∈ l, v = 0) ∨ (r = .inr false ∧ ¬ ∀ v ∈ l, v = 0)) ?_ ?_
  · refine Ok.loop (fun y => ∃ k : Nat, k ≤ l.length ∧ y = (l, ((l.length : Nat) : Int), ((k : Nat) : Int)) ∧ ∀ j (h : j < l.length), j < k → l[j] = 0) (fun y => (y.2.1 - y.2.2).toNat) ⟨0, by omega, rfl, fun j _ h => by omega⟩ ?_
    rintro _ ⟨k, hk, rfl, hz⟩
    unfold s_l7Rest_L1
    dsimp only
    refine Ok.ite (fun hc => ?_) fun hc => Ok.mk (.inl ⟨rfl, fun v hv => ?_⟩)
    · have hlt : k < l.length := by simpa using hc
      have hg : l[Int.toNat ((k : Nat) : Int)]? = some l[k] := by simp [hlt]
      have e1 := ix64 (i := k) (by omega)
      refine Ok.yes (by simp) (Ok.bind_eq hg (Ok.ite (fun he => Ok.mk (.inr ⟨rfl, fun hall => ?_⟩)) fun he => Ok.mk ⟨⟨k + 1, by omega, by rw [e1], fun j hj hjk => ?_⟩, ?_⟩))
      · have : ¬ l[k] = 0 := by simpa using he
        exact this (hall _ (List.getElem_mem _))
      · by_cases hjk' : j = k
        · subst hjk'; simpa using he
        · exact hz j hj (by omega)
      · dsimp only; rw [e1]; omega
    · obtain ⟨j, hj, rfl⟩ := List.getElem_of_mem hv
      have : ¬ k < l.length := by simpa using hc
      exact hz j hj (by omega)
  · rintro r (⟨rfl, h⟩ | ⟨rfl, h⟩)
    · exact Ok.mk (by simpa using h)
    · exact Ok.mk ⟨fun hh => (by cases hh), fun hh => absurd hh h⟩
end Go.V.G

set_option linter.unusedVariables false
set_option linter.unusedSimpArgs false
set_option maxRecDepth 100000
namespace Go.V.G
open Go.V
def gb (c : List Int) (i : Nat) : Int := c[i]?.getD 0
def blk (b : Bls) (i : Nat) : List Int := b[i]?.getD []
theorem gb_some {c : List Int} {i : Nat} (h : i < c.length) : c[i]? = some (gb c i) := by unfold gb; rw [List.getElem?_eq_getElem h]; rfl
theorem blk_some {b : Bls} {i : Nat} (h : i < b.length) : b[i]? = some (blk b i) := by unfold blk; rw [List.getElem?_eq_getElem h]; rfl
theorem iy {α : Type} {p : Prop} [Decidable p] {a b : α} (h : p) : (if decide p = true then a else b) = a := by rw [if_pos (by simpa using h)]
theorem ino {α : Type} {p : Prop} [Decidable p] {a b : α} (h : ¬ p) : (if decide p = true then a else b) = b := by rw [if_neg (by simpa using h)]
structure RS (b : Bls) (x y : List Int) : Prop where
  hn : 40 ≤ b.length ∧ b.length ≤ 160
  hk : ∀ c ∈ b, c.length = 128
  hu : ∀ c ∈ b, U8s c
  hx : x.length = 20
  hy : y.length ≤ 1048576
theorem blk_mem {b : Bls} {i : Nat} (h : i < b.length) : blk b i ∈ b := List.mem_of_getElem? (blk_some h)
theorem RS.len {b : Bls} {x y : List Int} (g : RS b x y) {i : Nat} (h : i < b.length) : (blk b i).length = 128 := g.hk _ (blk_mem h)
theorem gb_u8 {c : List Int} (h : U8s c) (j : Nat) : 0 ≤ gb c j ∧ gb c j ≤ 255 := by
  by_cases hj : j < c.length
  · exact h _ (List.mem_of_getElem? (gb_some hj))
  · unfold gb; rw [List.getElem?_eq_none (by omega)]; simp
theorem RS.u8 {b : Bls} {x y : List Int} (g : RS b x y) {i : Nat} (h : i < b.length) (j : Nat) : 0 ≤ gb (blk b i) j ∧ gb (blk b i) j ≤ 255 := gb_u8 (g.hu _ (blk_mem h)) j
def liv (b : Bls) (x y : List Int) (a : Int) : Bool := decide (33 ≤ a ∧ a ≤ (b.length : Int) - 1) && (bit x a.toNat && !decide (a ∈ y))
theorem liv_nat {b : Bls} {x y : List Int} {a : Int} (h : liv b x y a = true) : ∃ m : Nat, a = (m : Int) ∧ 33 ≤ m ∧ m < b.length ∧ bit x m = true ∧ (m : Int) ∉ y := by
  unfold liv at h
  simp only [Bool.and_eq_true, decide_eq_true_eq, Bool.not_eq_true', decide_eq_false_iff_not] at h
  obtain ⟨⟨h1, h2⟩, h3, h4⟩ := h
  obtain ⟨m, rfl⟩ := Int.eq_ofNat_of_zero_le (show 0 ≤ a by omega)
  exact ⟨m, rfl, by omega, by omega, by simpa using h3, h4⟩
theorem s_has_eq {l : List Int} {n : Int} (hl : l.length ≤ 1048576) : s_l5Has l n = some (decide (n ∈ l)) := by
  unfold s_l5Has
  refine Ok.eq (Ok.bind (Q := fun r => (r = .inl () ∧ n ∉ l) ∨ (r = .inr true ∧ n ∈ l)) ?_ ?_)
  · refine Ok.loop (fun y => ∃ k : Nat, k ≤ l.length ∧ y = (n, l, ((l.length : Nat) : Int), ((k : Nat) : Int)) ∧ ∀ j (h : j < l.length), j < k → l[j] ≠ n) (fun y => (y.2.2.1 - y.2.2.2).toNat) ⟨0, by omega, rfl, fun j _ h => by omega⟩ ?_
    rintro _ ⟨k, hk, rfl, hn⟩
    unfold s_l5Has_L1
    dsimp only
    refine Ok.ite (fun hc => ?_) fun hc => Ok.mk (.inl ⟨rfl, fun hm => ?_⟩)
    · have hlt : k < l.length := by simpa using hc
      have hg : l[Int.toNat ((k : Nat) : Int)]? = some l[k] := by simp [hlt]
      have e1 := ix64 (i := k) (by omega)
      refine Ok.yes (by simp) (Ok.bind_eq hg (Ok.ite (fun he => Ok.mk (.inr ⟨rfl, ?_⟩)) fun he => Ok.mk ⟨⟨k + 1, by omega, by rw [e1], fun j hj hjk => ?_⟩, ?_⟩))
      · have he' : l[k] = n := by simpa using he
        rw [← he']; exact List.getElem_mem _
      · by_cases hjk' : j = k
        · subst hjk'; intro hh; exact he (by simp [hh])
        · exact hn j hj (by omega)
      · dsimp only; rw [e1]; omega
    · obtain ⟨j, hj, he⟩ := List.getElem_of_mem hm
      have : ¬ k < l.length := by simpa using hc
      exact hn j hj (by omega) he
  · rintro r (⟨rfl, h⟩ | ⟨rfl, h⟩)
    · exact Ok.mk (by simp [h])
    · exact Ok.mk (by simp [h])
theorem contains_eq {l : List Int} {n : Int} (hl : l.length ≤ 1048576) : slices_Contains_int_int l n = some (decide (n ∈ l)) := by
  refine Ok.eq ((contains_ok hl).mono fun r hr => ?_)
  by_cases h : n ∈ l
  · rw [decide_eq_true h]; exact hr.2 h
  · rw [decide_eq_false h]
    cases r with
    | false => rfl
    | true => exact absurd (hr.1 rfl) h
theorem s_live_eq {b : Bls} {x y z : List Int} (g : RS b x y) (a : Int) : s_l5Live b x y z a = some (liv b x y a) := by
  have hn := g.hn; have hx := g.hx
  unfold s_l5Live liv
  rw [s_In_eq, w64 (by omega) (by omega), Option.bind_some]
  by_cases h1 : 33 ≤ a ∧ a ≤ (b.length : Int) - 1
  · obtain ⟨m, rfl⟩ := Int.eq_ofNat_of_zero_le (show 0 ≤ a by omega)
    rw [decide_eq_true h1, if_pos rfl, s_used_eq (by omega) (by omega), Option.bind_some, Int.toNat_natCast]
    cases bit x m with
    | false => rfl
    | true => rw [if_pos rfl, s_has_eq g.hy]; rfl
  · rw [decide_eq_false h1]; rfl
theorem i_isBlockF_eq {b : Bls} {x y z : List Int} (g : RS b x y) (a : Int) : i_Space_isBlock_ffff a b x y z = some (decide (33 ≤ a ∧ a ≤ (b.length : Int) - 1) && bit x a.toNat, b, x, y, z) := by
  have hn := g.hn; have hx := g.hx
  unfold i_Space_isBlock_ffff
  rw [i_within_eq, w64 (by omega) (by omega), Option.bind_some]
  by_cases h1 : 33 ≤ a ∧ a ≤ (b.length : Int) - 1
  · obtain ⟨m, rfl⟩ := Int.eq_ofNat_of_zero_le (show 0 ≤ a by omega)
    rw [decide_eq_true h1, if_pos rfl, i_used_eq (by omega) (by omega), Option.bind_some, Int.toNat_natCast]
    rfl
  · rw [decide_eq_false h1]; rfl
theorem i_hereF_eq {b : Bls} {x y z : List Int} (g : RS b x y) (a : Int) : i_Space_isHere_ffff a b x y z = some (liv b x y a, b, x, y, z) := by
  unfold i_Space_isHere_ffff liv
  rw [i_isBlockF_eq g, Option.bind_some]
  dsimp only
  cases decide (33 ≤ a ∧ a ≤ (b.length : Int) - 1) with
  | false => rfl
  | true =>
    cases bit x a.toNat with
    | false => rfl
    | true => rw [if_pos (show (true && true) = true from rfl), contains_eq g.hy]; rfl
theorem i_used1_eq {b : Bls} {bits y z : List Int} {k : Nat} (h : k ≤ 1048576) (hk : k / 8 < bits.length) : i_Space_used_r (b, bits, y, z) ((k : Nat) : Int) = some (bit bits k) := by
  unfold i_Space_used_r bit
  dsimp only
  rw [dv8 h, md8, if_pos (by simp), if_pos (by simp; omega), Int.toNat_natCast, List.getElem?_eq_getElem hk, Option.bind_some, if_pos (by simp), if_pos (by simp; omega)]
  rfl
theorem i_isBlock1_eq {b : Bls} {x y z : List Int} (g : RS b x y) (a : Int) : i_Space_isBlock_r (b, x, y, z) a = some (decide (33 ≤ a ∧ a ≤ (b.length : Int) - 1) && bit x a.toNat) := by
  have hn := g.hn; have hx := g.hx
  unfold i_Space_isBlock_r
  dsimp only
  rw [i_within_eq, w64 (by omega) (by omega), Option.bind_some]
  by_cases h1 : 33 ≤ a ∧ a ≤ (b.length : Int) - 1
  · obtain ⟨m, rfl⟩ := Int.eq_ofNat_of_zero_le (show 0 ≤ a by omega)
    rw [decide_eq_true h1, if_pos rfl, i_used1_eq (by omega) (by omega), Option.bind_some, Int.toNat_natCast]
    rfl
  · rw [decide_eq_false h1]; rfl
theorem i_here1_eq {b : Bls} {x y z : List Int} (g : RS b x y) (a : Int) : i_Space_isHere_r (b, x, y, z) a = some (liv b x y a) := by
  unfold i_Space_isHere_r liv
  rw [i_isBlock1_eq g, Option.bind_some]
  dsimp only
  cases decide (33 ≤ a ∧ a ≤ (b.length : Int) - 1) with
  | false => rfl
  | true =>
    cases bit x a.toNat with
    | false => rfl
    | true => rw [if_pos (show (true && true) = true from rfl), contains_eq g.hy]; rfl
def rz (c : List Int) (n : Nat) : Bool := (c.drop n).all fun v => decide (v = 0)
theorem s_rest_eq {c : List Int} {n : Nat} (hc : c.length ≤ 1048576) (hn : n ≤ c.length) : s_l7Rest c ((n : Nat) : Int) = some (rz c n) := by
  refine Ok.eq ((s_rest_ok hc hn).mono fun r hr => ?_)
  unfold rz
  cases h : (c.drop n).all fun v => decide (v = 0) with
  | true => rw [hr]; intro v hv; simpa using List.all_eq_true.1 h v hv
  | false =>
    cases r with
    | false => rfl
    | true =>
      have : ((c.drop n).all fun v => decide (v = 0)) = true := List.all_eq_true.2 fun v hv => by simpa using hr.1 rfl v hv
      rw [h] at this; cases this
theorem idx_loop (L : (List Int × (Int × Int)) → Option ((List Int × (Int × Int)) ⊕ (Unit ⊕ Int))) (p : Int → Bool) (l : List Int)
    (h : ∀ k, k < l.length → L (l, ((l.length : Nat) : Int), ((k : Nat) : Int)) = some (if p (gb l k) = true then .inr (.inr ((k : Nat) : Int)) else .inl (l, ((l.length : Nat) : Int), ((k + 1 : Nat) : Int))))
    (h2 : L (l, ((l.length : Nat) : Int), ((l.length : Nat) : Int)) = some (.inr (.inl ()))) :
    ∃ r, loopG L (l, ((l.length : Nat) : Int), 0) = some r ∧ ((r = .inl () ∧ (l.any p) = false) ∨ ∃ k : Nat, r = .inr ((k : Nat) : Int) ∧ (l.any p) = true) := by
  rcases fst_loop L (fun k => (l, ((l.length : Nat) : Int), ((k : Nat) : Int))) (fun k => !(p (gb l k))) (fun k => ((k : Nat) : Int)) () l.length (fun k hk => by
    rw [h k hk]; cases p (gb l k) <;> rfl) h2 with ⟨ha, hl⟩ | ⟨k, hk, hp, _, hl⟩
  · refine ⟨_, hl, .inl ⟨rfl, ?_⟩⟩
    rw [List.any_eq_false]
    intro v hv
    obtain ⟨j, hj, rfl⟩ := List.getElem_of_mem hv
    have := ha j hj
    unfold gb at this
    rw [List.getElem?_eq_getElem hj, Option.getD_some] at this
    simpa using this
  · refine ⟨_, hl, .inr ⟨k, rfl, ?_⟩⟩
    rw [List.any_eq_true]
    refine ⟨_, List.mem_of_getElem? (gb_some hk), ?_⟩
    simpa using hp
theorem any_rz (c : List Int) (n : Nat) : ((c.drop n).any fun v => decide (¬ v = 0)) = !(rz c n) := by
  unfold rz
  induction c.drop n with
  | nil => rfl
  | cons a l ih => rw [List.any_cons, List.all_cons, ih]; by_cases h : a = 0 <;> simp [h]
theorem cf_piece1 {l : List Int} (hl : l.length ≤ 1048576) : slices_ContainsFunc_byte_byte_i_Space_piece_1 l = some (l.any fun v => decide (¬ v = 0)) := by
  unfold slices_ContainsFunc_byte_byte_i_Space_piece_1 slices_IndexFunc_byte_byte_i_Space_piece_1
  obtain ⟨r, hr, h⟩ := idx_loop slices_IndexFunc_byte_byte_i_Space_piece_1_L1 (fun v => decide (¬ v = 0)) l (fun k hk => by
    unfold slices_IndexFunc_byte_byte_i_Space_piece_1_L1 i_Space_piece_1
    dsimp only
    rw [iy (by omega), iy (by omega), Int.toNat_natCast, gb_some hk, Option.bind_some, Option.bind_some, ix64 (by omega)]
    by_cases hz : gb l k = 0 <;> simp [hz]) (by
    unfold slices_IndexFunc_byte_byte_i_Space_piece_1_L1
    dsimp only
    rw [ino (by omega)])
  rw [hr, Option.bind_some]
  rcases h with ⟨rfl, h⟩ | ⟨k, rfl, h⟩
  · rw [h]; rfl
  · rw [h]; dsimp only; rw [Option.bind_some, decide_eq_true (by omega)]
theorem cf_pieces1 {l : List Int} (hl : l.length ≤ 1048576) : slices_ContainsFunc_byte_byte_i_Space_pieces_1 l = some (l.any fun v => decide (¬ v = 0)) := by
  unfold slices_ContainsFunc_byte_byte_i_Space_pieces_1 slices_IndexFunc_byte_byte_i_Space_pieces_1
  obtain ⟨r, hr, h⟩ := idx_loop slices_IndexFunc_byte_byte_i_Space_pieces_1_L1 (fun v => decide (¬ v = 0)) l (fun k hk => by
    unfold slices_IndexFunc_byte_byte_i_Space_pieces_1_L1 i_Space_pieces_1
    dsimp only
    rw [iy (by omega), iy (by omega), Int.toNat_natCast, gb_some hk, Option.bind_some, Option.bind_some, ix64 (by omega)]
    by_cases hz : gb l k = 0 <;> simp [hz]) (by
    unfold slices_IndexFunc_byte_byte_i_Space_pieces_1_L1
    dsimp only
    rw [ino (by omega)])
  rw [hr, Option.bind_some]
  rcases h with ⟨rfl, h⟩ | ⟨k, rfl, h⟩
  · rw [h]; rfl
  · rw [h]; dsimp only; rw [Option.bind_some, decide_eq_true (by omega)]
def num (c : List Int) (i : Nat) : Int := gb c i * 256 + gb c (i + 1)
theorem or256 {a b : Int} (ha : 0 ≤ a ∧ a ≤ 255) (hb : 0 ≤ b ∧ b ≤ 255) : (((BitVec.ofInt (IntKind.bits .i64) (a * 256) ||| BitVec.ofInt (IntKind.bits .i64) b).toNat : Nat) : Int) = a * 256 + b := by
  obtain ⟨n, rfl⟩ := Int.eq_ofNat_of_zero_le ha.1
  obtain ⟨m, rfl⟩ := Int.eq_ofNat_of_zero_le hb.1
  have h1 : ((n : Nat) : Int) * 256 = ((256 * n : Nat) : Int) := by omega
  rw [h1, BitVec.ofInt_natCast, BitVec.ofInt_natCast, BitVec.toNat_or, BitVec.toNat_ofNat, BitVec.toNat_ofNat, show IntKind.bits .i64 = 64 from rfl, Nat.mod_eq_of_lt (by omega), Nat.mod_eq_of_lt (by omega)]
  have h2 := Nat.two_pow_add_eq_or_of_lt (i := 8) (b := m) (by omega) n
  rw [show (2 : Nat) ^ 8 = 256 from rfl] at h2
  rw [← h2]; omega
theorem numberAt_eq {c : List Int} (hu : U8s c) {i : Nat} (h : i + 1 < c.length) (hi : i ≤ 1048576) : i_numberAt c ((i : Nat) : Int) = some (num c i) := by
  have u1 := gb_u8 hu i; have u2 := gb_u8 hu (i + 1)
  unfold i_numberAt
  rw [iy (by omega), Int.toNat_natCast, gb_some (by omega), Option.bind_some, iy (by omega), ix64 hi, iy (by omega), Int.toNat_natCast, gb_some h, Option.bind_some,
    show (2 : Int) ^ (min (Int.toNat 8) (IntKind.bits .i64)) = 256 from rfl, w64 (n := gb c i) (by omega) (by omega), w64 (n := gb c i * 256) (by omega) (by omega), w64 (n := gb c (i + 1)) (by omega) (by omega), or256 u1 u2, w64 (by omega) (by omega)]
  rfl
abbrev Pc := Int × (Int × List UInt8)
def pcTx (b : Bls) (a : Int) : List UInt8 := textOf (((blk b a.toNat).drop 3).take (gb (blk b a.toNat) 2).toNat)
def pcOf (b : Bls) (a : Int) : Pc := (a, gb (blk b a.toNat) 1, pcTx b a)
def pcG (c : List Int) : Bool := decide (gb c 0 = 83) && (decide (1 ≤ gb c 1 ∧ gb c 1 ≤ 250) && (decide (1 ≤ gb c 2 ∧ gb c 2 ≤ 40) && rz c (3 + (gb c 2).toNat)))
def pcB (b : Bls) (x y : List Int) (a : Int) : Bool := liv b x y a && pcG (blk b a.toNat)
theorem i_piece_eq {b : Bls} {x y z : List Int} (g : RS b x y) (a : Int) : i_Space_piece (b, x, y, z) a = some (if pcB b x y a = true then (true, pcOf b a) else (false, 0, 0, [])) := by
  unfold i_Space_piece pcB
  rw [i_here1_eq g, Option.bind_some]
  cases hl : liv b x y a with
  | false => rfl
  | true =>
    obtain ⟨m, rfl, h33, hm, _, _⟩ := liv_nat hl
    have hc := g.len hm
    have u1 := g.u8 hm 1; have u2 := g.u8 hm 2
    unfold pcG pcOf pcTx
    rw [Int.toNat_natCast]
    rw [if_neg (by simp)]
    dsimp only
    generalize hcc : blk b m = c at *
    have hbm : b[m]? = some c := by rw [blk_some hm, hcc]
    rw [iy (by omega), hbm, Option.bind_some, iy (by omega), show Int.toNat 0 = 0 from rfl, gb_some (by omega), Option.bind_some, Option.bind_some]
    dsimp only
    by_cases h0 : gb c 0 = 83
    · rw [decide_eq_true h0, if_neg (by simp; omega), iy (by omega), Int.toNat_natCast, hbm, Option.bind_some, iy (by omega), show Int.toNat 1 = 1 from rfl, gb_some (by omega), Option.bind_some, iy (by omega), show Int.toNat 2 = 2 from rfl, gb_some (by omega), Option.bind_some,
        w64 (n := gb c 1) (by omega) (by omega), w64 (n := gb c 2) (by omega) (by omega), i_within_eq, Option.bind_some]
      by_cases h1 : 1 ≤ gb c 1 ∧ gb c 1 ≤ 250
      · rw [decide_eq_true h1, if_neg (by simp), i_within_eq, Option.bind_some]
        by_cases h2 : 1 ≤ gb c 2 ∧ gb c 2 ≤ 40
        · obtain ⟨k, hk⟩ := Int.eq_ofNat_of_zero_le u2.1
          rw [hk] at h2 ⊢
          rw [decide_eq_true h2, if_neg (by simp), show (3 : Int) + ((k : Nat) : Int) = ((3 + k : Nat) : Int) by omega, w64 (n := ((3 + k : Nat) : Int)) (by omega) (by omega), iy (by omega), iy (by omega), iy (by omega), iy (by omega)]
          simp only [Int.toNat_natCast]
          rw [List.take_of_length_le (show (List.drop (3 + k) c).length ≤ c.length - (3 + k) by rw [List.length_drop]; omega), cf_piece1 (by rw [List.length_drop]; omega), any_rz, Option.bind_some, Option.bind_some]
          dsimp only
          cases hr : rz c (3 + k) with
          | false => rfl
          | true =>
            rw [if_neg (by simp), iy (by omega), show (3 : Int) + ((k : Nat) : Int) = ((3 + k : Nat) : Int) by omega, w64 (n := ((3 + k : Nat) : Int)) (by omega) (by omega), iy (by omega), iy (by omega), iy (by omega), Int.toNat_natCast,
              show 3 + k - Int.toNat 3 = k by omega]
            rfl
        · rw [decide_eq_false h2]; rfl
      · rw [decide_eq_false h1]; rfl
    · rw [decide_eq_false h0, if_pos (by simpa using h0)]; rfl
end Go.V.G

set_option linter.unusedVariables false
set_option linter.unusedSimpArgs false
set_option maxRecDepth 100000
namespace Go.V.G
open Go.V
def pcs (b : Bls) (x y : List Int) (c : List Int) (n : Nat) : Nat → List Int → Nat → Option (List Int)
  | 0, out, _ => some out
  | f + 1, out, k => if (pcB b x y (num c (2 + 2 * k)) && (decide (k + 1 < n → gb (blk b (num c (2 + 2 * k)).toNat) 2 = 40) && !decide (num c (2 + 2 * k) ∈ out))) = true then pcs b x y c n f (out ++ [num c (2 + 2 * k)]) (k + 1) else none
theorem wr256 {a b : Int} (ha : 0 ≤ a ∧ a ≤ 255) (hb : 0 ≤ b ∧ b ≤ 255) : IntKind.wrap .i64 ((IntKind.wrap .i64 ((IntKind.wrap .i64 a) * 256)) + (IntKind.wrap .i64 b)) = a * 256 + b := by
  rw [w64 (n := a) (by omega) (by omega), w64 (n := a * 256) (by omega) (by omega), w64 (n := b) (by omega) (by omega), w64 (by omega) (by omega)]
theorem wr22 {k : Nat} (h : k ≤ 1048576) : IntKind.wrap .i64 (2 + (IntKind.wrap .i64 (2 * ((k : Nat) : Int)))) = ((2 + 2 * k : Nat) : Int) := by
  rw [w64 (n := 2 * ((k : Nat) : Int)) (by omega) (by omega), w64 (by omega) (by omega)]; omega
theorem wr23 {k : Nat} (h : k ≤ 1048576) : IntKind.wrap .i64 (3 + (IntKind.wrap .i64 (2 * ((k : Nat) : Int)))) = ((3 + 2 * k : Nat) : Int) := by
  rw [w64 (n := 2 * ((k : Nat) : Int)) (by omega) (by omega), w64 (by omega) (by omega)]; omega
theorem pieces_s_step {b : Bls} {x y z c out : List Int} {n k : Nat} (g : RS b x y) (hc : c.length = 128) (hu : U8s c) (hn : n ≤ 3) (hk : k < n) (ho : out.length ≤ 3) :
    s_l7Pieces_L1 (c, ((n : Nat) : Int), out, ((k : Nat) : Int), b, x, y, z) =
      some (if (pcB b x y (num c (2 + 2 * k)) && (decide (k + 1 < n → gb (blk b (num c (2 + 2 * k)).toNat) 2 = 40) && !decide (num c (2 + 2 * k) ∈ out))) = true then .inl (c, ((n : Nat) : Int), out ++ [num c (2 + 2 * k)], ((k + 1 : Nat) : Int), b, x, y, z) else .inr (.inr false)) := by
  have e1 := wr22 (k := k) (by omega)
  have e2 := wr23 (k := k) (by omega)
  have u1 := gb_u8 hu (2 + 2 * k); have u2 := gb_u8 hu (3 + 2 * k)
  have ea := wr256 u1 u2
  have en : num c (2 + 2 * k) = gb c (2 + 2 * k) * 256 + gb c (3 + 2 * k) := by unfold num; rw [show 2 + 2 * k + 1 = 3 + 2 * k by omega]
  unfold s_l7Pieces_L1 pcB
  dsimp only
  rw [iy (by omega), e1, e2, iy (by omega), Int.toNat_natCast, gb_some (by omega), Option.bind_some, iy (by omega), Int.toNat_natCast, gb_some (by omega), Option.bind_some, ea, ← en]
  have hroom : ∀ v : Int, roomFor (List.length out + List.length ([v] : List Int)) 8 = true := fun v => by simp only [roomFor, decide_eq_true_eq, List.length_singleton]; omega
  generalize num c (2 + 2 * k) = a
  rw [s_live_eq g, Option.bind_some]
  cases hl : liv b x y a with
  | false => rfl
  | true =>
    obtain ⟨m, rfl, h33, hm, _, _⟩ := liv_nat hl
    have hc2 := g.len hm
    have v1 := g.u8 hm 1; have v2 := g.u8 hm 2
    rw [if_neg (by simp), s_has_eq (by omega), Option.bind_some, Option.bind_some]
    dsimp only
    by_cases hmem : ((m : Nat) : Int) ∈ out
    · rw [decide_eq_true hmem, if_pos rfl, if_neg (by simp)]
    rw [decide_eq_false hmem, if_neg (by simp), iy (by omega), Int.toNat_natCast, blk_some hm, Option.bind_some]
    unfold pcG
    generalize blk b m = d at *
    have w2 : IntKind.wrap .i64 (gb d 2) = gb d 2 := w64 (by omega) (by omega)
    rw [iy (by omega), show Int.toNat 2 = 2 from rfl, gb_some (by omega), Option.bind_some, iy (by omega), show Int.toNat 0 = 0 from rfl, gb_some (by omega), Option.bind_some]
    rw [w2]
    by_cases h0 : gb d 0 = 83
    · rw [decide_eq_true h0, if_neg (by simp; omega), iy (by omega), show Int.toNat 1 = 1 from rfl, gb_some (by omega), Option.bind_some, w64 (n := gb d 1) (by omega) (by omega), s_In_eq, Option.bind_some]
      by_cases h1 : 1 ≤ gb d 1 ∧ gb d 1 ≤ 250
      · rw [decide_eq_true h1, if_neg (by simp), s_In_eq, Option.bind_some]
        by_cases h2 : 1 ≤ gb d 2 ∧ gb d 2 ≤ 40
        · obtain ⟨j, hj⟩ := Int.eq_ofNat_of_zero_le v2.1
          rw [hj] at h2 ⊢
          rw [decide_eq_true h2, if_neg (by simp), show (3 : Int) + ((j : Nat) : Int) = ((3 + j : Nat) : Int) by omega, w64 (n := ((3 + j : Nat) : Int)) (by omega) (by omega), s_rest_eq (by omega) (by omega), Int.toNat_natCast, w64 (n := ((n : Nat) : Int) - 1) (by omega) (by omega), Option.bind_some]
          have hr : ∀ q : Bool, (if q = true then some (Sum.inr (Sum.inr false)) else
              if roomFor (out.length + [((m : Nat) : Int)].length) 8 = true then some (Sum.inl (c, ((n : Nat) : Int), out ++ [((m : Nat) : Int)], IntKind.wrap .i64 (((k : Nat) : Int) + 1), b, x, y, z)) else none :
              Option ((List Int × (Int × (List Int × (Int × (List (List Int) × (List Int × (List Int × List Int))))))) ⊕ ((List Int × (Int × List Int)) ⊕ Bool))) =
              some (if (!q) = true then .inl (c, ((n : Nat) : Int), out ++ [((m : Nat) : Int)], ((k + 1 : Nat) : Int), b, x, y, z) else .inr (.inr false)) := fun q => by
            cases q with
            | true => rfl
            | false => rw [if_neg (by simp), if_pos (hroom _), ix64 (by omega)]; rfl
          by_cases h4 : k + 1 < n
          · rw [iy (by omega)]
            by_cases h5 : ((j : Nat) : Int) = 40
            · rw [ino (by omega), Option.bind_some]
              dsimp only
              rw [hr]
              have : decide (k + 1 < n → ((j : Nat) : Int) = 40) = true := decide_eq_true fun _ => h5
              rw [this]
              cases rz d (3 + j) <;> rfl
            · rw [iy h5, Option.bind_some]
              dsimp only
              have : decide (k + 1 < n → ((j : Nat) : Int) = 40) = false := decide_eq_false fun hh => h5 (hh h4)
              rw [this, if_pos rfl]
              cases rz d (3 + j) <;> rfl
          · rw [ino (by omega), Option.bind_some]
            dsimp only
            rw [hr]
            have : decide (k + 1 < n → ((j : Nat) : Int) = 40) = true := decide_eq_true fun hh => absurd hh h4
            rw [this]
            cases rz d (3 + j) <;> rfl
        · rw [decide_eq_false h2]; rfl
      · rw [decide_eq_false h1]; rfl
    · rw [decide_eq_false h0, if_pos (by simpa using h0)]; rfl
theorem pieces_s_loop {b : Bls} {x y z c : List Int} {n : Nat} (g : RS b x y) (hc : c.length = 128) (hu : U8s c) (hn : n ≤ 3) : ∀ (f k : Nat) (out : List Int), k + f = n → out.length ≤ k →
    loopG s_l7Pieces_L1 (c, ((n : Nat) : Int), out, ((k : Nat) : Int), b, x, y, z) = some (match pcs b x y c n f out k with | some l => .inl (c, ((n : Nat) : Int), l) | none => .inr false)
  | 0, k, out, hk, ho => by
    rw [loopG_eq]
    unfold s_l7Pieces_L1 pcs
    dsimp only
    rw [ino (by omega)]
  | f + 1, k, out, hk, ho => by
    have hs := pieces_s_step (z := z) (k := k) (out := out) g hc hu hn (by omega) (by omega)
    unfold pcs
    by_cases h : (pcB b x y (num c (2 + 2 * k)) && (decide (k + 1 < n → gb (blk b (num c (2 + 2 * k)).toNat) 2 = 40) && !decide (num c (2 + 2 * k) ∈ out))) = true
    · rw [if_pos h] at hs
      rw [loopG_eq, hs, if_pos h]
      exact pieces_s_loop g hc hu hn f (k + 1) _ (by omega) (by simp; omega)
    · rw [if_neg h] at hs
      rw [loopG_eq, hs, if_neg h]
theorem cf_pieces2 {l : List Pc} (hl : l.length ≤ 1048576) (a s : Int) (t : List UInt8) :
    slices_ContainsFunc_loop_example_g00083_impl_piece_loop_example_g00083_impl_piece_i_Space_pieces_2 l a s t = some (decide (a ∈ l.map (·.1)), a, s, t) := by
  unfold slices_ContainsFunc_loop_example_g00083_impl_piece_loop_example_g00083_impl_piece_i_Space_pieces_2 slices_IndexFunc_loop_example_g00083_impl_piece_loop_example_g00083_impl_piece_i_Space_pieces_2
  rcases fst_loop slices_IndexFunc_loop_example_g00083_impl_piece_loop_example_g00083_impl_piece_i_Space_pieces_2_L1 (fun k => (l, ((l.length : Nat) : Int), ((k : Nat) : Int), a, s, t)) (fun k => !(decide ((l[k]?.getD (0, 0, [])).1 = a))) (fun k => (((k : Nat) : Int), a, s, t)) (a, s, t) l.length (fun k hk => by
    unfold slices_IndexFunc_loop_example_g00083_impl_piece_loop_example_g00083_impl_piece_i_Space_pieces_2_L1 i_Space_pieces_2
    dsimp only
    rw [iy (by omega), iy (by omega), Int.toNat_natCast, List.getElem?_eq_getElem hk, Option.bind_some, Option.bind_some, ix64 (by omega), Option.getD_some]
    by_cases hz : l[k].1 = a <;> simp [hz]) (by
    unfold slices_IndexFunc_loop_example_g00083_impl_piece_loop_example_g00083_impl_piece_i_Space_pieces_2_L1
    dsimp only
    rw [ino (by omega)]) with ⟨h1, h2⟩ | ⟨k, hk, h1, _, h2⟩
  · have : a ∉ l.map (·.1) := by
      intro hm
      obtain ⟨p, hp, he⟩ := List.mem_map.1 hm
      obtain ⟨j, hj, rfl⟩ := List.getElem_of_mem hp
      have := h1 j hj
      rw [List.getElem?_eq_getElem hj, Option.getD_some] at this
      simp [he] at this
    rw [show (0 : Int) = ((0 : Nat) : Int) from rfl, h2, Option.bind_some, decide_eq_false this]
    rfl
  · have : a ∈ l.map (·.1) := by
      rw [List.getElem?_eq_getElem hk, Option.getD_some] at h1
      refine List.mem_map.2 ⟨l[k], List.getElem_mem _, ?_⟩
      simpa using h1
    rw [show (0 : Int) = ((0 : Nat) : Int) from rfl, h2, Option.bind_some, decide_eq_true this]
    dsimp only
    rw [Option.bind_some]
    dsimp only
    rw [decide_eq_true (by omega)]
theorem tx_len {b : Bls} {x y : List Int} (g : RS b x y) {m : Nat} (hm : m < b.length) (h : gb (blk b m) 2 ≤ 40) : ((List.length (pcTx b ((m : Nat) : Int)) : Nat) : Int) = gb (blk b m) 2 := by
  have hc := g.len hm
  have u2 := g.u8 hm 2
  unfold pcTx textOf
  rw [Int.toNat_natCast, List.length_map, List.length_take, List.length_drop]
  omega
theorem pieces_i_step {b : Bls} {x y z c out : List Int} {n k : Nat} (g : RS b x y) (hc : c.length = 128) (hu : U8s c) (hn : n ≤ 3) (hk : k < n) (ho : out.length ≤ 3) :
    i_Space_pieces_L1 ((b, x, y, z), c, ((n : Nat) : Int), out.map (pcOf b), ((n : Nat) : Int), ((k : Nat) : Int)) =
      some (if (pcB b x y (num c (2 + 2 * k)) && (decide (k + 1 < n → gb (blk b (num c (2 + 2 * k)).toNat) 2 = 40) && !decide (num c (2 + 2 * k) ∈ out))) = true then .inl ((b, x, y, z), c, ((n : Nat) : Int), (out ++ [num c (2 + 2 * k)]).map (pcOf b), ((n : Nat) : Int), ((k + 1 : Nat) : Int)) else .inr (.inr false)) := by
  have e1 := wr22 (k := k) (by omega)
  unfold i_Space_pieces_L1
  dsimp only
  rw [iy (by omega), e1, numberAt_eq hu (by omega) (by omega), Option.bind_some, i_piece_eq g]
  generalize num c (2 + 2 * k) = a
  rw [Option.bind_some, ix64 (by omega)]
  cases hp : pcB b x y a with
  | false => rfl
  | true =>
    have hl : liv b x y a = true := by unfold pcB at hp; simp only [Bool.and_eq_true] at hp; exact hp.1
    obtain ⟨m, rfl, h33, hm, _, _⟩ := liv_nat hl
    have h40 : gb (blk b m) 2 ≤ 40 := by
      unfold pcB pcG at hp
      simp only [Bool.and_eq_true, decide_eq_true_eq, Int.toNat_natCast] at hp
      exact hp.2.2.2.1.2
    have ht := tx_len g hm h40
    have hmap : ((out.map (pcOf b)).map (·.1)) = out := by rw [List.map_map]; exact List.map_id out
    have hroom : ∀ v : Pc, roomFor (List.length (out.map (pcOf b)) + List.length ([v] : List Pc)) 32 = true := fun v => by simp only [roomFor, decide_eq_true_eq, List.length_singleton, List.length_map]; omega
    rw [if_pos rfl]
    dsimp only
    rw [if_neg (by simp), cf_pieces2 (by rw [List.length_map]; omega), hmap, Option.bind_some]
    dsimp only
    rw [show (pcOf b ((m : Nat) : Int)).1 = ((m : Nat) : Int) from rfl, show (pcOf b ((m : Nat) : Int)).2.2 = pcTx b ((m : Nat) : Int) from rfl, Int.toNat_natCast]
    have hr : ∀ q : Bool, (if q = true then some (Sum.inr (Sum.inr false)) else
        if roomFor ((out.map (pcOf b)).length + [((((m : Nat) : Int)), (pcOf b ((m : Nat) : Int)).2.1, pcTx b ((m : Nat) : Int))].length) 32 = true then some (Sum.inl ((b, x, y, z), c, ((n : Nat) : Int), out.map (pcOf b) ++ [((((m : Nat) : Int)), (pcOf b ((m : Nat) : Int)).2.1, pcTx b ((m : Nat) : Int))], ((n : Nat) : Int), IntKind.wrap .i64 (((k : Nat) : Int) + 1))) else none :
        Option (((List (List Int) × (List Int × (List Int × List Int))) × (List Int × (Int × (List (Int × (Int × List UInt8)) × (Int × Int))))) ⊕ (List (Int × (Int × List UInt8)) ⊕ Bool))) =
        some (if (!q) = true then .inl ((b, x, y, z), c, ((n : Nat) : Int), (out ++ [((m : Nat) : Int)]).map (pcOf b), ((n : Nat) : Int), ((k + 1 : Nat) : Int)) else .inr (.inr false)) := fun q => by
      cases q with
      | true => rfl
      | false =>
        rw [if_neg (by simp), if_pos (hroom _), List.map_append, ix64 (by omega)]
        rfl
    by_cases h4 : k + 1 < n
    · rw [iy (by omega), ht]
      by_cases h5 : gb (blk b m) 2 = 40
      · rw [ino (by omega), Option.bind_some]
        dsimp only
        rw [hr]
        have : decide (k + 1 < n → gb (blk b m) 2 = 40) = true := decide_eq_true fun _ => h5
        rw [this]; rfl
      · rw [iy (by omega), Option.bind_some]
        dsimp only
        have : decide (k + 1 < n → gb (blk b m) 2 = 40) = false := decide_eq_false fun hh => h5 (hh h4)
        rw [this]; rfl
    · rw [ino (by omega), Option.bind_some]
      dsimp only
      rw [hr]
      have : decide (k + 1 < n → gb (blk b m) 2 = 40) = true := decide_eq_true fun hh => absurd hh h4
      rw [this]; rfl
theorem pieces_i_loop {b : Bls} {x y z c : List Int} {n : Nat} (g : RS b x y) (hc : c.length = 128) (hu : U8s c) (hn : n ≤ 3) : ∀ (f k : Nat) (out : List Int), k + f = n → out.length ≤ k →
    loopG i_Space_pieces_L1 ((b, x, y, z), c, ((n : Nat) : Int), out.map (pcOf b), ((n : Nat) : Int), ((k : Nat) : Int)) = some (match pcs b x y c n f out k with | some l => .inl (l.map (pcOf b)) | none => .inr false)
  | 0, k, out, hk, ho => by
    rw [loopG_eq]
    unfold i_Space_pieces_L1 pcs
    dsimp only
    rw [ino (by omega)]
  | f + 1, k, out, hk, ho => by
    have hs := pieces_i_step (z := z) (k := k) (out := out) g hc hu hn (by omega) (by omega)
    unfold pcs
    by_cases h : (pcB b x y (num c (2 + 2 * k)) && (decide (k + 1 < n → gb (blk b (num c (2 + 2 * k)).toNat) 2 = 40) && !decide (num c (2 + 2 * k) ∈ out))) = true
    · rw [if_pos h] at hs
      rw [loopG_eq, hs, if_pos h]
      exact pieces_i_loop g hc hu hn f (k + 1) _ (by omega) (by simp; omega)
    · rw [if_neg h] at hs
      rw [loopG_eq, hs, if_neg h]
def ptx (b : Bls) (x y : List Int) (root : Int) : Option (List Int) :=
  if (liv b x y root && (decide (gb (blk b root.toNat) 0 = 84) && (decide (gb (blk b root.toNat) 1 ≤ 3) && rz (blk b root.toNat) (2 + 2 * (gb (blk b root.toNat) 1).toNat)))) = true then
    pcs b x y (blk b root.toNat) (gb (blk b root.toNat) 1).toNat (gb (blk b root.toNat) 1).toNat [] 0 else none
theorem s_pieces_eq {b : Bls} {x y z : List Int} (g : RS b x y) (root : Int) : ∃ l' : List Int, s_l7Pieces b x y z root = some (match ptx b x y root with | some l => (l, true) | none => (l', false)) := by
  unfold s_l7Pieces ptx
  rw [s_live_eq g, Option.bind_some]
  cases hl : liv b x y root with
  | false => exact ⟨[], rfl⟩
  | true =>
    obtain ⟨m, rfl, h33, hm, _, _⟩ := liv_nat hl
    have hc := g.len hm
    have hu := g.hu _ (blk_mem hm)
    rw [Int.toNat_natCast, if_neg (by simp), Bool.true_and]
    have hbm := blk_some hm
    generalize blk b m = c at *
    have u1 := gb_u8 hu 1
    rw [iy (by omega), hbm, Option.bind_some, iy (by omega), show Int.toNat 0 = 0 from rfl, gb_some (by omega), Option.bind_some]
    by_cases h0 : gb c 0 = 84
    · rw [decide_eq_true h0, if_neg (by simp; omega), iy (by omega), Option.bind_some, iy (by omega), show Int.toNat 1 = 1 from rfl, gb_some (by omega), Option.bind_some, Option.bind_some]
      dsimp only
      rw [Int.toNat_natCast, hbm, Bool.true_and]
      by_cases h3 : gb c 1 ≤ 3
      · obtain ⟨n, hn⟩ := Int.eq_ofNat_of_zero_le u1.1
        rw [ino (by omega), iy (by omega), Option.bind_some, iy (by omega), gb_some (by omega), Option.bind_some, decide_eq_true h3, Bool.true_and, hn, w64 (by omega) (by omega), Int.toNat_natCast]
        have hL : loopG s_l7Pieces_L1 (c, ((n : Nat) : Int), [], 0, b, x, y, z) = _ := pieces_s_loop g hc hu (by omega) n 0 [] (by omega) (by simp)
        rw [hL, Option.bind_some]
        have e1 := wr22 (k := n) (by omega)
        cases hp : pcs b x y c n n [] 0 with
        | none => exact ⟨[], by dsimp only; cases rz c (2 + 2 * n) <;> rfl⟩
        | some l =>
          refine ⟨l, ?_⟩
          dsimp only
          rw [e1, s_rest_eq (by omega) (by omega), Option.bind_some]
          cases rz c (2 + 2 * n) <;> rfl
      · exact ⟨[], by rw [iy (by omega), decide_eq_false h3]; rfl⟩
    · rw [decide_eq_false h0, if_pos (by simpa using h0)]; exact ⟨[], rfl⟩
theorem i_pieces_eq {b : Bls} {x y z : List Int} (g : RS b x y) (root : Int) : i_Space_pieces (b, x, y, z) root = some (match ptx b x y root with | some l => (l.map (pcOf b), true) | none => ([], false)) := by
  unfold i_Space_pieces ptx
  rw [i_here1_eq g, Option.bind_some]
  cases hl : liv b x y root with
  | false => rfl
  | true =>
    obtain ⟨m, rfl, h33, hm, _, _⟩ := liv_nat hl
    have hc := g.len hm
    have hu := g.hu _ (blk_mem hm)
    rw [Int.toNat_natCast, if_neg (by simp), Bool.true_and]
    have hbm := blk_some hm
    dsimp only
    generalize blk b m = c at *
    have u1 := gb_u8 hu 1
    rw [iy (by omega), hbm, Option.bind_some, iy (by omega), show Int.toNat 0 = 0 from rfl, gb_some (by omega), Option.bind_some, Option.bind_some]
    dsimp only
    by_cases h0 : gb c 0 = 84
    · obtain ⟨n, hn⟩ := Int.eq_ofNat_of_zero_le u1.1
      rw [decide_eq_true h0, if_neg (by simp; omega), iy (by omega), Int.toNat_natCast, hbm, Option.bind_some, iy (by omega), show Int.toNat 1 = 1 from rfl, gb_some (by omega), Option.bind_some, Bool.true_and, hn, w64 (n := ((n : Nat) : Int)) (by omega) (by omega)]
      have e1 := wr22 (k := n) (by omega)
      by_cases h3 : ((n : Nat) : Int) ≤ 3
      · rw [ino (by omega), e1, iy (by omega), iy (by omega), iy (by omega), iy (by omega), decide_eq_true h3, Bool.true_and]
        simp only [Int.toNat_natCast]
        rw [List.take_of_length_le (show (List.drop (2 + 2 * n) c).length ≤ c.length - (2 + 2 * n) by rw [List.length_drop]; omega), cf_pieces1 (by rw [List.length_drop]; omega), any_rz, Option.bind_some, Option.bind_some]
        dsimp only
        cases hr : rz c (2 + 2 * n) with
        | false => rfl
        | true =>
          have hL : loopG i_Space_pieces_L1 ((b, x, y, z), c, ((n : Nat) : Int), [], ((n : Nat) : Int), 0) = _ := pieces_i_loop g hc hu (by omega) n 0 [] (by omega) (by simp)
          rw [if_neg (by simp), if_pos rfl, hL, Option.bind_some]
          cases pcs b x y c n n [] 0 <;> rfl
      · rw [iy (by omega), decide_eq_false h3]; rfl
    · rw [decide_eq_false h0, if_pos (by simpa using h0)]; rfl
end Go.V.G

set_option linter.unusedVariables false
set_option linter.unusedSimpArgs false
set_option maxRecDepth 100000
namespace Go.V.G
open Go.V
noncomputable def pt (z : List Int) (n : Int) : List Int := (s_l5Put z n).getD []
theorem pt_eq {z : List Int} (hz : z.length ≤ 1048576) (hr : Ris z) (n : Int) : s_l5Put z n = some (pt z n) ∧ i_insert z n = some (pt z n) ∧ (pt z n).length ≤ z.length + 1 ∧ Ris (pt z n) ∧ ∀ v, v ∈ pt z n ↔ v ∈ z ∨ v = n := by
  obtain ⟨z', h1, h2, h3, h4, h5⟩ := put_both3 hz hr n
  have e : pt z n = z' := by unfold pt; rw [h1]; rfl
  rw [e]; exact ⟨h1, h2, h3, h4, h5⟩
def padB (d : List Int) : List Int := d ++ List.replicate (128 - d.length) 0
theorem padB_len {d : List Int} (h : d.length ≤ 128) : (padB d).length = 128 := by unfold padB; simp; omega
theorem padB_id {d : List Int} (h : d.length = 128) : padB d = d := by unfold padB; rw [h]; simp
theorem i_padded_eq {d : List Int} (h : d.length ≤ 128) : i_padded d 128 = some (padB d) := by
  unfold i_padded padB
  rw [w64 (by omega) (by omega), iy (by omega), show Int.toNat ((128 : Int) - ((d.length : Nat) : Int)) = 128 - d.length by omega, if_pos (by simp only [roomFor, decide_eq_true_eq, List.length_replicate]; omega)]
theorem s_lay_eq {b : Bls} {x y z d : List Int} {m : Nat} (hd : d.length ≤ 128) (hm : m < b.length) (hz : z.length ≤ 1048576) (hr : Ris z) :
    s_l5Lay_oooo ((m : Nat) : Int) d b x y z = some (b.set m (padB d), x, y, pt z ((m : Nat) : Int)) := by
  obtain ⟨h1, _⟩ := pt_eq hz hr ((m : Nat) : Int)
  unfold s_l5Lay_oooo padB
  rw [iy (by omega), iy (by omega), if_pos (by simp [roomFor]), iy (by omega), iy (by omega), Nat.zero_add, Int.toNat_natCast, blk_some hm, Option.bind_some, Option.bind_some, h1, Option.bind_some,
    show Int.toNat 128 = 128 from rfl, List.length_replicate, List.take_of_length_le hd, List.drop_replicate]
theorem i_lay_eq {b : Bls} {x y z d : List Int} {m : Nat} (hd : d.length = 128) (hm : m < b.length) (hz : z.length ≤ 1048576) (hr : Ris z) :
    i_Space_lay_oooo ((m : Nat) : Int) d b x y z = some (b.set m d, x, y, pt z ((m : Nat) : Int)) := by
  obtain ⟨_, h1, _⟩ := pt_eq hz hr ((m : Nat) : Int)
  unfold i_Space_lay_oooo
  rw [clone_any (by omega), Option.bind_some, iy (by omega), iy (by omega), Nat.zero_add, Int.toNat_natCast, blk_some hm, Option.bind_some, Option.bind_some, h1]; rfl
theorem bytesOf_len2 (s : List UInt8) : (bytesOf s).length = s.length := by simp [bytesOf]
theorem i_layPiece_eq {b : Bls} {x y z : List Int} {s : Int} {t : List UInt8} {m : Nat} (ht : t.length ≤ 40) (hm : m < b.length) (hz : z.length ≤ 1048576) (hr : Ris z) :
    i_Space_layPiece_oooo ((m : Nat) : Int) s t b x y z = some (b.set m (padB ([83, IntKind.wrap .u8 s, ((t.length : Nat) : Int)] ++ bytesOf t)), x, y, pt z ((m : Nat) : Int)) := by
  have hl : ([83, IntKind.wrap .u8 s, ((t.length : Nat) : Int)] ++ bytesOf t).length ≤ 128 := by
    simp only [List.length_append, List.length_cons, List.length_nil, bytesOf_len2]; omega
  unfold i_Space_layPiece_oooo
  rw [if_pos (by simp only [roomFor, decide_eq_true_eq, List.length_cons, List.length_nil, bytesOf_len2]; omega), wub (r := ((t.length : Nat) : Int)) (by omega) (by omega), i_padded_eq hl, Option.bind_some, i_lay_eq (padB_len hl) hm hz hr]
  rfl
theorem bytes_text {l : List Int} (h : U8s l) : bytesOf (textOf l) = l := by
  unfold textOf bytesOf
  rw [List.map_map]
  conv => rhs; rw [← List.map_id l]
  refine List.map_congr_left fun v hv => ?_
  obtain ⟨h0, h1⟩ := h v hv
  obtain ⟨n, rfl⟩ := Int.eq_ofNat_of_zero_le h0
  simp only [Function.comp, Int.toNat_natCast, id]
  rw [UInt8.toNat_ofNat_of_lt' (by show n < 256; omega)]
theorem piece_form {c : List Int} (hc : c.length = 128) (hu : U8s c) (hg : pcG c = true) :
    c = padB ([83, gb c 1, gb c 2] ++ bytesOf (textOf ((c.drop 3).take (gb c 2).toNat))) := by
  unfold pcG at hg
  simp only [Bool.and_eq_true, decide_eq_true_eq] at hg
  obtain ⟨h0, h1, h2, hr⟩ := hg
  obtain ⟨n, hn⟩ := Int.eq_ofNat_of_zero_le (show 0 ≤ gb c 2 by omega)
  rw [hn] at h2 hr ⊢
  rw [Int.toNat_natCast] at hr ⊢
  have hu2 : U8s ((c.drop 3).take n) := fun v hv => hu v (List.mem_of_mem_drop (List.mem_of_mem_take hv))
  rw [bytes_text hu2]
  have h3 : c.take 3 = [83, gb c 1, ((n : Nat) : Int)] := by
    match c, hc with
    | a0 :: a1 :: a2 :: r, _ =>
      have e0 : a0 = 83 := h0
      have e2 : a2 = ((n : Nat) : Int) := hn
      rw [e0, e2]; rfl
  have hrz : c.drop (3 + n) = List.replicate (125 - n) 0 := by
    rw [List.eq_replicate_iff]
    refine ⟨by rw [List.length_drop]; omega, fun v hv => ?_⟩
    unfold rz at hr
    simpa using List.all_eq_true.1 hr v hv
  have hlen : ([83, gb c 1, ((n : Nat) : Int)] ++ (c.drop 3).take n).length = 3 + n := by
    simp only [List.length_append, List.length_cons, List.length_nil, List.length_take, List.length_drop]; omega
  unfold padB
  rw [hlen, show 128 - (3 + n) = 125 - n by omega, ← hrz, ← h3, List.append_assoc, ← List.drop_drop, List.take_append_drop, List.take_append_drop]
theorem piece_set {c : List Int} (hc : c.length = 128) (hu : U8s c) (hg : pcG c = true) (v : Int) :
    c.set 1 v = padB ([83, v, ((List.length (textOf ((c.drop 3).take (gb c 2).toNat)) : Nat) : Int)] ++ bytesOf (textOf ((c.drop 3).take (gb c 2).toNat))) := by
  have hf := piece_form hc hu hg
  have hg' := hg
  unfold pcG at hg'
  simp only [Bool.and_eq_true, decide_eq_true_eq] at hg'
  obtain ⟨_, _, h2, _⟩ := hg'
  have hl : ((List.length (textOf ((c.drop 3).take (gb c 2).toNat)) : Nat) : Int) = gb c 2 := by
    unfold textOf
    rw [List.length_map, List.length_take, List.length_drop]; omega
  rw [hl]
  have hl2 : ∀ v : Int, ([83, v, gb c 2] ++ bytesOf (textOf ((c.drop 3).take (gb c 2).toNat))).length = 3 + (textOf ((c.drop 3).take (gb c 2).toNat)).length := fun v => by
    simp only [List.length_append, List.length_cons, List.length_nil, bytesOf_len2]
  generalize hw : bytesOf (textOf ((c.drop 3).take (gb c 2).toNat)) = w at *
  generalize gb c 2 = g2 at *
  generalize gb c 1 = g1 at *
  rw [hf]
  unfold padB
  rw [hl2, hl2]
  rfl
theorem pcs_ok {b : Bls} {x y c : List Int} {n : Nat} : ∀ (f k : Nat) (out l : List Int), pcs b x y c n f out k = some l → (∀ a ∈ out, pcB b x y a = true) → out.Nodup →
    (∀ a ∈ l, pcB b x y a = true) ∧ l.Nodup ∧ l.length = out.length + f
  | 0, k, out, l, h, h1, h2 => by
    unfold pcs at h
    cases h
    exact ⟨h1, h2, rfl⟩
  | f + 1, k, out, l, h, h1, h2 => by
    unfold pcs at h
    split at h
    · rename_i hc
      simp only [Bool.and_eq_true, Bool.not_eq_true', decide_eq_false_iff_not] at hc
      obtain ⟨hp, _, hm⟩ := hc
      obtain ⟨r1, r2, r3⟩ := pcs_ok f (k + 1) _ l h (fun a ha => by
        rcases List.mem_append.1 ha with ha | ha
        · exact h1 a ha
        · rw [List.mem_singleton.1 ha]; exact hp) (by
        rw [List.nodup_append]
        refine ⟨h2, by simp, fun a ha b hb => ?_⟩
        rw [List.mem_singleton.1 hb]
        rintro rfl; exact hm ha)
      exact ⟨r1, r2, by rw [r3]; simp; omega⟩
    · cases h
structure Pcs (b : Bls) (x y l : List Int) : Prop where
  all : ∀ a ∈ l, pcB b x y a = true
  nd : l.Nodup
  len : l.length ≤ 3
theorem ptx_ok {b : Bls} {x y : List Int} {root : Int} {l : List Int} (h : ptx b x y root = some l) : Pcs b x y l ∧ liv b x y root = true ∧ gb (blk b root.toNat) 0 = 84 ∧ root ∉ l := by
  unfold ptx at h
  split at h
  · rename_i hc
    simp only [Bool.and_eq_true, decide_eq_true_eq] at hc
    obtain ⟨h1, h2, h3, _⟩ := hc
    obtain ⟨r1, r2, r3⟩ := pcs_ok _ 0 [] l h (fun a ha => by cases ha) List.nodup_nil
    refine ⟨⟨r1, r2, by rw [r3]; simp; omega⟩, h1, h2, fun hm => ?_⟩
    have := r1 root hm
    unfold pcB pcG at this
    simp only [Bool.and_eq_true, decide_eq_true_eq] at this
    omega
  · cases h
theorem pcB_nat {b : Bls} {x y : List Int} {a : Int} (h : pcB b x y a = true) : ∃ m : Nat, a = ((m : Nat) : Int) ∧ 33 ≤ m ∧ m < b.length ∧ bit x m = true ∧ ((m : Nat) : Int) ∉ y ∧ pcG (blk b m) = true := by
  unfold pcB at h
  simp only [Bool.and_eq_true] at h
  obtain ⟨m, rfl, h1, h2, h3, h4⟩ := liv_nat h.1
  exact ⟨m, rfl, h1, h2, h3, h4, h.2⟩
def cat (b : Bls) (l : List Int) : List UInt8 := l.flatMap (pcTx b)
theorem cat_succ (b : Bls) {l : List Int} {k : Nat} (h : k < l.length) : cat b (l.take (k + 1)) = cat b (l.take k) ++ pcTx b l[k] := by
  unfold cat
  rw [List.take_succ_eq_append_getElem h, List.flatMap_append]
  simp
theorem tx_le (b : Bls) {x y : List Int} {a : Int} (h : pcB b x y a = true) : (pcTx b a).length ≤ 40 := by
  obtain ⟨m, rfl, _, _, _, _, hg⟩ := pcB_nat h
  unfold pcG at hg
  simp only [Bool.and_eq_true, decide_eq_true_eq] at hg
  unfold pcTx textOf
  rw [Int.toNat_natCast, List.length_map, List.length_take]; omega
theorem cat_le {b : Bls} {x y : List Int} : ∀ {l : List Int}, (∀ a ∈ l, pcB b x y a = true) → (cat b l).length ≤ 40 * l.length
  | [], _ => by simp [cat]
  | a :: l, h => by
    have h1 := tx_le b (h a (by simp))
    have h2 := cat_le (l := l) fun v hv => h v (by simp [hv])
    have e : cat b (a :: l) = pcTx b a ++ cat b l := by simp [cat]
    rw [e, List.length_append, List.length_cons]; omega
theorem s_piece_eq {b : Bls} {x y z : List Int} (g : RS b x y) {a : Int} (h : pcB b x y a = true) : s_l7Piece b x y z a = some (pcTx b a) := by
  obtain ⟨m, rfl, h33, hm, _, _, hg⟩ := pcB_nat h
  have hc := g.len hm
  have v2 := g.u8 hm 2
  unfold pcG at hg
  simp only [Bool.and_eq_true, decide_eq_true_eq] at hg
  unfold s_l7Piece pcTx
  have hbm := blk_some hm
  rw [Int.toNat_natCast]
  generalize blk b m = c at *
  obtain ⟨n, hn⟩ := Int.eq_ofNat_of_zero_le v2.1
  rw [hn] at hg ⊢
  rw [iy (by omega), hbm, Option.bind_some, iy (by omega), Option.bind_some, iy (by omega), show Int.toNat 2 = 2 from rfl, gb_some (by omega), Option.bind_some, hn, w64 (n := ((n : Nat) : Int)) (by omega) (by omega),
    show (3 : Int) + ((n : Nat) : Int) = ((3 + n : Nat) : Int) by omega, w64 (by omega) (by omega), iy (by omega), iy (by omega), iy (by omega), iy (by omega), Int.toNat_natCast, Int.toNat_natCast, show 3 + n - Int.toNat 3 = n by omega]
  rfl
def tin (b : Bls) (x y : List Int) (root : Int) : List UInt8 × (List Int × Bool) := match ptx b x y root with
  | some l => (cat b l, l ++ [root], true)
  | none => ([], [], false)
theorem s_l7text_eq {b : Bls} {x y z : List Int} (g : RS b x y) (root : Int) : s_l7Text b x y z root = some (tin b x y root) := by
  obtain ⟨l', h⟩ := s_pieces_eq (z := z) g root
  unfold s_l7Text tin
  rw [h, Option.bind_some]
  cases hp : ptx b x y root with
  | none => rfl
  | some l =>
    obtain ⟨⟨hall, hnd, hlen⟩, _⟩ := ptx_ok hp
    dsimp only
    rw [if_neg (by simp)]
    have hL := loop_run s_l7Text_L1 (fun k => (root, l, cat b (l.take k), ((l.length : Nat) : Int), ((k : Nat) : Int), b, x, y, z)) l.length (root, l, cat b l) (fun k hk => by
      have hpk := hall _ (List.getElem_mem hk)
      have h1 := cat_le (b := b) (x := x) (y := y) (l := l.take k) fun v hv => hall v (List.mem_of_mem_take hv)
      have h2 := tx_le b hpk
      rw [List.length_take] at h1
      unfold s_l7Text_L1
      dsimp only
      rw [iy (by omega), iy (by omega), iy (by omega), Nat.zero_add, Int.toNat_natCast, List.getElem?_eq_getElem hk, Option.bind_some, s_piece_eq g hpk, Option.bind_some, iy (by omega), ix64 (by omega), cat_succ b hk]) (by
      unfold s_l7Text_L1
      dsimp only
      rw [ino (by omega), List.take_length])
    have hL' : loopG s_l7Text_L1 (root, l, ([] : List UInt8), ((l.length : Nat) : Int), 0, b, x, y, z) = _ := hL
    rw [hL', Option.bind_some]
    dsimp only
    rw [if_pos (by simp only [roomFor, decide_eq_true_eq, List.length_singleton]; omega)]
theorem i_l7text_eq {b : Bls} {x y z : List Int} (g : RS b x y) (root : Int) : i_Space_text_ffff root b x y z = some ((tin b x y root).1, (tin b x y root).2.1, (tin b x y root).2.2, b, x, y, z) := by
  unfold i_Space_text_ffff tin
  rw [i_pieces_eq g, Option.bind_some]
  cases hp : ptx b x y root with
  | none => rfl
  | some l =>
    obtain ⟨⟨hall, hnd, hlen⟩, _⟩ := ptx_ok hp
    dsimp only
    rw [if_neg (by simp)]
    have hL := loop_run i_Space_text_ffff_L1 (fun k => (root, cat b (l.take k), l.take k, l.map (pcOf b), ((l.length : Nat) : Int), ((k : Nat) : Int), b, x, y, z)) l.length (root, cat b l, l, b, x, y, z) (fun k hk => by
      have hpk := hall _ (List.getElem_mem hk)
      have h1 := cat_le (b := b) (x := x) (y := y) (l := l.take k) fun v hv => hall v (List.mem_of_mem_take hv)
      have h2 := tx_le b hpk
      rw [List.length_take] at h1
      have hg : (l.map (pcOf b))[k]? = some (pcOf b l[k]) := by rw [List.getElem?_map, List.getElem?_eq_getElem hk]; rfl
      unfold i_Space_text_ffff_L1
      dsimp only
      rw [iy (by omega), iy (by omega), iy (by rw [List.length_map]; omega), Nat.zero_add, Int.toNat_natCast, hg, Option.bind_some, Option.bind_some, Option.bind_some,
        show (pcOf b l[k]).2.2 = pcTx b l[k] from rfl, show (pcOf b l[k]).1 = l[k] from rfl, iy (by omega), if_pos (by simp only [roomFor, decide_eq_true_eq, List.length_singleton, List.length_take]; omega), ix64 (by omega), cat_succ b hk, List.take_succ_eq_append_getElem hk]) (by
      unfold i_Space_text_ffff_L1
      dsimp only
      rw [ino (by omega), List.take_length])
    have hL' : loopG i_Space_text_ffff_L1 (root, ([] : List UInt8), [], l.map (pcOf b), ((l.length : Nat) : Int), 0, b, x, y, z) = _ := hL
    rw [List.length_map, hL', Option.bind_some]
    dsimp only
    rw [if_pos (by simp only [roomFor, decide_eq_true_eq, List.length_singleton]; omega)]
theorem GS.rs {b : Bls} {x y z : List Int} (g : GS b x y z) (h : SB b x y z) (hu : ∀ c ∈ b, U8s c) : RS b x y := ⟨g.hb, g.hk, hu, g.hx, h.y⟩
theorem s_TextIn_eq {b : Bls} {x y z : List Int} (h : SB b x y z) (hu : ∀ c ∈ b, U8s c) (root : Int) : s_TextIn b x y z root = some (if gsp b x y z = true then tin b x y root else ([], [], false)) := by
  unfold s_TextIn
  rw [s_GoodSpace_eq h, Option.bind_some]
  cases hg : gsp b x y z with
  | false => rfl
  | true => rw [if_neg (by simp), s_l7text_eq ((gs_of hg).rs h hu), Option.bind_some]; rfl
theorem i_TextIn_eq {b : Bls} {x y z : List Int} (h : SB b x y z) (hu : ∀ c ∈ b, U8s c) (root : Int) : i_TextIn b x y z root = some (if gsp b x y z = true then tin b x y root else ([], [], false)) := by
  unfold i_TextIn
  rw [i_GoodSpace_eq h, Option.bind_some]
  cases hg : gsp b x y z with
  | false => rfl
  | true => rw [if_neg (by simp), i_l7text_eq ((gs_of hg).rs h hu), Option.bind_some]; rfl
end Go.V.G

set_option linter.unusedVariables false
set_option linter.unusedSimpArgs false
set_option maxRecDepth 100000
namespace Go.V.G
open Go.V
abbrev Wst := Bls × (List Int × List Int)
noncomputable def drp (s : Wst) (a : Int) : Wst :=
  if gb (blk s.1 a.toNat) 1 = 1 then (s.1, pt s.2.1 a, s.2.2) else (s.1.set a.toNat ((blk s.1 a.toNat).set 1 (gb (blk s.1 a.toNat) 1 - 1)), s.2.1, pt s.2.2 a)
structure Ws (n : Nat) (s : Wst) (q : Nat) : Prop where
  hn : s.1.length = n
  hk : ∀ c ∈ s.1, c.length = 128
  hu : ∀ c ∈ s.1, U8s c
  hy : Ris s.2.1
  hz : Ris s.2.2
  ly : s.2.1.length ≤ q
  lz : s.2.2.length ≤ q
theorem Ws.more {n q r : Nat} {s : Wst} (h : Ws n s q) (hr : q ≤ r) : Ws n s r := ⟨h.hn, h.hk, h.hu, h.hy, h.hz, Nat.le_trans h.ly hr, Nat.le_trans h.lz hr⟩
theorem blk_set_ne {b : Bls} {i j : Nat} {c : List Int} (h : i ≠ j) : blk (b.set i c) j = blk b j := by unfold blk; rw [List.getElem?_set_ne h]
theorem blk_set_eq {b : Bls} {i : Nat} {c : List Int} (h : i < b.length) : blk (b.set i c) i = c := by unfold blk; rw [List.getElem?_set_self h]; rfl
theorem Ws.setB {n q : Nat} {s : Wst} (h : Ws n s q) (hq : q ≤ 1048000) {i : Nat} {c : List Int} (hc : c.length = 128) (hu : U8s c) : Ws n (s.1.set i c, s.2.1, pt s.2.2 ((i : Nat) : Int)) (q + 1) := by
  have hl := h.lz; have hl2 := h.ly
  obtain ⟨_, _, h3, h4, _⟩ := pt_eq (z := s.2.2) (by omega) h.hz ((i : Nat) : Int)
  exact ⟨by rw [List.length_set]; exact h.hn, fun d hd => by
    rcases List.mem_or_eq_of_mem_set hd with hd | rfl
    · exact h.hk d hd
    · exact hc, fun d hd => by
    rcases List.mem_or_eq_of_mem_set hd with hd | rfl
    · exact h.hu d hd
    · exact hu, h.hy, h4, by dsimp only; omega, by dsimp only; omega⟩
theorem Ws.giveB {n q : Nat} {s : Wst} (h : Ws n s q) (hq : q ≤ 1048000) (a : Int) : Ws n (s.1, pt s.2.1 a, s.2.2) (q + 1) := by
  have hl := h.lz; have hl2 := h.ly
  obtain ⟨_, _, h3, h4, _⟩ := pt_eq (z := s.2.1) (by omega) h.hy a
  exact ⟨h.hn, h.hk, h.hu, h4, h.hz, by dsimp only; omega, by dsimp only; omega⟩
theorem u8_setv {c : List Int} (h : U8s c) {i : Nat} {v : Int} (hv : 0 ≤ v ∧ v ≤ 255) : U8s (c.set i v) := fun w hw => by
  rcases List.mem_or_eq_of_mem_set hw with hw | rfl
  · exact h w hw
  · exact hv
theorem drp_ws {n q : Nat} {s : Wst} (h : Ws n s q) (hq : q ≤ 1048000) {m : Nat} (hm : m < n) (h1 : 1 ≤ gb (blk s.1 m) 1) : Ws n (drp s ((m : Nat) : Int)) (q + 1) := by
  have hb : m < s.1.length := by rw [h.hn]; exact hm
  have u1 := gb_u8 (h.hu _ (blk_mem hb)) 1
  unfold drp
  rw [Int.toNat_natCast]
  split
  · exact h.giveB hq _
  · exact h.setB hq (by rw [List.length_set]; exact h.hk _ (blk_mem hb)) (u8_setv (h.hu _ (blk_mem hb)) (by omega))
theorem drp_blk {s : Wst} {a : Int} {j : Nat} (h : a.toNat ≠ j) : blk (drp s a).1 j = blk s.1 j := by
  unfold drp
  split
  · rfl
  · exact blk_set_ne h
theorem drops_ok {b : Bls} {x y l : List Int} (hl : Pcs b x y l) {s : Wst} {q : Nat} (h : Ws b.length s q) (hq : q ≤ 1040000) (hs : ∀ a ∈ l, blk s.1 a.toNat = blk b a.toNat) : ∀ k, k ≤ l.length →
    Ws b.length ((l.take k).foldl drp s) (q + k) ∧ ∀ j (hj : j < l.length), k ≤ j → blk ((l.take k).foldl drp s).1 l[j].toNat = blk b l[j].toNat
  | 0, _ => ⟨by simpa using h, fun j hj _ => by simpa using hs _ (List.getElem_mem hj)⟩
  | k + 1, hk => by
    obtain ⟨h1, h2⟩ := drops_ok hl h hq hs k (by omega)
    have hk' : k < l.length := hk
    have hlen := hl.len
    rw [List.take_succ_eq_append_getElem hk', List.foldl_append, List.foldl_cons, List.foldl_nil]
    have hbk := h2 k hk' (Nat.le_refl _)
    obtain ⟨m, hm, h33, hmb, _, _, hg⟩ := pcB_nat (hl.all _ (List.getElem_mem hk'))
    rw [hm, Int.toNat_natCast] at hbk
    refine ⟨?_, fun j hj hjk => ?_⟩
    · rw [hm]
      refine drp_ws h1 (by omega) hmb ?_
      rw [hbk]
      unfold pcG at hg
      simp only [Bool.and_eq_true, decide_eq_true_eq] at hg
      exact hg.2.1.1
    · rw [drp_blk, h2 j hj (by omega)]
      intro hh
      have hne := List.pairwise_iff_getElem.1 hl.nd k j hk' hj (by omega)
      obtain ⟨m', hm', _⟩ := pcB_nat (hl.all _ (List.getElem_mem hj))
      rw [hm, hm'] at hh hne
      rw [Int.toNat_natCast, Int.toNat_natCast] at hh
      exact hne (by rw [hh])
theorem i_drop_loop {b : Bls} {x y l : List Int} (hl : Pcs b x y l) {s : Wst} {q : Nat} (h : Ws b.length s q) (hq : q ≤ 1040000) (hs : ∀ a ∈ l, blk s.1 a.toNat = blk b a.toNat) :
    loopG i_Space_dropText_oooo_L1 (l.map (pcOf b), ((l.length : Nat) : Int), 0, s.1, x, s.2.1, s.2.2) = some ((l.foldl drp s).1, x, (l.foldl drp s).2.1, (l.foldl drp s).2.2) := by
  have hlen := hl.len
  have hL := loop_run i_Space_dropText_oooo_L1 (fun k => (l.map (pcOf b), ((l.length : Nat) : Int), ((k : Nat) : Int), ((l.take k).foldl drp s).1, x, ((l.take k).foldl drp s).2.1, ((l.take k).foldl drp s).2.2)) l.length
    ((l.foldl drp s).1, x, (l.foldl drp s).2.1, (l.foldl drp s).2.2) (fun k hk => by
    obtain ⟨h1, h2⟩ := drops_ok hl h hq hs k (by omega)
    have hbk := h2 k hk (Nat.le_refl _)
    have hpk := hl.all _ (List.getElem_mem hk)
    have htl := tx_le b hpk
    have hg : (l.map (pcOf b))[k]? = some (pcOf b l[k]) := by rw [List.getElem?_map, List.getElem?_eq_getElem hk]; rfl
    rw [List.take_succ_eq_append_getElem hk, List.foldl_append, List.foldl_cons, List.foldl_nil]
    obtain ⟨m, hm, h33, hmb, _, _, hgc⟩ := pcB_nat hpk
    rw [hm, Int.toNat_natCast] at hbk
    rw [hm] at hg htl ⊢
    generalize (l.take k).foldl drp s = w at *
    have hwb : m < w.1.length := by rw [h1.hn]; exact hmb
    have hc := h1.hk _ (blk_mem hwb)
    have hu := h1.hu _ (blk_mem hwb)
    have u1 := gb_u8 hu 1
    have hy := h1.ly; have hz := h1.lz
    obtain ⟨_, hp, _⟩ := pt_eq (z := w.2.1) (by omega) h1.hy ((m : Nat) : Int)
    have hg1 : 1 ≤ gb (blk w.1 m) 1 := by
      rw [hbk]
      unfold pcG at hgc
      simp only [Bool.and_eq_true, decide_eq_true_eq] at hgc
      exact hgc.2.1.1
    have e1 : (pcOf b ((m : Nat) : Int)).2.1 = gb (blk w.1 m) 1 := by rw [hbk]; rfl
    unfold i_Space_dropText_oooo_L1 drp
    dsimp only
    rw [Int.toNat_natCast, iy (by omega), iy (by omega), iy (by rw [List.length_map]; omega), Nat.zero_add, Int.toNat_natCast, hg, Option.bind_some, Option.bind_some, Option.bind_some,
      show (pcOf b ((m : Nat) : Int)).2.2 = pcTx b ((m : Nat) : Int) from rfl, show (pcOf b ((m : Nat) : Int)).1 = ((m : Nat) : Int) from rfl, e1, w64 (by omega) (by omega)]
    have hgc' := hgc
    rw [← hbk] at hgc'
    have hps := piece_set hc hu hgc' (gb (blk w.1 m) 1 - 1)
    have etx : pcTx b ((m : Nat) : Int) = textOf (((blk w.1 m).drop 3).take (gb (blk w.1 m) 2).toNat) := by unfold pcTx; rw [Int.toNat_natCast, hbk]
    have hlay := i_layPiece_eq (x := x) (y := w.2.1) (s := gb (blk w.1 m) 1 - 1) htl hwb (show w.2.2.length ≤ 1048576 by omega) h1.hz
    rw [wub (r := gb (blk w.1 m) 1 - 1) (by omega) (by omega), etx, ← hps] at hlay
    by_cases he : gb (blk w.1 m) 1 = 1
    · unfold i_Space_give_oooo
      rw [iy (by omega), hp, Option.bind_some, Option.bind_some, Option.bind_some, if_pos he, ix64 (by omega)]
    · rw [ino (by omega), etx, hlay, Option.bind_some, Option.bind_some, if_neg he, ix64 (by omega)]) (by
    unfold i_Space_dropText_oooo_L1
    dsimp only
    rw [ino (by omega), List.take_length])
  have hL' : loopG i_Space_dropText_oooo_L1 (l.map (pcOf b), ((l.length : Nat) : Int), 0, s.1, x, s.2.1, s.2.2) = _ := hL
  exact hL'
noncomputable def dropF (b : Bls) (y z : List Int) (root : Int) (l : List Int) : Wst := l.foldl drp (b, pt y root, z)
theorem GS.ws {b : Bls} {x y z : List Int} (g : GS b x y z) (hu : ∀ c ∈ b, U8s c) : Ws b.length (b, y, z) 127 := by
  have hb := g.hb
  obtain ⟨r1, r2⟩ := ris_of g.hy
  obtain ⟨r3, r4⟩ := ris_of g.hz
  have l1 : y.length ≤ 127 := ris_len r1 (fun i hi => by have := r2 i hi; omega)
  have l2 : z.length ≤ 127 := ris_len r3 (fun i hi => by have := r4 i hi; omega)
  exact ⟨rfl, g.hk, hu, r1, r3, l1, l2⟩
theorem i_drop_eq {b : Bls} {x y z l : List Int} {root : Int} (g : GS b x y z) (h : SB b x y z) (hu : ∀ c ∈ b, U8s c) (hp : ptx b x y root = some l) :
    i_Space_dropText_oooo root b x y z = some ((dropF b y z root l).1, x, (dropF b y z root l).2.1, (dropF b y z root l).2.2) := by
  have rs := g.rs h hu
  have ws := g.ws hu
  have h2 := i_pieces_eq (z := z) rs root
  obtain ⟨hpc, _⟩ := ptx_ok hp
  rw [hp] at h2
  have hpt := pt_eq h.y ws.hy root
  have ws2 := ws.giveB (by omega) root
  have e2 := i_drop_loop hpc ws2 (by omega) (fun a _ => rfl)
  unfold i_Space_dropText_oooo i_Space_give_oooo
  rw [h2, Option.bind_some, hpt.2.1, Option.bind_some, Option.bind_some, List.length_map, e2]; rfl
theorem Ws.w {n q : Nat} {s : Wst} (h : Ws n s q) (hn : n ≤ 160) (hq : q ≤ 1000) {x : List Int} (hx : x.length = 20) : w_Space s.1 x s.2.1 s.2.2 ≤ 5000000 := by
  have hw : ∀ l : Bls, (∀ c ∈ l, c.length = 128) → wsum w_ByteS l = l.length * 128 := by
    intro l
    induction l with
    | nil => intro _; rfl
    | cons c l ih =>
      intro hh
      simp only [wsum, List.length_cons]
      rw [ih (fun d hd => hh d (by simp [hd]))]
      have e : w_ByteS c = c.length := rfl
      rw [e, hh c (by simp)]; omega
  have h1 := hw s.1 h.hk
  have h2 := h.hn; have h3 := h.ly; have h4 := h.lz
  unfold w_Space w_ByteSS w_ByteS w_IntS
  unfold w_ByteS at h1
  rw [h1]; omega
end Go.V.G

set_option linter.unusedVariables false
set_option linter.unusedSimpArgs false
set_option maxRecDepth 100000
namespace Go.V.G
open Go.V
def cutT : Nat → List UInt8 → List (List UInt8)
  | 0, _ => []
  | f + 1, t => if t = [] then [] else t.take 40 :: cutT f (t.drop 40)
theorem cutT_len : ∀ f t, (cutT f t).length ≤ f
  | 0, _ => by simp [cutT]
  | f + 1, t => by
    unfold cutT
    split
    · simp
    · have := cutT_len f (t.drop 40); simp; omega
theorem cutT_piece : ∀ f t p, p ∈ cutT f t → 1 ≤ p.length ∧ p.length ≤ 40
  | 0, _, p, h => by simp [cutT] at h
  | f + 1, t, p, h => by
    unfold cutT at h
    split at h
    · cases h
    · rename_i ht
      rcases List.mem_cons.1 h with rfl | h
      · have := List.length_pos_iff.2 ht
        rw [List.length_take]; omega
      · exact cutT_piece f _ p h
theorem cutT_join : ∀ f t, t.length ≤ 40 * f → (cutT f t).flatten = t
  | 0, t, h => by
    have : t = [] := List.length_eq_zero_iff.1 (by omega)
    rw [this]; rfl
  | f + 1, t, h => by
    unfold cutT
    split
    · rename_i ht; rw [ht]; rfl
    · rw [List.flatten_cons, cutT_join f _ (by rw [List.length_drop]; omega), List.take_append_drop]
theorem cutT_nil (f : Nat) : cutT f [] = [] := by cases f <;> rfl
theorem cutT_full : ∀ f t k (h : k + 1 < (cutT f t).length), ((cutT f t)[k]'(by omega)).length = 40
  | 0, t, k, h => by simp [cutT] at h
  | f + 1, t, k, h => by
    by_cases ht : t = []
    · exfalso; rw [ht, cutT_nil] at h; simp at h
    · have e : cutT (f + 1) t = t.take 40 :: cutT f (t.drop 40) := by rw [cutT, if_neg ht]
      simp only [e] at h ⊢
      rw [List.length_cons] at h
      cases k with
      | zero =>
        rw [List.getElem_cons_zero, List.length_take]
        have h1 : 0 < (cutT f (t.drop 40)).length := by omega
        have h2 : t.drop 40 ≠ [] := by
          intro hh
          rw [hh, cutT_nil] at h1
          simp at h1
        have h3 := List.length_pos_iff.2 h2
        rw [List.length_drop] at h3
        omega
      | succ k =>
        rw [List.getElem_cons_succ]
        exact cutT_full f _ k (by omega)
theorem rm16 {n m : Nat} (h : n + m ≤ 1000) : roomFor (n + m) 16 = true := by simp only [roomFor, decide_eq_true_eq]; omega
theorem i_cut_loop : ∀ (f : Nat) (t : List UInt8) (out : List (List UInt8)), t.length ≤ 40 * f → out.length + f ≤ 900 → loopG i_cut_L1 (t, out) = some (out ++ cutT f t)
  | 0, t, out, h, ho => by
    obtain rfl : t = [] := List.length_eq_zero_iff.1 (by omega)
    rw [loopG_eq]
    unfold i_cut_L1
    simp [cutT]
  | f + 1, t, out, h, ho => by
    by_cases ht : t = []
    · subst ht
      rw [loopG_eq]
      unfold i_cut_L1
      simp [cutT]
    · have hp := List.length_pos_iff.2 ht
      have hmin : (if ((t.length : Nat) : Int) < 40 then ((t.length : Nat) : Int) else 40) = ((min t.length 40 : Nat) : Int) := by split <;> omega
      have hne : (!(t == ([] : List UInt8))) = true := by simp [ht]
      have e1 : (List.drop (min t.length 40) t).take (t.length - min t.length 40) = t.drop 40 := by
        by_cases hl : t.length ≤ 40
        · rw [Nat.min_eq_left hl, List.drop_eq_nil_of_le (Nat.le_refl _), List.drop_eq_nil_of_le hl, List.take_nil]
        · rw [Nat.min_eq_right (by omega)]; exact List.take_of_length_le (by rw [List.length_drop]; omega)
      have e2 : (List.drop (Int.toNat 0) t).take (min t.length 40 - Int.toNat 0) = t.take 40 := by
        rw [show Int.toNat 0 = 0 from rfl, List.drop_zero, Nat.sub_zero]
        by_cases hl : t.length ≤ 40
        · rw [Nat.min_eq_left hl, List.take_of_length_le (Nat.le_refl _), List.take_of_length_le hl]
        · rw [Nat.min_eq_right (by omega)]
      have hs : i_cut_L1 (t, out) = some (.inl (t.drop 40, out ++ [t.take 40])) := by
        unfold i_cut_L1
        dsimp only
        simp only [hmin]
        rw [if_pos hne]
        simp only [Int.toNat_natCast, e1, e2, if_pos (rm16 (n := out.length) (m := ([t.take 40] : List (List UInt8)).length) (by simp; omega))]
        simp (disch := omega) only [iy]
      rw [loopG_eq, hs]
      dsimp only
      rw [i_cut_loop f _ _ (by rw [List.length_drop]; omega) (by simp; omega), cutT, if_neg ht, List.append_assoc]
      rfl
theorem i_cut_eq {t : List UInt8} (h : t.length ≤ 120) : i_cut t = some (cutT 3 t) := by
  unfold i_cut
  rw [i_cut_loop 3 t [] (by omega) (by simp)]
  rfl
theorem s_cut_loop : ∀ (f : Nat) (t : List UInt8) (out : List (List UInt8)), t.length ≤ 40 * f → out.length + f ≤ 900 → ∃ v, loopG s_l7Cut_L1 (t, out) = some v ∧ (if v.1 = [] then v.2 else v.2 ++ [v.1]) = out ++ cutT f t ∧ v.2.length ≤ 900
  | 0, t, out, h, ho => by
    obtain rfl : t = [] := List.length_eq_zero_iff.1 (by omega)
    refine ⟨([], out), ?_, by simp [cutT], by dsimp only; omega⟩
    rw [loopG_eq]
    unfold s_l7Cut_L1
    simp
  | f + 1, t, out, h, ho => by
    by_cases ht : 40 < t.length
    · have hne : t ≠ [] := by rintro rfl; simp at ht
      obtain ⟨v, h1, h2, h3⟩ := s_cut_loop f (t.drop 40) (out ++ [t.take 40]) (by rw [List.length_drop]; omega) (by simp; omega)
      refine ⟨v, ?_, ?_, h3⟩
      · have e1 : (List.drop (Int.toNat 40) t).take (Int.toNat ((t.length : Nat) : Int) - Int.toNat 40) = t.drop 40 := by
          rw [Int.toNat_natCast, show Int.toNat 40 = 40 from rfl]; exact List.take_of_length_le (by rw [List.length_drop]; omega)
        have e2 : (List.drop (Int.toNat 0) t).take (Int.toNat 40 - Int.toNat 0) = t.take 40 := rfl
        have hs : s_l7Cut_L1 (t, out) = some (.inl (t.drop 40, out ++ [t.take 40])) := by
          unfold s_l7Cut_L1
          dsimp only
          simp only [e1, e2, if_pos (rm16 (n := out.length) (m := ([t.take 40] : List (List UInt8)).length) (by simp; omega))]
          simp (disch := omega) only [iy]
        rw [loopG_eq, hs]
        exact h1
      · rw [h2, cutT, if_neg hne, List.append_assoc]; rfl
    · refine ⟨(t, out), ?_, ?_, by dsimp only; omega⟩
      · rw [loopG_eq]
        unfold s_l7Cut_L1
        dsimp only
        rw [ino (by omega)]
      · dsimp only
        unfold cutT
        split
        · simp
        · rw [List.take_of_length_le (by omega), List.drop_eq_nil_of_le (by omega), cutT_nil]
theorem s_cut_eq {t : List UInt8} (h : t.length ≤ 120) : s_l7Cut t = some (cutT 3 t) := by
  unfold s_l7Cut
  obtain ⟨v, h1, h2, h3⟩ := s_cut_loop 3 t [] (by omega) (by simp)
  rw [h1, Option.bind_some]
  rw [List.nil_append] at h2
  by_cases hv : v.1 = []
  · rw [if_pos hv] at h2
    rw [hv, h2]; rfl
  · rw [if_neg hv] at h2
    rw [if_pos (by simp [hv]), if_pos (rm16 (by simp; omega)), h2]; rfl
def shr (b : Bls) (hv : List Int) (k : Nat) (p : List UInt8) : Int := match hv[k]? with
  | some a => if pcTx b a = p ∧ gb (blk b a.toNat) 1 < 250 then a else 0
  | none => 0
def shs (b : Bls) (hv : List Int) (ps : List (List UInt8)) : List Int := (List.range ps.length).map fun k => shr b hv k (ps[k]?.getD [])
theorem shs_len (b : Bls) (hv : List Int) (ps : List (List UInt8)) : (shs b hv ps).length = ps.length := by simp [shs]
theorem shs_get (b : Bls) (hv : List Int) {ps : List (List UInt8)} {k : Nat} (h : k < ps.length) : (shs b hv ps)[k]? = some (shr b hv k ps[k]) := by
  unfold shs
  rw [List.getElem?_map, List.getElem?_range h, Option.map_some, List.getElem?_eq_getElem h]; rfl
theorem shs_take (b : Bls) (hv : List Int) {ps : List (List UInt8)} {k : Nat} (h : k < ps.length) : (shs b hv ps).take (k + 1) = (shs b hv ps).take k ++ [shr b hv k ps[k]] := by
  have hk : k < (shs b hv ps).length := by rw [shs_len]; exact h
  have e := shs_get b hv h
  rw [List.getElem?_eq_getElem hk] at e
  rw [List.take_succ_eq_append_getElem hk, Option.some.inj e]
theorem shr_cases (b : Bls) (hv : List Int) (k : Nat) (p : List UInt8) : shr b hv k p = 0 ∨ ∃ (h : k < hv.length), shr b hv k p = hv[k] ∧ pcTx b hv[k] = p ∧ gb (blk b hv[k].toNat) 1 < 250 := by
  unfold shr
  by_cases h : k < hv.length
  · rw [List.getElem?_eq_getElem h]
    dsimp only
    split
    · rename_i hc; exact .inr ⟨h, rfl, hc.1, hc.2⟩
    · exact .inl rfl
  · rw [List.getElem?_eq_none (by omega)]; exact .inl rfl
def pcN (b : Bls) (a : Int) (p : List UInt8) : Pc := if a = 0 then (0, 0, p) else pcOf b a
def pcl (b : Bls) (sh : List Int) (ps : List (List UInt8)) : List Pc := (List.range ps.length).map fun k => pcN b (sh[k]?.getD 0) (ps[k]?.getD [])
def flg (sh : List Int) : List Bool := sh.map fun a => decide (¬ a = 0)
theorem pcl_len (b : Bls) (sh : List Int) (ps : List (List UInt8)) : (pcl b sh ps).length = ps.length := by simp [pcl]
theorem pcl_get (b : Bls) (sh : List Int) {ps : List (List UInt8)} {k : Nat} (h : k < ps.length) : (pcl b sh ps)[k]? = some (pcN b (sh[k]?.getD 0) ps[k]) := by
  unfold pcl
  rw [List.getElem?_map, List.getElem?_range h, Option.map_some, List.getElem?_eq_getElem h]; rfl
theorem pcl_take (b : Bls) (sh : List Int) {ps : List (List UInt8)} {k : Nat} (h : k < ps.length) : (pcl b sh ps).take (k + 1) = (pcl b sh ps).take k ++ [pcN b (sh[k]?.getD 0) ps[k]] := by
  have hk : k < (pcl b sh ps).length := by rw [pcl_len]; exact h
  have e := pcl_get b sh h
  rw [List.getElem?_eq_getElem hk] at e
  rw [List.take_succ_eq_append_getElem hk, Option.some.inj e]
theorem flg_take (b : Bls) (hv : List Int) {ps : List (List UInt8)} {k : Nat} (h : k < ps.length) : (flg (shs b hv ps)).take (k + 1) = (flg (shs b hv ps)).take k ++ [decide (¬ shr b hv k ps[k] = 0)] := by
  unfold flg
  rw [← List.map_take, shs_take b hv h, List.map_append, List.map_take]; rfl
theorem s_shared_loop {b : Bls} {x y z hv : List Int} (g : RS b x y) (hp : Pcs b x y hv) {ps : List (List UInt8)} (hps : ps.length ≤ 3) :
    loopG s_l7Shared_L1 (hv, [], ps, ((ps.length : Nat) : Int), 0, b, x, y, z) = some (shs b hv ps) := by
  have hL := loop_run s_l7Shared_L1 (fun k => (hv, (shs b hv ps).take k, ps, ((ps.length : Nat) : Int), ((k : Nat) : Int), b, x, y, z)) ps.length (shs b hv ps) (fun k hk => by
    have hr : ∀ v : Int, roomFor (((shs b hv ps).take k).length + ([v] : List Int).length) 8 = true := fun v => by
      simp only [roomFor, decide_eq_true_eq, List.length_take, shs_len, List.length_singleton]; omega
    rw [shs_take b hv hk]
    unfold s_l7Shared_L1
    dsimp only
    rw [iy (by omega), iy (by omega), iy (by omega), Nat.zero_add, Int.toNat_natCast, List.getElem?_eq_getElem hk, Option.bind_some]
    unfold shr
    by_cases hkv : k < hv.length
    · have hpk := hp.all _ (List.getElem_mem hkv)
      rw [iy (by omega), iy (by omega), iy (by omega), List.getElem?_eq_getElem hkv, Option.bind_some, s_piece_eq g hpk, Option.bind_some]
      obtain ⟨m, hm, h33, hmb, _, _, hg⟩ := pcB_nat hpk
      rw [hm]
      have hc := g.len hmb
      dsimp only
      rw [Int.toNat_natCast]
      by_cases he : pcTx b ((m : Nat) : Int) = ps[k]
      · have hgk : hv[k]? = some ((m : Nat) : Int) := by rw [List.getElem?_eq_getElem hkv, hm]
        rw [if_pos (by simpa using he)]
        by_cases h2 : gb (blk b m) 1 < 250
        · rw [if_pos (show pcTx b ((m : Nat) : Int) = ps[k] ∧ gb (blk b m) 1 < 250 from ⟨he, h2⟩)]
          simp (disch := omega) only [iy, Option.bind_some, Int.toNat_natCast, blk_some hmb, show Int.toNat 1 = 1 from rfl, gb_some (show 1 < (blk b m).length by omega), Nat.zero_add, hgk, hr, if_true, eq_self, ix64]
        · rw [if_neg (show ¬ (pcTx b ((m : Nat) : Int) = ps[k] ∧ gb (blk b m) 1 < 250) from fun hh => h2 hh.2)]
          simp (disch := omega) only [iy, ino, Option.bind_some, Int.toNat_natCast, blk_some hmb, show Int.toNat 1 = 1 from rfl, gb_some (show 1 < (blk b m).length by omega), Nat.zero_add, hgk, hr, if_true, eq_self, ix64]
      · rw [if_neg (by simpa using he), Option.bind_some]
        dsimp only
        rw [if_neg (by simp), if_neg (show ¬ (pcTx b ((m : Nat) : Int) = ps[k] ∧ gb (blk b m) 1 < 250) from fun hh => he hh.1), Option.bind_some, if_pos (hr _), ix64 (by omega)]
    · have hgk : hv[k]? = none := List.getElem?_eq_none (by omega)
      simp (disch := omega) only [ino, hgk, Option.bind_some, hr, if_true, eq_self, ix64, Bool.false_eq_true, if_false]) (by
    unfold s_l7Shared_L1
    dsimp only
    rw [ino (by omega), List.take_of_length_le (by rw [shs_len]; exact Nat.le_refl _)])
  exact hL
theorem i_shared_loop {b : Bls} {x y hv : List Int} (hp : Pcs b x y hv) {ps : List (List UInt8)} (hps : ps.length ≤ 3) :
    loopG i_Space_shared_L1 (hv.map (pcOf b), [], [], ps, ((ps.length : Nat) : Int), 0) = some (pcl b (shs b hv ps) ps, flg (shs b hv ps)) := by
  have hL := loop_run i_Space_shared_L1 (fun k => (hv.map (pcOf b), (pcl b (shs b hv ps) ps).take k, (flg (shs b hv ps)).take k, ps, ((ps.length : Nat) : Int), ((k : Nat) : Int))) ps.length (pcl b (shs b hv ps) ps, flg (shs b hv ps)) (fun k hk => by
    have hr : ∀ v : Pc, roomFor (((pcl b (shs b hv ps) ps).take k).length + ([v] : List Pc).length) 32 = true := fun v => by
      simp only [roomFor, decide_eq_true_eq, List.length_take, pcl_len, List.length_singleton]; omega
    have hr2 : ∀ v : Bool, roomFor (((flg (shs b hv ps)).take k).length + ([v] : List Bool).length) 1 = true := fun v => by
      unfold flg
      simp only [roomFor, decide_eq_true_eq, List.length_take, List.length_map, shs_len, List.length_singleton]; omega
    rw [pcl_take b _ hk, flg_take b hv hk, shs_get b hv hk, Option.getD_some]
    unfold i_Space_shared_L1
    dsimp only
    rw [iy (by omega), iy (by omega), iy (by omega), Nat.zero_add, Int.toNat_natCast, List.getElem?_eq_getElem hk, Option.bind_some, List.length_map]
    unfold pcN
    by_cases hkv : k < hv.length
    · have hpk := hp.all _ (List.getElem_mem hkv)
      have hg : (hv.map (pcOf b))[k]? = some (pcOf b hv[k]) := by rw [List.getElem?_map, List.getElem?_eq_getElem hkv]; rfl
      obtain ⟨m, hm, h33, hmb, _, _, _⟩ := pcB_nat hpk
      rw [iy (by omega), iy (by omega), iy (by omega), hg, Option.bind_some, Option.bind_some]
      rw [show (pcOf b hv[k]).2.2 = pcTx b hv[k] from rfl]
      by_cases he : pcTx b hv[k] = ps[k]
      · have e21 : (pcOf b hv[k]).2.1 = gb (blk b hv[k].toNat) 1 := rfl
        rw [if_pos (by simpa using he)]
        by_cases h2 : gb (blk b hv[k].toNat) 1 < 250
        · have hs : shr b hv k ps[k] = hv[k] := by unfold shr; rw [List.getElem?_eq_getElem hkv]; dsimp only; rw [if_pos ⟨he, h2⟩]
          rw [hs, if_neg (show ¬ hv[k] = 0 by omega), decide_eq_true (show ¬ hv[k] = 0 by omega)]
          simp (disch := omega) only [iy, Option.bind_some, Int.toNat_natCast, Nat.zero_add, hg, e21, hr, hr2, if_true, eq_self, ix64, List.length_map]
          rfl
        · have hs : shr b hv k ps[k] = 0 := by unfold shr; rw [List.getElem?_eq_getElem hkv]; dsimp only; rw [if_neg (fun hh => h2 hh.2)]
          rw [hs, if_pos rfl]
          simp (disch := omega) only [iy, ino, Option.bind_some, Int.toNat_natCast, Nat.zero_add, hg, e21, hr, hr2, if_true, eq_self, ix64, List.length_map]
          rfl
      · have hs : shr b hv k ps[k] = 0 := by unfold shr; rw [List.getElem?_eq_getElem hkv]; dsimp only; rw [if_neg (fun hh => he hh.1)]
        rw [if_neg (by simpa using he), hs, if_pos rfl]
        simp (disch := omega) only [Option.bind_some, hr, hr2, if_true, eq_self, ix64, Bool.false_eq_true, if_false]
        rfl
    · have hs : shr b hv k ps[k] = 0 := by unfold shr; rw [List.getElem?_eq_none (by omega)]
      rw [hs, if_pos rfl]
      simp (disch := omega) only [ino, List.length_map, Option.bind_some, hr, hr2, if_true, eq_self, ix64, Bool.false_eq_true, if_false]
      rfl) (by
    unfold i_Space_shared_L1
    dsimp only
    rw [ino (by omega), List.take_of_length_le (by rw [pcl_len]; exact Nat.le_refl _), List.take_of_length_le (by unfold flg; rw [List.length_map, shs_len]; exact Nat.le_refl _)])
  exact hL
def haveF (b : Bls) (x y : List Int) (near : Int) : Option (List Int) := if near = 0 then some [] else ptx b x y near
theorem haveF_ok {b : Bls} {x y hv : List Int} {near : Int} (h : haveF b x y near = some hv) : Pcs b x y hv := by
  unfold haveF at h
  split at h
  · cases h; exact ⟨fun a ha => (by cases ha), List.nodup_nil, by simp⟩
  · exact (ptx_ok h).1
theorem s_shared_eq {b : Bls} {x y z hv : List Int} {near : Int} {t : List UInt8} (g : RS b x y) (h : haveF b x y near = some hv) (ht : t.length ≤ 120) : s_l7Shared b x y z t near = some (shs b hv (cutT 3 t)) := by
  have hp := haveF_ok h
  unfold s_l7Shared
  unfold haveF at h
  by_cases hn : near = 0
  · rw [if_pos hn] at h
    cases h
    rw [ino (by simpa using hn), Option.bind_some]
    dsimp only
    rw [s_cut_eq ht, Option.bind_some, s_shared_loop g hp (cutT_len _ _)]; rfl
  · rw [if_neg hn] at h
    obtain ⟨l', e⟩ := s_pieces_eq (z := z) g near
    rw [h] at e
    rw [iy hn, e, Option.bind_some, Option.bind_some]
    dsimp only
    rw [s_cut_eq ht, Option.bind_some, s_shared_loop g hp (cutT_len _ _)]; rfl
theorem i_shared_eq {b : Bls} {x y z : List Int} {near : Int} {t : List UInt8} (g : RS b x y) (ht : t.length ≤ 120) : i_Space_shared (b, x, y, z) t near =
    some (match haveF b x y near with | some hv => (pcl b (shs b hv (cutT 3 t)) (cutT 3 t), flg (shs b hv (cutT 3 t)), true) | none => ([], [], false)) := by
  unfold i_Space_shared haveF
  by_cases hn : near = 0
  · have hp : Pcs b x y [] := ⟨fun a ha => (by cases ha), List.nodup_nil, by simp⟩
    have e := i_shared_loop hp (ps := cutT 3 t) (cutT_len _ _)
    rw [List.map_nil] at e
    rw [ino (by simpa using hn), Option.bind_some, if_pos hn]
    dsimp only
    rw [i_cut_eq ht, Option.bind_some, e]; rfl
  · have e := i_pieces_eq (z := z) g near
    rw [iy hn, e, Option.bind_some, if_neg hn]
    cases hp : ptx b x y near with
    | none => rfl
    | some hv =>
      dsimp only
      rw [if_neg (by simp), Option.bind_some]
      dsimp only
      rw [i_cut_eq ht, Option.bind_some, i_shared_loop (ptx_ok hp).1 (cutT_len _ _)]; rfl
def zs (l : List Int) : Nat := l.countP fun a => decide (a = 0)
theorem s_needText_eq {b : Bls} {x y z hv : List Int} {near : Int} {t : List UInt8} (g : RS b x y) (h : haveF b x y near = some hv) (ht : t.length ≤ 120) : s_l7NeedText b x y z t near = some ((zs (shs b hv (cutT 3 t)) + 1 : Nat) : Int) := by
  have hl : (shs b hv (cutT 3 t)).length ≤ 3 := by rw [shs_len]; exact cutT_len _ _
  unfold s_l7NeedText
  rw [s_shared_eq g h ht, Option.bind_some]
  generalize shs b hv (cutT 3 t) = l at *
  have hL := loop_run s_l7NeedText_L1 (fun k => (((zs (l.take k) + 1 : Nat) : Int), l, ((l.length : Nat) : Int), ((k : Nat) : Int))) l.length (((zs l + 1 : Nat) : Int)) (fun k hk => by
    have hz : zs (l.take k) ≤ 3 := Nat.le_trans List.countP_le_length (by rw [List.length_take]; omega)
    have e : zs (l.take (k + 1)) = zs (l.take k) + if l[k] = 0 then 1 else 0 := by
      unfold zs
      rw [List.take_succ_eq_append_getElem hk, List.countP_append]
      by_cases h0 : l[k] = 0 <;> simp [h0]
    unfold s_l7NeedText_L1
    dsimp only
    rw [iy (by omega), iy (by omega), iy (by omega), Nat.zero_add, Int.toNat_natCast, List.getElem?_eq_getElem hk, Option.bind_some, e]
    by_cases h0 : l[k] = 0
    · rw [iy h0, Option.bind_some, if_pos h0]
      dsimp only
      rw [ix64 (by omega), ix64 (by omega)]
    · rw [ino h0, Option.bind_some, if_neg h0]
      dsimp only
      rw [ix64 (by omega)]) (by
    unfold s_l7NeedText_L1
    dsimp only
    rw [ino (by omega), List.take_length])
  have hL' : loopG s_l7NeedText_L1 (1, l, ((l.length : Nat) : Int), 0) = _ := hL
  rw [hL']; rfl
end Go.V.G

set_option linter.unusedVariables false
set_option linter.unusedSimpArgs false
set_option maxRecDepth 100000
namespace Go.V.G
open Go.V
theorem Wk.wq {n lz : Nat} {b : Bls} {x z : List Int} (h : Wk n b x z lz) : Wq b x z lz := ⟨by have := h.hn; have := h.hb; omega, h.hx, h.hu, h.hr, h.hz⟩
theorem tk_ok {n lz : Nat} {b : Bls} {x y z : List Int} (h : Wk n b x z lz) (hlz : lz ≤ 1048000) :
    (cnt x n = 0 ∧ i_Space_take_oooo b x y z = some (0, false, b, x, y, z)) ∨
    ∃ k : Nat, (33 ≤ k ∧ k < n) ∧ bit x k = false ∧ s_l5Take_oooo b x y z = some (((k : Nat) : Int), b.set k zeroB, setB x k, y, pt z ((k : Nat) : Int)) ∧
      i_Space_take_oooo b x y z = some (((k : Nat) : Int), true, b.set k zeroB, setB x k, y, pt z ((k : Nat) : Int)) ∧ Wk n (b.set k zeroB) (setB x k) (pt z ((k : Nat) : Int)) (lz + 1) ∧ cnt (setB x k) n + 1 = cnt x n := by
  rcases take_wk (y := y) h hlz with h0 | ⟨k, b', x', z', hk, hs, hi, hw, hc⟩
  · exact .inl h0
  · right
    obtain ⟨r, hr, hq⟩ := take_q (y := y) h.wq hlz
    rw [hs] at hr
    have hr' := Option.some.inj hr
    rcases hq with e | ⟨k2, z2, h1, h2, h3, e⟩
    · rw [e] at hr'
      have := congrArg (·.1) hr'
      dsimp only at this
      omega
    · rw [e] at hr'
      have ek := congrArg (·.1) hr'
      have eb := congrArg (·.2.1) hr'
      have ex := congrArg (·.2.2.1) hr'
      have ez := congrArg (·.2.2.2.2) hr'
      dsimp only at ek eb ex ez
      obtain rfl : k = k2 := by omega
      have e2 : z2 = pt z ((k : Nat) : Int) := by unfold pt; rw [h3]; rfl
      subst eb ex ez
      rw [e2] at hs hi hw
      exact ⟨k, hk, h2, hs, hi, hw, hc⟩
theorem Wk.lay {n lz : Nat} {b : Bls} {x z c : List Int} (h : Wk n b x z lz) (hlz : lz ≤ 1048000) (hc : c.length = 128) (k : Nat) : Wk n (b.set k c) x (pt z ((k : Nat) : Int)) (lz + 1) := by
  have hz := h.hz
  obtain ⟨_, _, h3, h4, _⟩ := pt_eq (z := z) (by omega) h.hr ((k : Nat) : Int)
  exact ⟨h.hn, by rw [List.length_set]; exact h.hb, fun d hd => by
    rcases List.mem_or_eq_of_mem_set hd with hd | rfl
    · exact h.hk d hd
    · exact hc, h.hx, h.hu, h.hlow, h4, by omega⟩
structure Sh (b : Bls) (x y sh : List Int) (ps : List (List UInt8)) : Prop where
  len : sh.length = ps.length
  m3 : ps.length ≤ 3
  pc : ∀ p ∈ ps, 1 ≤ p.length ∧ p.length ≤ 40
  at_ : ∀ j, j < ps.length → sh[j]? = some 0 ∨ ∃ m : Nat, sh[j]? = some ((m : Nat) : Int) ∧ pcB b x y ((m : Nat) : Int) = true ∧ pcTx b ((m : Nat) : Int) = ps[j]?.getD [] ∧ gb (blk b m) 1 < 250
  ne : ∀ (i j : Nat) (v : Int), i < j → sh[i]? = some v → sh[j]? = some v → v = 0
theorem shs_sh {b : Bls} {x y hv : List Int} (hp : Pcs b x y hv) (t : List UInt8) : Sh b x y (shs b hv (cutT 3 t)) (cutT 3 t) := by
  refine ⟨shs_len _ _ _, cutT_len _ _, cutT_piece 3 t, fun j hj => ?_, fun i j v hij hi hj => ?_⟩
  · rw [shs_get b hv hj, List.getElem?_eq_getElem hj, Option.getD_some]
    rcases shr_cases b hv j (cutT 3 t)[j] with h0 | ⟨h1, h2, h3, h4⟩
    · rw [h0]; exact .inl rfl
    · right
      have hpj := hp.all _ (List.getElem_mem h1)
      obtain ⟨m, hm, _⟩ := pcB_nat hpj
      rw [hm, Int.toNat_natCast] at h4
      rw [hm] at h2 h3 hpj
      exact ⟨m, by rw [h2], hpj, h3, h4⟩
  · have hjl : j < (cutT 3 t).length := by
      have := (List.getElem?_eq_some_iff.1 hj).1
      rw [shs_len] at this; exact this
    rw [shs_get b hv (by omega)] at hi
    rw [shs_get b hv hjl] at hj
    have hi' := Option.some.inj hi
    have hj' := Option.some.inj hj
    rcases shr_cases b hv i (cutT 3 t)[i] with h0 | ⟨h1, h2, _⟩
    · rw [h0] at hi'; exact hi'.symm
    · rcases shr_cases b hv j (cutT 3 t)[j] with k0 | ⟨k1, k2, _⟩
      · rw [k0] at hj'; exact hj'.symm
      · rw [h2] at hi'
        rw [k2] at hj'
        exact absurd (hi'.trans hj'.symm) (List.pairwise_iff_getElem.1 hp.nd i j h1 k1 hij)
structure Li (n : Nat) (b : Bls) (x z sh : List Int) (ps : List (List UInt8)) (k : Nat) (A : List Int) (b' : Bls) (x' z' : List Int) (q : Nat) : Prop where
  wk : Wk n b' x' z' q
  bu : ∀ c ∈ b', U8s c
  len : A.length = k
  nd : A.Nodup
  at_ : ∀ j, j < k → ∃ m : Nat, A[j]? = some ((m : Nat) : Int) ∧ (33 ≤ m ∧ m < n) ∧ bit x' m = true ∧
    ((sh[j]? = some 0 ∧ bit x m = false ∧ blk b' m = padB ([83, 1, (((ps[j]?.getD []).length : Nat) : Int)] ++ bytesOf (ps[j]?.getD []))) ∨ (sh[j]? = some ((m : Nat) : Int) ∧ blk b' m = (blk b m).set 1 (gb (blk b m) 1 + 1)))
  oth : ∀ i, i < 160 → ((i : Nat) : Int) ∉ A → blk b' i = blk b i ∧ bit x' i = bit x i
  up : ∀ i, i < 160 → bit x i = true → bit x' i = true
  zm : ∀ v ∈ z', v ∈ z ∨ v ∈ A
  ct : cnt x' n + zs (sh.take k) = cnt x n
theorem Li.mem {n k q : Nat} {b b' : Bls} {x z sh x' z' A : List Int} {ps : List (List UInt8)} (h : Li n b x z sh ps k A b' x' z' q) {a : Int} (ha : a ∈ A) : ∃ j m : Nat, j < k ∧ a = ((m : Nat) : Int) ∧ A[j]? = some ((m : Nat) : Int) ∧ (33 ≤ m ∧ m < n) ∧ bit x' m = true ∧
    ((sh[j]? = some 0 ∧ bit x m = false) ∨ sh[j]? = some ((m : Nat) : Int)) := by
  obtain ⟨j, hj, he⟩ := List.getElem_of_mem ha
  have hl := h.len
  obtain ⟨m, h1, h2, h3, h4⟩ := h.at_ j (by omega)
  rw [List.getElem?_eq_getElem hj] at h1
  have := Option.some.inj h1
  refine ⟨j, m, by omega, by rw [← he, this], by rw [List.getElem?_eq_getElem hj, this], h2, h3, ?_⟩
  rcases h4 with ⟨p1, p2, _⟩ | ⟨p1, _⟩
  · exact .inl ⟨p1, p2⟩
  · exact .inr p1
theorem u8_pad {d : List Int} (h : U8s d) : U8s (padB d) := fun v hv => by
  unfold padB at hv
  rcases List.mem_append.1 hv with hv | hv
  · exact h v hv
  · rw [List.eq_of_mem_replicate hv]; omega
theorem u8_bytes (s : List UInt8) : U8s (bytesOf s) := fun v hv => by
  unfold bytesOf at hv
  obtain ⟨c, _, rfl⟩ := List.mem_map.1 hv
  have := c.toNat_lt
  omega
def npc (p : List UInt8) : List Int := [83, 1, ((p.length : Nat) : Int)] ++ bytesOf p
theorem npc_len (p : List UInt8) : (npc p).length = 3 + p.length := by unfold npc; simp only [List.length_append, List.length_cons, List.length_nil, bytesOf_len2]
theorem npc_u8 {p : List UInt8} (h : p.length ≤ 40) : U8s (npc p) := fun v hv => by
  unfold npc at hv
  rcases List.mem_append.1 hv with hv | hv
  · simp only [List.mem_cons, List.not_mem_nil, or_false] at hv
    rcases hv with rfl | rfl | rfl <;> omega
  · exact u8_bytes p v hv
theorem zs_take {l : List Int} {k : Nat} {a : Int} (h : l[k]? = some a) : zs (l.take (k + 1)) = zs (l.take k) + if a = 0 then 1 else 0 := by
  obtain ⟨hk, he⟩ := List.getElem?_eq_some_iff.1 h
  unfold zs
  rw [List.take_succ_eq_append_getElem hk, List.countP_append, he]
  by_cases h0 : a = 0 <;> simp [h0]
theorem w8d {m : Nat} (h : m < 160) : IntKind.wrap .u8 (IntKind.wrap .i64 (Int.tdiv ((m : Nat) : Int) 256)) = 0 := by
  rw [Int.tdiv_eq_ediv_of_nonneg (by omega), w64 (by omega) (by omega), wub (by omega) (by omega)]; omega
theorem two_eq {m : Nat} (h : m < 160) : i_two ((m : Nat) : Int) = some [0, ((m : Nat) : Int)] := by
  unfold i_two
  rw [iy (by omega), show (2 : Int) ^ (min (Int.toNat 8) (IntKind.bits .i64)) = 256 from rfl, Int.fdiv_eq_ediv_of_nonneg _ (by omega), wub (r := ((m : Nat) : Int)) (by omega) (by omega), wub (by omega) (by omega)]
  have : ((m : Nat) : Int) / 256 = 0 := by omega
  rw [this]
theorem lay_text_step {n k q : Nat} {b b' : Bls} {x y z sh x' z' A acc : List Int} {ps : List (List UInt8)} (g : RS b x y) (hb : b.length = n) (hs : Sh b x y sh ps) (h : Li n b x z sh ps k A b' x' z' q) (hq : q ≤ 1000) (hk : k < ps.length) (hacc : acc.length ≤ 20) :
    (sh[k]? = some 0 ∧ cnt x' n = 0 ∧ i_Space_layText_oooo_L1 (flg sh, acc, pcl b sh ps, ((ps.length : Nat) : Int), ((k : Nat) : Int), b', x', y, z') = some (.inr (.inr (0, false, b', x', y, z')))) ∨
    ∃ (a : Int) (b2 : Bls) (x2 z2 : List Int), Li n b x z sh ps (k + 1) (A ++ [a]) b2 x2 z2 (q + 2) ∧
      s_l7LayText_oooo_L1 (sh, acc, ps, ((ps.length : Nat) : Int), ((k : Nat) : Int), b', x', y, z') = some (.inl (sh, acc ++ [0, a], ps, ((ps.length : Nat) : Int), ((k + 1 : Nat) : Int), b2, x2, y, z2)) ∧
      i_Space_layText_oooo_L1 (flg sh, acc, pcl b sh ps, ((ps.length : Nat) : Int), ((k : Nat) : Int), b', x', y, z') = some (.inl (flg sh, acc ++ [0, a], pcl b sh ps, ((ps.length : Nat) : Int), ((k + 1 : Nat) : Int), b2, x2, y, z2)) := by
  have hn := h.wk.hn
  have hm3 := hs.m3
  have hsl := hs.len
  have hpk := hs.pc _ (List.getElem_mem hk)
  have hgp : ps[k]? = some ps[k] := List.getElem?_eq_getElem hk
  have hb' := h.wk.hb
  have hx' := h.wk.hx
  have hzz := h.wk.hz
  have hr2 : ∀ v w : Int, roomFor (acc.length + ([v, w] : List Int).length) 1 = true := fun v w => by
    simp only [roomFor, decide_eq_true_eq, List.length_cons, List.length_nil]; omega
  rcases hs.at_ k hk with h0 | ⟨m, hm, hpB, htx, h250⟩
  · -- a new piece
    have hpl : (pcl b sh ps)[k]? = some (0, 0, ps[k]) := by rw [pcl_get b sh hk, h0]; rfl
    have hfl : (flg sh)[k]? = some false := by unfold flg; rw [List.getElem?_map, h0]; rfl
    have hfll : (flg sh).length = ps.length := by unfold flg; rw [List.length_map, hsl]
    have hnl := npc_len ps[k]
    rcases tk_ok (y := y) h.wk (by omega) with ⟨hc0, hi0⟩ | ⟨a, ha, hba, hts, hti, hw, hcc⟩
    · refine .inl ⟨h0, hc0, ?_⟩
      unfold i_Space_layText_oooo_L1
      simp (disch := omega) only [iy, Nat.zero_add, Int.toNat_natCast, hpl, hfl, pcl_len, hfll, Option.bind_some, Bool.not_false, if_true, eq_self, hi0]
    · right
      have hset : (b'.set a zeroB).set a (padB (npc ps[k])) = b'.set a (padB (npc ps[k])) := List.set_set ..
      have hab : a < b'.length := by omega
      have hlb : a < (b'.set a zeroB).length := by rw [List.length_set]; exact hab
      have e1 := s_lay_eq (x := setB x' a) (y := y) (d := npc ps[k]) (by omega) hlb (z := pt z' ((a : Nat) : Int)) (by have := hw.hz; omega) hw.hr
      have e2 := i_layPiece_eq (x := setB x' a) (y := y) (s := 1) (t := ps[k]) hpk.2 hlb (z := pt z' ((a : Nat) : Int)) (by have := hw.hz; omega) hw.hr
      rw [wub (r := 1) (by omega) (by omega)] at e2
      rw [hset] at e1
      have e2' : i_Space_layPiece_oooo ((a : Nat) : Int) 1 ps[k] (b'.set a zeroB) (setB x' a) y (pt z' ((a : Nat) : Int)) = some (b'.set a (padB (npc ps[k])), setB x' a, y, pt (pt z' ((a : Nat) : Int)) ((a : Nat) : Int)) := by rw [e2]; exact congrArg (fun w => some (w, _)) hset
      have hroom : roomFor (([83, 1, ((List.length ps[k] : Nat) : Int)] : List Int).length + (bytesOf ps[k]).length) 1 = true := by
        simp only [roomFor, decide_eq_true_eq, List.length_cons, List.length_nil, bytesOf_len2]; omega
      have enp : ([83, 1, ((List.length ps[k] : Nat) : Int)] ++ bytesOf ps[k] : List Int) = npc ps[k] := rfl
      have hnA : ((a : Nat) : Int) ∉ A := fun hh => by
        obtain ⟨j, m, _, hm, _, _, hbm, _⟩ := h.mem hh
        have : a = m := by omega
        subst this
        rw [hba] at hbm; cases hbm
      have hbx : bit x a = false := by
        have := (h.oth a (by omega) hnA).2
        rw [hba] at this; exact this.symm
      have hw2 := hw.lay (by omega) (padB_len (by omega : (npc ps[k]).length ≤ 128)) a
      rw [hset] at hw2
      refine ⟨((a : Nat) : Int), _, _, _, ⟨hw2, ?_, by rw [List.length_append, h.len]; rfl, ?_, ?_, ?_, ?_, ?_, ?_⟩, ?_, ?_⟩
      · intro c hc
        rcases List.mem_or_eq_of_mem_set hc with hc | rfl
        · exact h.bu c hc
        · exact u8_pad (npc_u8 hpk.2)
      · rw [List.nodup_append]
        refine ⟨h.nd, by simp, fun u hu v hv => ?_⟩
        rw [List.mem_singleton.1 hv]
        rintro rfl; exact hnA hu
      · intro j hj
        by_cases hjk : j = k
        · subst hjk
          refine ⟨a, by rw [List.getElem?_append_right (by rw [h.len]; exact Nat.le_refl _), h.len]; simp, ha, by rw [bit_set h.wk.hu (by omega) (by omega)]; simp, .inl ⟨h0, hbx, ?_⟩⟩
          rw [blk_set_eq hab, hgp]; rfl
        · obtain ⟨m, h1, h2, h3, h4⟩ := h.at_ j (by omega)
          have hma : a ≠ m := by
            rintro rfl
            rw [hba] at h3; cases h3
          refine ⟨m, by rw [List.getElem?_append_left (by rw [h.len]; omega), h1], h2, by rw [bit_set h.wk.hu (by omega) (by omega), h3, Bool.or_true], ?_⟩
          rw [blk_set_ne hma]
          exact h4
      · intro i hi hiA
        rw [List.mem_append, List.mem_singleton] at hiA
        have hai : a ≠ i := by rintro rfl; exact hiA (.inr rfl)
        rw [blk_set_ne hai, bit_set h.wk.hu (by omega) (by omega), decide_eq_false (Ne.symm hai), Bool.false_or]
        exact h.oth i hi fun hh => hiA (.inl hh)
      · intro i hi hbi
        rw [bit_set h.wk.hu (by omega) (by omega), h.up i hi hbi, Bool.or_true]
      · intro v hv
        obtain ⟨_, _, _, _, m1⟩ := pt_eq (z := z') (by omega) h.wk.hr ((a : Nat) : Int)
        obtain ⟨_, _, _, _, m2⟩ := pt_eq (z := pt z' ((a : Nat) : Int)) (by have := hw.hz; omega) hw.hr ((a : Nat) : Int)
        rcases (m2 v).1 hv with hv | rfl
        · rcases (m1 v).1 hv with hv | rfl
          · exact (h.zm v hv).imp id fun hh => by simp [hh]
          · exact .inr (by simp)
        · exact .inr (by simp)
      · rw [zs_take h0, if_pos rfl]
        have := h.ct
        omega
      · unfold s_l7LayText_oooo_L1
        simp (disch := omega) only [iy, Nat.zero_add, Int.toNat_natCast, hgp, h0, decide_true, Option.bind_some, hts, hroom, if_true, eq_self, enp, e1, hr2, w8d (m := a) (by omega), wub, ix64]
      · unfold i_Space_layText_oooo_L1
        simp (disch := omega) only [iy, Nat.zero_add, Int.toNat_natCast, hpl, hfl, pcl_len, hfll, Option.bind_some, Bool.not_false, if_true, eq_self, hti, Bool.not_true, Bool.false_eq_true, if_false, w64, Int.zero_add, e2', two_eq (m := a) (by omega), hr2, ix64]
        rfl
  · -- a shared piece
    right
    obtain ⟨m', hm', h33, hmb, hbm, hmy, hg⟩ := pcB_nat hpB
    obtain rfl : m = m' := by omega
    have hpl : (pcl b sh ps)[k]? = some (pcOf b ((m : Nat) : Int)) := by
      rw [pcl_get b sh hk, hm, Option.getD_some]
      unfold pcN
      rw [if_neg (by omega)]
    have hfl : (flg sh)[k]? = some true := by
      unfold flg
      rw [List.getElem?_map, hm, Option.map_some, decide_eq_true (by omega)]
    have hfll : (flg sh).length = ps.length := by unfold flg; rw [List.length_map, hsl]
    have hnA : ((m : Nat) : Int) ∉ A := fun hh => by
      obtain ⟨j, m2, hj, hm2, _, _, _, h4⟩ := h.mem hh
      obtain rfl : m = m2 := by omega
      rcases h4 with ⟨_, h5⟩ | h5
      · rw [hbm] at h5; cases h5
      · have := hs.ne j k _ hj h5 hm
        omega
    have hmn : m < n := by omega
    obtain ⟨hbk, _⟩ := h.oth m (by omega) hnA
    have hmb' : m < b'.length := by omega
    have hc := h.wk.hk _ (blk_mem hmb')
    have hu := h.bu _ (blk_mem hmb')
    have u1 := gb_u8 hu 1
    rw [← hbk] at h250 hg
    have hps := piece_set hc hu hg (gb (blk b' m) 1 + 1)
    have etx : pcTx b ((m : Nat) : Int) = textOf (((blk b' m).drop 3).take (gb (blk b' m) 2).toNat) := by unfold pcTx; rw [Int.toNat_natCast, hbk]
    have e1 := s_lay_eq (x := x') (y := y) (d := (blk b' m).set 1 (gb (blk b' m) 1 + 1)) (by rw [List.length_set]; omega) hmb' (by omega) h.wk.hr
    rw [padB_id (by rw [List.length_set]; exact hc)] at e1
    have e2 := i_layPiece_eq (x := x') (y := y) (s := gb (blk b' m) 1 + 1) (t := pcTx b ((m : Nat) : Int)) (tx_le b hpB) hmb' (z := z') (by omega) h.wk.hr
    rw [wub (r := gb (blk b' m) 1 + 1) (by omega) (by omega), etx, ← hps, ← etx] at e2
    have hw2 := h.wk.lay (by omega) (c := (blk b' m).set 1 (gb (blk b' m) 1 + 1)) (by rw [List.length_set]; exact hc) m
    refine ⟨((m : Nat) : Int), _, _, _, ⟨⟨hw2.hn, hw2.hb, hw2.hk, hw2.hx, hw2.hu, hw2.hlow, hw2.hr, by have := hw2.hz; omega⟩, ?_, by rw [List.length_append, h.len]; rfl, ?_, ?_, ?_, h.up, ?_, ?_⟩, ?_, ?_⟩
    · intro c hc'
      rcases List.mem_or_eq_of_mem_set hc' with hc' | rfl
      · exact h.bu c hc'
      · exact u8_setv hu (by omega)
    · rw [List.nodup_append]
      refine ⟨h.nd, by simp, fun u hu v hv => ?_⟩
      rw [List.mem_singleton.1 hv]
      rintro rfl; exact hnA hu
    · intro j hj
      by_cases hjk : j = k
      · subst hjk
        refine ⟨m, by rw [List.getElem?_append_right (by rw [h.len]; exact Nat.le_refl _), h.len]; simp, ⟨h33, hmn⟩, h.up m (by omega) hbm, .inr ⟨hm, ?_⟩⟩
        rw [blk_set_eq hmb', hbk]
      · obtain ⟨m2, h1, h2, h3, h4⟩ := h.at_ j (by omega)
        have hma : m ≠ m2 := by
          rintro rfl
          exact hnA (List.mem_of_getElem? h1)
        refine ⟨m2, by rw [List.getElem?_append_left (by rw [h.len]; omega), h1], h2, h3, ?_⟩
        rw [blk_set_ne hma]
        exact h4
    · intro i hi hiA
      rw [List.mem_append, List.mem_singleton] at hiA
      have hai : m ≠ i := by rintro rfl; exact hiA (.inr rfl)
      rw [blk_set_ne hai]
      exact h.oth i hi fun hh => hiA (.inl hh)
    · intro v hv
      obtain ⟨_, _, _, _, m1⟩ := pt_eq (z := z') (by omega) h.wk.hr ((m : Nat) : Int)
      rcases (m1 v).1 hv with hv | rfl
      · exact (h.zm v hv).imp id fun hh => by simp [hh]
      · exact .inr (by simp)
    · rw [zs_take hm, if_neg (by omega)]
      exact h.ct
    · have hbs := blk_some hmb'
      have hroom : roomFor (([] : List Int).length + (blk b' m).length) 1 = true := by rw [hc]; rfl
      have hg1 : (blk b' m)[1]? = some (gb (blk b' m) 1) := gb_some (by omega)
      unfold s_l7LayText_oooo_L1
      simp (disch := omega) only [iy, ino, Nat.zero_add, Int.toNat_natCast, hgp, hm, Option.bind_some, hbs, hroom, List.nil_append, show Int.toNat 1 = 1 from rfl, hg1, wub, if_true, eq_self, e1, hr2, w8d (m := m) (by omega), ix64]
    · have e3 : (pcOf b ((m : Nat) : Int)).2.1 = gb (blk b' m) 1 := by rw [hbk]; rfl
      have e4 : (pcOf b ((m : Nat) : Int)).1 = ((m : Nat) : Int) := rfl
      have e5 : (pcOf b ((m : Nat) : Int)).2.2 = pcTx b ((m : Nat) : Int) := rfl
      unfold i_Space_layText_oooo_L1
      simp (disch := omega) only [iy, Nat.zero_add, Int.toNat_natCast, hpl, hfl, pcl_len, hfll, Option.bind_some, if_true, eq_self, Bool.not_true, Bool.false_eq_true, if_false, e3, e4, e5, w64, e2, two_eq (m := m) (by omega), hr2, ix64]
      rfl
end Go.V.G

set_option linter.unusedVariables false
set_option linter.unusedSimpArgs false
set_option maxRecDepth 100000
namespace Go.V.G
open Go.V
def ats (m : Nat) (A : List Int) : List Int := [84, ((m : Nat) : Int)] ++ A.flatMap fun a => [0, a]
theorem ats_len (m : Nat) (A : List Int) : (ats m A).length = 2 + 2 * A.length := by
  unfold ats
  rw [List.length_append, List.length_flatMap]
  have : (A.map fun a => ([0, a] : List Int).length) = A.map fun _ => 2 := rfl
  rw [this]
  have e : ∀ l : List Int, (l.map fun _ => 2).sum = 2 * l.length := fun l => by
    induction l with
    | nil => rfl
    | cons a l ih => rw [List.map_cons, List.sum_cons, ih, List.length_cons]; omega
  rw [e]; rfl
theorem ats_snoc (m : Nat) (A : List Int) (a : Int) : ats m (A ++ [a]) = ats m A ++ [0, a] := by
  unfold ats
  rw [List.flatMap_append, List.append_assoc]; rfl
theorem zs_le {l : List Int} (k : Nat) : zs (l.take k) ≤ zs l := List.Sublist.countP_le (List.take_sublist k l)
theorem lay_text_loop {n q : Nat} {b : Bls} {x y z sh : List Int} {ps : List (List UInt8)} (g : RS b x y) (hb : b.length = n) (hs : Sh b x y sh ps) (hq : q ≤ 900) : ∀ (f k : Nat) (A : List Int) (b' : Bls) (x' z' : List Int), k + f = ps.length →
    Li n b x z sh ps k A b' x' z' (q + 2 * k) →
    (∃ (A' : List Int) (b2 : Bls) (x2 z2 : List Int), Li n b x z sh ps ps.length A' b2 x2 z2 (q + 2 * ps.length) ∧
      loopG s_l7LayText_oooo_L1 (sh, ats ps.length A, ps, ((ps.length : Nat) : Int), ((k : Nat) : Int), b', x', y, z') = some (ats ps.length A', b2, x2, y, z2) ∧
      loopG i_Space_layText_oooo_L1 (flg sh, ats ps.length A, pcl b sh ps, ((ps.length : Nat) : Int), ((k : Nat) : Int), b', x', y, z') = some (.inl (ats ps.length A', b2, x2, y, z2))) ∨
    (cnt x n < zs sh ∧ ∃ (b2 : Bls) (x2 z2 : List Int), loopG i_Space_layText_oooo_L1 (flg sh, ats ps.length A, pcl b sh ps, ((ps.length : Nat) : Int), ((k : Nat) : Int), b', x', y, z') = some (.inr (0, false, b2, x2, y, z2)))
  | 0, k, A, b', x', z', hk, h => by
    obtain rfl : k = ps.length := by omega
    refine .inl ⟨A, b', x', z', h, ?_, ?_⟩
    · have : s_l7LayText_oooo_L1 (sh, ats ps.length A, ps, ((ps.length : Nat) : Int), ((ps.length : Nat) : Int), b', x', y, z') = some (.inr (ats ps.length A, b', x', y, z')) := by
        unfold s_l7LayText_oooo_L1
        dsimp only
        rw [ino (by omega)]
      rw [loopG_eq, this]
    · have : i_Space_layText_oooo_L1 (flg sh, ats ps.length A, pcl b sh ps, ((ps.length : Nat) : Int), ((ps.length : Nat) : Int), b', x', y, z') = some (.inr (.inl (ats ps.length A, b', x', y, z'))) := by
        unfold i_Space_layText_oooo_L1
        dsimp only
        rw [ino (by omega)]
      rw [loopG_eq, this]
  | f + 1, k, A, b', x', z', hk, h => by
    have hm3 := hs.m3
    have hal := ats_len ps.length A
    have hl := h.len
    rcases lay_text_step (acc := ats ps.length A) g hb hs h (by omega) (by omega) (by omega) with ⟨h0, hc, hi⟩ | ⟨a, b2, x2, z2, h1, h2, h3⟩
    · refine .inr ⟨?_, b', x', z', by rw [loopG_eq, hi]⟩
      have e1 := zs_take h0
      rw [if_pos rfl] at e1
      have e2 := zs_le (l := sh) (k + 1)
      have := h.ct
      omega
    · rw [loopG_eq, h2, loopG_eq, h3, ← ats_snoc]
      exact lay_text_loop g hb hs hq f (k + 1) (A ++ [a]) b2 x2 z2 (by omega) h1
structure Lt (n : Nat) (b : Bls) (x z sh : List Int) (ps : List (List UInt8)) (A : List Int) (r : Nat) (b' : Bls) (x' z' : List Int) (q : Nat) : Prop where
  wk : Wk n b' x' z' q
  bu : ∀ c ∈ b', U8s c
  len : A.length = ps.length
  nd : A.Nodup
  rt : (33 ≤ r ∧ r < n) ∧ bit x r = false ∧ bit x' r = true ∧ blk b' r = padB (ats ps.length A) ∧ ((r : Nat) : Int) ∉ A
  at_ : ∀ j, j < ps.length → ∃ m : Nat, A[j]? = some ((m : Nat) : Int) ∧ (33 ≤ m ∧ m < n) ∧ bit x' m = true ∧
    ((sh[j]? = some 0 ∧ bit x m = false ∧ blk b' m = padB (npc (ps[j]?.getD []))) ∨ (sh[j]? = some ((m : Nat) : Int) ∧ blk b' m = (blk b m).set 1 (gb (blk b m) 1 + 1)))
  oth : ∀ i, i < 160 → ((i : Nat) : Int) ∉ A → i ≠ r → blk b' i = blk b i ∧ bit x' i = bit x i
  up : ∀ i, i < 160 → bit x i = true → bit x' i = true
  zm : ∀ v ∈ z', v ∈ z ∨ v ∈ A ∨ v = ((r : Nat) : Int)
  ct : cnt x' n + zs sh + 1 = cnt x n
theorem u8_ats {m : Nat} {A : List Int} (hm : m ≤ 255) (h : ∀ a ∈ A, 0 ≤ a ∧ a ≤ 255) : U8s (ats m A) := fun v hv => by
  unfold ats at hv
  rcases List.mem_append.1 hv with hv | hv
  · simp only [List.mem_cons, List.not_mem_nil, or_false] at hv
    rcases hv with rfl | rfl <;> omega
  · obtain ⟨a, ha, hv⟩ := List.mem_flatMap.1 hv
    simp only [List.mem_cons, List.not_mem_nil, or_false] at hv
    rcases hv with rfl | rfl
    · omega
    · exact h _ ha
theorem GS.wk {b : Bls} {x y z : List Int} (g : GS b x y z) (hu : U8s x) : Wk b.length b x z 127 := by
  obtain ⟨r1, r2⟩ := ris_of g.hz
  have hb := g.hb
  exact ⟨g.hb, rfl, g.hk, g.hx, hu, fun k hk => by
    have := g.hbits k (by omega)
    unfold bG at this
    rw [decide_eq_true hk, decide_eq_false (show ¬ b.length ≤ k by omega)] at this
    simpa using this, r1, ris_len r1 (fun i hi => by have := r2 i hi; omega)⟩
theorem layText_both {b : Bls} {x y z hv : List Int} {near : Int} {t : List UInt8} (g : GS b x y z) (h : SB b x y z) (hu : ∀ c ∈ b, U8s c) (hux : U8s x) (hh : haveF b x y near = some hv) (ht : t.length ≤ 120) :
    (∃ (A : List Int) (r : Nat) (b2 : Bls) (x2 z2 : List Int), Lt b.length b x z (shs b hv (cutT 3 t)) (cutT 3 t) A r b2 x2 z2 200 ∧
      s_l7LayText_oooo t near b x y z = some (((r : Nat) : Int), b2, x2, y, z2) ∧ i_Space_layText_oooo t near b x y z = some (((r : Nat) : Int), true, b2, x2, y, z2)) ∨
    (cnt x b.length < zs (shs b hv (cutT 3 t)) + 1 ∧ ∃ (k : Int) (b2 : Bls) (x2 z2 : List Int), i_Space_layText_oooo t near b x y z = some (k, false, b2, x2, y, z2)) := by
  have rs := g.rs h hu
  have hp := haveF_ok hh
  have hs := shs_sh hp t
  have hm3 := hs.m3
  have e1 := s_shared_eq (z := z) rs hh ht
  have e2 := i_shared_eq (z := z) (near := near) rs ht
  rw [hh] at e2
  have hb := g.hb
  unfold s_l7LayText_oooo i_Space_layText_oooo
  rw [e1, e2, Option.bind_some, Option.bind_some, s_cut_eq ht, Option.bind_some]
  dsimp only
  generalize cutT 3 t = ps at *
  generalize shs b hv ps = sh at *
  have hsl := hs.len
  rw [pcl_len, hsl, wub (r := ((ps.length : Nat) : Int)) (by omega) (by omega)]
  have hL0 : Li b.length b x z sh ps 0 [] b x z (127 + 2 * 0) := ⟨g.wk hux, hu, rfl, List.nodup_nil, fun j hj => absurd hj (by omega), fun i hi _ => ⟨rfl, rfl⟩, fun i hi hb => hb, fun v hv => .inl hv, by simp [zs]⟩
  have hA0 : ([84, ((ps.length : Nat) : Int)] : List Int) = ats ps.length [] := rfl
  rw [hA0]
  have hloop := lay_text_loop rs rfl hs (by omega) ps.length 0 [] b x z (by omega) hL0
  rcases hloop with ⟨A, b2, x2, z2, hLi, h1, h2⟩ | ⟨hlt, b2, x2, z2, h2⟩
  · have h1' : loopG s_l7LayText_oooo_L1 (sh, ats ps.length [], ps, ((ps.length : Nat) : Int), 0, b, x, y, z) = _ := h1
    have h2' : loopG i_Space_layText_oooo_L1 (flg sh, ats ps.length [], pcl b sh ps, ((ps.length : Nat) : Int), 0, b, x, y, z) = _ := h2
    rw [h1', h2', Option.bind_some, Option.bind_some]
    dsimp only
    have hct := hLi.ct
    rw [List.take_of_length_le (by omega)] at hct
    have hal := ats_len ps.length A
    have hAl := hLi.len
    rcases tk_ok (y := y) hLi.wk (by omega) with ⟨hc0, hi0⟩ | ⟨a, ha, hba, hts, hti, hw, hcc⟩
    · right
      refine ⟨by omega, 0, b2, x2, z2, ?_⟩
      rw [hi0]; rfl
    · left
      have hb2 := hLi.wk.hb
      have hx2 := hLi.wk.hx
      have hset : (b2.set a zeroB).set a (padB (ats ps.length A)) = b2.set a (padB (ats ps.length A)) := List.set_set ..
      have hab : a < b2.length := by omega
      have hlb : a < (b2.set a zeroB).length := by rw [List.length_set]; exact hab
      have f1 := s_lay_eq (x := setB x2 a) (y := y) (d := ats ps.length A) (by omega) hlb (z := pt z2 ((a : Nat) : Int)) (by have := hw.hz; omega) hw.hr
      have f2 := i_lay_eq (x := setB x2 a) (y := y) (d := padB (ats ps.length A)) (padB_len (by omega)) hlb (z := pt z2 ((a : Nat) : Int)) (by have := hw.hz; omega) hw.hr
      rw [hset] at f1 f2
      have hnA : ((a : Nat) : Int) ∉ A := fun hh => by
        obtain ⟨j, m, _, hm, _, _, hbm, _⟩ := hLi.mem hh
        obtain rfl : a = m := by omega
        rw [hba] at hbm; cases hbm
      have hbx : bit x a = false := by
        have := (hLi.oth a (by omega) hnA).2
        rw [hba] at this; exact this.symm
      have hw2 := hw.lay (by omega) (padB_len (by omega : (ats ps.length A).length ≤ 128)) a
      rw [hset] at hw2
      have hAu : ∀ v ∈ A, 0 ≤ v ∧ v ≤ 255 := fun v hv => by
        obtain ⟨j, m, _, hm, _, hmn, _⟩ := hLi.mem hv
        omega
      refine ⟨A, a, _, _, _, ⟨⟨hw2.hn, hw2.hb, hw2.hk, hw2.hx, hw2.hu, hw2.hlow, hw2.hr, by have := hw2.hz; omega⟩, ?_, hAl, hLi.nd, ⟨ha, hbx, ?_, blk_set_eq hab, hnA⟩, ?_, ?_, ?_, ?_, by omega⟩, ?_, ?_⟩
      · intro c hc
        rcases List.mem_or_eq_of_mem_set hc with hc | rfl
        · exact hLi.bu c hc
        · exact u8_pad (u8_ats (by omega) hAu)
      · rw [bit_set hLi.wk.hu (by omega) (by omega)]; simp
      · intro j hj
        obtain ⟨m, p1, p2, p3, p4⟩ := hLi.at_ j hj
        have hma : a ≠ m := by
          rintro rfl
          rw [hba] at p3; cases p3
        refine ⟨m, p1, p2, by rw [bit_set hLi.wk.hu (by omega) (by omega), p3, Bool.or_true], ?_⟩
        rw [blk_set_ne hma]
        exact p4
      · intro i hi hiA hia
        rw [blk_set_ne (Ne.symm hia), bit_set hLi.wk.hu (by omega) (by omega), decide_eq_false hia, Bool.false_or]
        exact hLi.oth i hi hiA
      · intro i hi hbi
        rw [bit_set hLi.wk.hu (by omega) (by omega), hLi.up i hi hbi, Bool.or_true]
      · intro v hv
        obtain ⟨_, _, _, _, m1⟩ := pt_eq (z := z2) (by have := hLi.wk.hz; omega) hLi.wk.hr ((a : Nat) : Int)
        obtain ⟨_, _, _, _, m2⟩ := pt_eq (z := pt z2 ((a : Nat) : Int)) (by have := hw.hz; omega) hw.hr ((a : Nat) : Int)
        rcases (m2 v).1 hv with hv | rfl
        · rcases (m1 v).1 hv with hv | rfl
          · exact (hLi.zm v hv).imp id .inl
          · exact .inr (.inr rfl)
        · exact .inr (.inr rfl)
      · rw [hts, Option.bind_some]
        dsimp only
        rw [f1]; rfl
      · rw [hti, Option.bind_some]
        dsimp only
        rw [if_neg (by simp), i_padded_eq (by omega), Option.bind_some, f2]; rfl
  · right
    have h2' : loopG i_Space_layText_oooo_L1 (flg sh, ats ps.length [], pcl b sh ps, ((ps.length : Nat) : Int), 0, b, x, y, z) = _ := h2
    exact ⟨by omega, 0, b2, x2, z2, by rw [h2']; rfl⟩
def canF (b : Bls) (x y z : List Int) (t : List UInt8) (near : Int) : Bool := gsp b x y z && (decide (t.length ≤ 120) && (haveF b x y near).isSome)
theorem s_near_eq {b : Bls} {x y z : List Int} {t : List UInt8} {near : Int} (h : SB b x y z) (hu : ∀ c ∈ b, U8s c) : s_l7Near b x y z t near = some (canF b x y z t near) := by
  unfold s_l7Near canF
  rw [s_GoodSpace_eq h, Option.bind_some]
  cases hg : gsp b x y z with
  | false => rfl
  | true =>
    have rs := (gs_of hg).rs h hu
    rw [if_neg (by simp), Option.bind_some]
    dsimp only
    by_cases ht : t.length ≤ 120
    · obtain ⟨l', e⟩ := s_pieces_eq (z := z) rs near
      rw [ino (by omega), e, Option.bind_some, decide_eq_true ht]
      unfold haveF
      by_cases hn : near = 0
      · rw [iy hn, if_pos hn]; rfl
      · rw [ino hn, if_neg hn]
        cases ptx b x y near <;> rfl
    · rw [iy (by omega), decide_eq_false ht]; rfl
theorem i_canLay_eq {b : Bls} {x y z : List Int} {t : List UInt8} {near : Int} (h : SB b x y z) (hu : ∀ c ∈ b, U8s c) : i_canLay b x y z t near = some (canF b x y z t near) := by
  unfold i_canLay canF
  rw [i_GoodSpace_eq h, Option.bind_some]
  cases hg : gsp b x y z with
  | false => rfl
  | true =>
    have rs := (gs_of hg).rs h hu
    rw [if_neg (by simp), Option.bind_some]
    dsimp only
    by_cases ht : t.length ≤ 120
    · rw [ino (by omega), i_shared_eq rs ht, Option.bind_some, decide_eq_true ht]
      cases haveF b x y near <;> rfl
    · rw [iy (by omega), decide_eq_false ht]; rfl
theorem layText_eq' {b : Bls} {x y z : List Int} {t : List UInt8} {near : Int} (h : SB b x y z) (hu : ∀ c ∈ b, U8s c) (hux : U8s x) :
    (s_LayText b x y z t near = some (0, false, [], [], [], []) ∧ i_LayText b x y z t near = some (0, false, [], [], [], [])) ∨
    ∃ (hv A : List Int) (r : Nat) (b2 : Bls) (x2 z2 : List Int), GS b x y z ∧ haveF b x y near = some hv ∧ t.length ≤ 120 ∧ Lt b.length b x z (shs b hv (cutT 3 t)) (cutT 3 t) A r b2 x2 z2 200 ∧
      s_LayText b x y z t near = some (((r : Nat) : Int), true, b2, x2, y, z2) ∧ i_LayText b x y z t near = some (((r : Nat) : Int), true, b2, x2, y, z2) := by
  unfold s_LayText i_LayText
  rw [s_near_eq h hu, i_canLay_eq h hu, Option.bind_some, Option.bind_some]
  cases hc : canF b x y z t near with
  | false => exact .inl ⟨rfl, rfl⟩
  | true =>
    unfold canF at hc
    simp only [Bool.and_eq_true, decide_eq_true_eq] at hc
    obtain ⟨hg, ht, hh⟩ := hc
    obtain ⟨hv, hh⟩ := Option.isSome_iff_exists.1 hh
    have g := gs_of hg
    have hb := g.hb
    rw [if_neg (by simp), if_neg (by simp), s_free_cnt hb.2 g.hx, Option.bind_some, s_needText_eq (g.rs h hu) hh ht, Option.bind_some, Option.bind_some, i_copiedS_eq g h, Option.bind_some]
    dsimp only
    rcases layText_both g h hu hux hh ht with ⟨A, r, b2, x2, z2, hL, h1, h2⟩ | ⟨hlt, k, b2, x2, z2, h2⟩
    · right
      refine ⟨hv, A, r, b2, x2, z2, g, hh, ht, hL, ?_, ?_⟩
      · have := hL.ct
        rw [ino (by omega), s_ownS_eq g h, Option.bind_some]
        dsimp only
        rw [h1]; rfl
      · rw [h2]; rfl
    · left
      refine ⟨?_, ?_⟩
      · rw [iy (by omega)]
      · rw [h2]; rfl
end Go.V.G

set_option linter.unusedVariables false
set_option linter.unusedSimpArgs false
set_option maxRecDepth 100000
namespace Go.V.G
open Go.V
structure TkI (n : Nat) (b : Bls) (x z l : List Int) (b' : Bls) (x' z' : List Int) : Prop where
  nd : l.Nodup
  fr : ∀ v ∈ l, ∃ k : Nat, v = ((k : Nat) : Int) ∧ (33 ≤ k ∧ k < n) ∧ bit x k = false ∧ bit x' k = true
  oth : ∀ i, i < 160 → ((i : Nat) : Int) ∉ l → blk b' i = blk b i ∧ bit x' i = bit x i
  up : ∀ i, i < 160 → bit x i = true → bit x' i = true
  zm : ∀ v ∈ z', v ∈ z ∨ v ∈ l
  bu : ∀ c ∈ b', U8s c
theorem zeroB_u8 : U8s zeroB := fun v hv => by
  unfold zeroB at hv
  rw [List.eq_of_mem_replicate hv]; omega
theorem tks_ex2 {y : List Int} {n lz : Nat} {b : Bls} {x z : List Int} (h : Wk n b x z lz) (hu : ∀ c ∈ b, U8s c) (hlz : lz ≤ 1040000) : ∀ m, m ≤ cnt x n → m ≤ 1000 →
    ∃ l b' x' z', Tks y m b x z l b' x' z' ∧ Wk n b' x' z' (lz + m) ∧ cnt x' n + m = cnt x n ∧ TkI n b x z l b' x' z'
  | 0, _, _ => ⟨[], b, x, z, .nil b x z, h, rfl, ⟨List.nodup_nil, fun v hv => (by cases hv), fun i _ _ => ⟨rfl, rfl⟩, fun i _ hb => hb, fun v hv => .inl hv, hu⟩⟩
  | m + 1, hm, hb => by
    obtain ⟨l, b1, x1, z1, h1, h2, h3, h4⟩ := tks_ex2 (y := y) h hu hlz m (by omega) (by omega)
    rcases tk_ok (y := y) h2 (by omega) with ⟨h0, _⟩ | ⟨k, hk, hbk, hs, hi, hw, hc⟩
    · omega
    · have hn := h2.hn
      have hx1 := h2.hx
      have hnl : ((k : Nat) : Int) ∉ l := fun hh => by
        obtain ⟨k2, e, _, _, hb2⟩ := h4.fr _ hh
        obtain rfl : k = k2 := by omega
        rw [hbk] at hb2; cases hb2
      refine ⟨_, _, _, _, .snoc h1 hs hi, hw, by omega, ⟨?_, ?_, ?_, ?_, ?_, ?_⟩⟩
      · rw [List.nodup_append]
        refine ⟨h4.nd, by simp, fun u hu v hv => ?_⟩
        rw [List.mem_singleton.1 hv]
        rintro rfl; exact hnl hu
      · intro v hv
        rcases List.mem_append.1 hv with hv | hv
        · obtain ⟨j, e, hj, p1, p2⟩ := h4.fr v hv
          exact ⟨j, e, hj, p1, by rw [bit_set h2.hu (by omega) (by omega), p2, Bool.or_true]⟩
        · rw [List.mem_singleton] at hv
          refine ⟨k, hv, hk, ?_, by rw [bit_set h2.hu (by omega) (by omega)]; simp⟩
          rw [← (h4.oth k (by omega) hnl).2]; exact hbk
      · intro i hi hil
        rw [List.mem_append, List.mem_singleton] at hil
        have hki : k ≠ i := by rintro rfl; exact hil (.inr rfl)
        rw [blk_set_ne hki, bit_set h2.hu (by omega) (by omega), decide_eq_false (Ne.symm hki), Bool.false_or]
        exact h4.oth i hi fun hh => hil (.inl hh)
      · intro i hi hbi
        rw [bit_set h2.hu (by omega) (by omega), h4.up i hi hbi, Bool.or_true]
      · intro v hv
        obtain ⟨_, _, _, _, m1⟩ := pt_eq (z := z1) (by have := h2.hz; omega) h2.hr ((k : Nat) : Int)
        rcases (m1 v).1 hv with hv | rfl
        · exact (h4.zm v hv).imp id fun hh => by simp [hh]
        · exact .inr (by simp)
      · intro c hc
        rcases List.mem_or_eq_of_mem_set hc with hc | rfl
        · exact h4.bu c hc
        · exact zeroB_u8
def nxt (l : List Int) (i : Nat) : Int := if i + 1 < l.length then l[i + 1]?.getD 0 else 0
def own (data : List Int) (i : Nat) : List Int := (data.drop (124 * i)).take 124
theorem blkOf_eq {data l : List Int} {i : Nat} (h : 0 ≤ nxt l i ∧ nxt l i ≤ 255) : blkOf data l i = padB ([82, 0, nxt l i, (((own data i).length : Nat) : Int)] ++ own data i) := by
  have ho : (own data i).length ≤ 124 := by unfold own; rw [List.length_take]; omega
  have e0 : IntKind.wrap .u8 (nxt l i / 256) = 0 := by
    have : nxt l i / 256 = 0 := by omega
    rw [this]; rfl
  have e1 : IntKind.wrap .u8 (nxt l i) = nxt l i := wub h.1 h.2
  have e2 : IntKind.wrap .u8 (((own data i).length : Nat) : Int) = (((own data i).length : Nat) : Int) := wub (by omega) (by omega)
  have e : blkOf data l i = padB ([82, IntKind.wrap .u8 (nxt l i / 256), IntKind.wrap .u8 (nxt l i), IntKind.wrap .u8 (((own data i).length : Nat) : Int)] ++ own data i) := rfl
  rw [e, e0, e1, e2]
theorem own_u8 {data : List Int} (h : U8s data) (i : Nat) : U8s (own data i) := fun v hv => h v (List.mem_of_mem_drop (List.mem_of_mem_take hv))
theorem blkOf_u8 {data l : List Int} {i : Nat} (hd : U8s data) (h : 0 ≤ nxt l i ∧ nxt l i ≤ 255) : U8s (blkOf data l i) := by
  have ho : (own data i).length ≤ 124 := by unfold own; rw [List.length_take]; omega
  rw [blkOf_eq h]
  refine u8_pad fun v hv => ?_
  rcases List.mem_append.1 hv with hv | hv
  · simp only [List.mem_cons, List.not_mem_nil, or_false] at hv
    rcases hv with rfl | rfl | rfl | rfl <;> omega
  · exact own_u8 hd i v hv
structure Lr (n : Nat) (b : Bls) (x z data l : List Int) (b' : Bls) (x' z' : List Int) : Prop where
  wk : Wk n b' x' z' 200
  bu : ∀ c ∈ b', U8s c
  len : l.length = nd data.length
  nd : l.Nodup
  at_ : ∀ j, j < l.length → ∃ k : Nat, l[j]? = some ((k : Nat) : Int) ∧ (33 ≤ k ∧ k < n) ∧ bit x k = false ∧ bit x' k = true ∧ blk b' k = blkOf data l j
  oth : ∀ i, i < 160 → ((i : Nat) : Int) ∉ l → blk b' i = blk b i ∧ bit x' i = bit x i
  up : ∀ i, i < 160 → bit x i = true → bit x' i = true
  zm : ∀ v ∈ z', v ∈ z ∨ v ∈ l
  ct : cnt x' n + l.length = cnt x n
theorem layRecord_eq2 {b : Bls} {x y z data : List Int} (h : SB b x y z) (hu : ∀ c ∈ b, U8s c) (hux : U8s x) (hdu : U8s data) :
    (s_LayRecord b x y z data = some (0, false, [], [], [], []) ∧ i_LayRecord b x y z data = some (0, false, [], [], [], [])) ∨
    ∃ (l : List Int) (k0 : Int) (b2 : Bls) (x2 z2 : List Int), GS b x y z ∧ data.length ≤ 1000 ∧ l[0]? = some k0 ∧ Lr b.length b x z data l b2 x2 z2 ∧ s_LayRecord b x y z data = some (k0, true, b2, x2, y, z2) ∧ i_LayRecord b x y z data = some (k0, true, b2, x2, y, z2) := by
  unfold s_LayRecord i_LayRecord
  rw [s_GoodSpace_eq h, i_GoodSpace_eq h, Option.bind_some, Option.bind_some]
  cases hg : gsp b x y z with
  | false => exact .inl ⟨rfl, rfl⟩
  | true =>
    have g := gs_of hg
    have hb := g.hb; have hx := g.hx
    by_cases hd : 1000 < data.length
    · refine .inl ⟨?_, ?_⟩
      · rw [if_neg (by simp), if_pos (by simp; omega)]; rfl
      · rw [if_neg (by simp), Option.bind_some]; dsimp only; rw [if_pos (by simp; omega)]
    · have hd' : data.length ≤ 1000 := by omega
      obtain ⟨n1, n2, n3⟩ := nd_le hd'
      have wk := g.wk hux
      rw [if_neg (show ¬ (!true) = true by simp), if_neg (by simp; omega), s_free_cnt hb.2 hx, Option.bind_some, s_need_eq hd', Option.bind_some, Option.bind_some]
      dsimp only
      rw [if_neg (show ¬ (!true) = true by simp), Option.bind_some]
      dsimp only
      rw [if_neg (show ¬ (decide ((1000 : Int) < ((List.length data : Nat) : Int)) = true) by simp; omega), i_copiedS_eq g h, Option.bind_some]
      dsimp only
      unfold i_Space_layRecord_oooo i_Space_takeMany_oooo
      rw [i_need_eq hd', Option.bind_some]
      by_cases hc : cnt x b.length < nd data.length
      · -- too few
        refine .inl ⟨?_, ?_⟩
        · rw [if_pos (by simpa using hc)]
        · obtain ⟨l, b1, x1, z1, t1, t2, t3, t4⟩ := tks_ex (y := y) wk (by omega) (cnt x b.length) (Nat.le_refl _) (by have := cnt_le (x := x) b.length; omega)
          rw [tks_i t1 (by omega) (by omega), loopG_eq]
          rcases take_wk (y := y) t2 (by have := cnt_le (x := x) b.length; omega) with ⟨_, h0⟩ | ⟨_, _, _, _, _, _, _, _, hcc⟩
          · unfold i_Space_takeMany_oooo_L1
            dsimp only
            rw [if_pos (by simp; omega), h0, Option.bind_some]
            rfl
          · omega
      · right
        obtain ⟨l, b1, x1, z1, t1, t2, t3, t4⟩ := tks_ex2 (y := y) wk hu (by omega) (nd data.length) (by omega) (by omega)
        have hll := tks_len t1
        have hlv : ∀ v ∈ l, 33 ≤ v ∧ v < (b.length : Int) := fun v hv => by
          obtain ⟨k, rfl, hk, _⟩ := t4.fr v hv
          omega
        have hnxt : ∀ i, 0 ≤ nxt l i ∧ nxt l i ≤ 255 := fun i => by
          unfold nxt
          split
          · rename_i h1
            have := hlv _ (List.getElem_mem h1)
            rw [List.getElem?_eq_getElem h1, Option.getD_some]; omega
          · omega
        have hS := tks_s (data := data) t1 0 (by omega)
        rw [Nat.add_zero] at hS
        have hx1 := t2.hx
        obtain ⟨r, hr1, hr2, hR⟩ := loop2 (f := s_l7Lay_oooo_L2) (g := i_Space_layRecord_oooo_L1) (R := fun r : List Int × (Bls × (List Int × (List Int × List Int))) => ∃ (b2 : Bls) (z2 : List Int), r = (l, b2, x1, y, z2) ∧ Lr b.length b x z data l b2 x1 z2)
          (fun i s => ∃ b2 z2, s = (data, l, ((l.length : Nat) : Int), ((i : Nat) : Int), b2, x1, y, z2) ∧ Wk b.length b2 x1 z2 (127 + nd data.length + i) ∧ (∀ c ∈ b2, U8s c) ∧ (∀ v ∈ z2, v ∈ z1 ∨ v ∈ l) ∧
            (∀ j, j < i → j < l.length → blk b2 (l[j]?.getD 0).toNat = blkOf data l j) ∧ ∀ k, k < 160 → ((k : Nat) : Int) ∉ l → blk b2 k = blk b1 k) l.length
          (fun i s hi hs => by
            obtain ⟨b2, z2, rfl, hw, hbu, hzm, hat, hoth⟩ := hs
            obtain ⟨b3, z3, q1, q2, q3, q4, q5⟩ := lay_step (y := y) hd' hll hlv hi hw (by omega)
            obtain ⟨_, _, _, _, m1⟩ := pt_eq (z := z2) (by have := hw.hz; omega) hw.hr l[i]
            have ez : z3 = pt z2 l[i] := by unfold pt; rw [q5]; rfl
            have hli := hlv _ (List.getElem_mem hi)
            have hb2 := hw.hb
            refine ⟨_, q1, q2, b3, z3, rfl, q3, fun c hc => ?_, fun v hv => ?_, fun j hj hjl => ?_, fun k hk hkl => ?_⟩
            · rw [q4] at hc
              rcases List.mem_or_eq_of_mem_set hc with hc | rfl
              · exact hbu c hc
              · exact blkOf_u8 hdu (hnxt i)
            · rw [ez] at hv
              rcases (m1 v).1 hv with hv | rfl
              · exact hzm v hv
              · exact .inr (List.getElem_mem hi)
            · rw [List.getElem?_eq_getElem hjl, Option.getD_some, q4]
              by_cases hji : j = i
              · subst hji
                exact blk_set_eq (by omega)
              · have hne := List.pairwise_iff_getElem.1 t4.nd j i hjl hi (by omega)
                have hlj := hlv _ (List.getElem_mem hjl)
                rw [blk_set_ne (by omega)]
                have := hat j (by omega) hjl
                rw [List.getElem?_eq_getElem hjl, Option.getD_some] at this
                exact this
            · rw [q4, blk_set_ne]
              · exact hoth k hk hkl
              · intro hh
                exact hkl (by rw [← hh, Int.toNat_of_nonneg (by omega)]; exact List.getElem_mem hi))
          (fun s hs => by
            obtain ⟨b2, z2, rfl, hw, hbu, hzm, hat, hoth⟩ := hs
            refine ⟨(l, b2, x1, y, z2), ?_, ?_, b2, z2, rfl, ⟨⟨hw.hn, hw.hb, hw.hk, hw.hx, hw.hu, hw.hlow, hw.hr, by have := hw.hz; omega⟩, hbu, hll, t4.nd, fun j hj => ?_, fun i hi hil => ?_, t4.up, fun v hv => ?_, by omega⟩⟩
            · unfold s_l7Lay_oooo_L2
              dsimp only
              rw [if_neg (by simp)]
            · unfold i_Space_layRecord_oooo_L1
              dsimp only
              rw [if_neg (by simp)]
            · obtain ⟨k, e, hk, p1, p2⟩ := t4.fr _ (List.getElem_mem hj)
              refine ⟨k, by rw [List.getElem?_eq_getElem hj, e], hk, p1, p2, ?_⟩
              have := hat j hj hj
              rw [List.getElem?_eq_getElem hj, Option.getD_some, e, Int.toNat_natCast] at this
              exact this
            · rw [hoth i hi hil]
              exact t4.oth i hi hil
            · rcases hzm v hv with hv | hv
              · exact t4.zm v hv
              · exact .inr hv)
          (s := (data, l, ((l.length : Nat) : Int), 0, b1, x1, y, z1)) ⟨b1, z1, rfl, by rw [Nat.add_zero]; exact t2, t4.bu, fun v hv => .inl hv, fun j hj => absurd hj (by omega), fun k _ _ => rfl⟩
        obtain ⟨b2, z2, rfl, hL⟩ := hR
        have h0 : 0 < l.length := by omega
        have hg0 : l[0 + Int.toNat 0]? = some l[0] := List.getElem?_eq_getElem h0
        refine ⟨l, l[0], b2, x1, z2, g, hd', hg0, hL, ?_, ?_⟩
        · rw [if_neg (by simpa using hc), s_ownS_eq g h, Option.bind_some]
          dsimp only
          unfold s_l7Lay_oooo
          rw [s_need_eq hd', Option.bind_some, hS, loopG_eq]
          have hend : s_l7Lay_oooo_L1 (data, l, ((0 : Nat) : Int), b1, x1, y, z1) = some (.inr (data, l, b1, x1, y, z1)) := by
            unfold s_l7Lay_oooo_L1
            dsimp only
            rw [if_neg (by simp)]
          rw [hend]
          dsimp only
          rw [Option.bind_some]
          dsimp only
          rw [hr1, Option.bind_some]
          dsimp only
          rw [if_pos (by simp), if_pos (by simp; omega), hg0]
          rfl
        · have hI := tks_i t1 (Nat.le_refl _) (by omega)
          rw [hI, loopG_eq]
          have hend : i_Space_takeMany_oooo_L1 (l, ((nd data.length : Nat) : Int), ((nd data.length : Nat) : Int), b1, x1, y, z1) = some (.inr (.inl (l, b1, x1, y, z1))) := by
            unfold i_Space_takeMany_oooo_L1
            dsimp only
            rw [if_neg (by simp)]
          rw [hend]
          dsimp only
          rw [Option.bind_some]
          dsimp only
          rw [Option.bind_some]
          dsimp only
          rw [if_neg (by simp), hr2, Option.bind_some]
          dsimp only
          rw [if_pos (by simp), if_pos (by simp; omega), hg0]
          rfl
theorem cf_record1 {l : List Int} (hl : l.length ≤ 1048576) : slices_ContainsFunc_byte_byte_i_Space_record_1 l = some (l.any fun v => decide (¬ v = 0)) := by
  unfold slices_ContainsFunc_byte_byte_i_Space_record_1 slices_IndexFunc_byte_byte_i_Space_record_1
  obtain ⟨r, hr, h⟩ := idx_loop slices_IndexFunc_byte_byte_i_Space_record_1_L1 (fun v => decide (¬ v = 0)) l (fun k hk => by
    unfold slices_IndexFunc_byte_byte_i_Space_record_1_L1 i_Space_record_1
    dsimp only
    rw [iy (by omega), iy (by omega), Int.toNat_natCast, gb_some hk, Option.bind_some, Option.bind_some, ix64 (by omega)]
    by_cases hz : gb l k = 0 <;> simp [hz]) (by
    unfold slices_IndexFunc_byte_byte_i_Space_record_1_L1
    dsimp only
    rw [ino (by omega)])
  rw [hr, Option.bind_some]
  rcases h with ⟨rfl, h⟩ | ⟨k, rfl, h⟩
  · rw [h]; rfl
  · rw [h]; dsimp only; rw [Option.bind_some, decide_eq_true (by omega)]
theorem pad_rz {d : List Int} (n : Nat) (h : n = d.length) : rz (padB d) n = true := by
  subst h
  unfold rz padB
  rw [List.drop_left, List.all_eq_true]
  intro v hv
  rw [List.eq_of_mem_replicate hv]; rfl
theorem nd_hi (n : Nat) : n ≤ 124 * nd n := by unfold nd; split <;> omega
theorem nd_lo {n k : Nat} (h : k < nd n) (hk : 1 ≤ k) : 124 * k < n := by
  unfold nd at h
  split at h <;> omega
theorem record_step {n : Nat} {b b' : Bls} {x z data l x' z' y : List Int} (g : RS b' x' y) (hL : Lr n b x z data l b' x' z') (hd : data.length ≤ 1000) (hdu : U8s data) (hy : ∀ v ∈ l, v ∉ y) {k : Nat} (hk : k < l.length) :
    i_Space_record_ffff_L1 (l[k], data.take (124 * k), l.take k, b', x', y, z') =
      some (if k + 1 < l.length then .inl (l[k + 1]?.getD 0, data.take (124 * (k + 1)), l.take (k + 1), b', x', y, z') else .inr (data, l, true, b', x', y, z')) := by
  have hlen := hL.len
  obtain ⟨n1, n2, n3⟩ := nd_le hd
  have hgn := g.hn
  have hnn := hL.wk.hn
  obtain ⟨m, hm, h33, hbx, hbx', hbk⟩ := hL.at_ k hk
  have hlk : l[k] = ((m : Nat) : Int) := by
    rw [List.getElem?_eq_getElem hk] at hm
    exact Option.some.inj hm
  have hmn : m < b'.length := by rw [hL.wk.hb]; exact h33.2
  have hlive : liv b' x' y ((m : Nat) : Int) = true := by
    unfold liv
    have hny := hy _ (List.getElem_mem hk)
    rw [hlk] at hny
    rw [decide_eq_true (by omega), Int.toNat_natCast, hbx', decide_eq_false hny]; rfl
  have hnk : ((m : Nat) : Int) ∉ l.take k := fun hh => by
    obtain ⟨j, hj, he⟩ := List.getElem_of_mem hh
    rw [List.length_take] at hj
    rw [List.getElem_take] at he
    exact List.pairwise_iff_getElem.1 hL.nd j k (by omega) hk (by omega) (he.trans hlk.symm)
  have hnx : 0 ≤ nxt l k ∧ nxt l k ≤ 255 := by
    unfold nxt
    split
    · rename_i h1
      obtain ⟨m1, e1, e2, _⟩ := hL.at_ (k + 1) h1
      rw [e1, Option.getD_some]; omega
    · omega
  have hc := g.len hmn
  have hu := g.hu _ (blk_mem hmn)
  have hbf := blkOf_eq (data := data) (l := l) (i := k) hnx
  have ho : (own data k).length = min 124 (data.length - 124 * k) := by unfold own; rw [List.length_take, List.length_drop]
  rw [hbf] at hbk
  have hbs := blk_some hmn
  generalize hcc : blk b' m = c at *
  have e0 : gb c 0 = 82 := by rw [hbk]; rfl
  have e1 : gb c 1 = 0 := by rw [hbk]; rfl
  have e2 : gb c 2 = nxt l k := by rw [hbk]; rfl
  have e3 : gb c 3 = (((own data k).length : Nat) : Int) := by rw [hbk]; rfl
  have enum : num c 1 = nxt l k := by unfold num; rw [e1, e2]; omega
  have hhl : ([82, 0, nxt l k, (((own data k).length : Nat) : Int)] ++ own data k).length = 4 + (own data k).length := by simp only [List.length_append, List.length_cons, List.length_nil]
  have hrz : rz c (4 + (own data k).length) = true := by rw [hbk]; exact pad_rz _ hhl.symm
  have hown : (c.drop 4).take (own data k).length = own data k := by
    rw [hbk]
    unfold padB
    rw [List.append_assoc]
    have : (([82, 0, nxt l k, (((own data k).length : Nat) : Int)] : List Int) ++ (own data k ++ List.replicate (128 - ([82, 0, nxt l k, (((own data k).length : Nat) : Int)] ++ own data k).length) 0)).drop 4 = own data k ++ List.replicate (128 - ([82, 0, nxt l k, (((own data k).length : Nat) : Int)] ++ own data k).length) 0 := rfl
    rw [this, List.take_left]
  have hcat : data.take (124 * k) ++ own data k = data.take (124 * (k + 1)) := by
    unfold own
    rw [show 124 * (k + 1) = 124 * k + 124 by omega, List.take_add]
  have hnum := numberAt_eq hu (i := 1) (by omega) (by omega)
  rw [enum] at hnum
  have hnum' : i_numberAt c 1 = some (nxt l k) := hnum
  have hcf := cf_record1 (l := c.drop (4 + (own data k).length)) (by rw [List.length_drop]; omega)
  rw [any_rz, hrz] at hcf
  have htk : List.take (c.length - (4 + (own data k).length)) (List.drop (4 + (own data k).length) c) = c.drop (4 + (own data k).length) := List.take_of_length_le (by rw [List.length_drop]; omega)
  have w4 : IntKind.wrap .i64 (4 + (((own data k).length : Nat) : Int)) = ((4 + (own data k).length : Nat) : Int) := by rw [w64 (by omega) (by omega)]; omega
  have w5 : IntKind.wrap .i64 (((own data k).length : Nat) : Int) = (((own data k).length : Nat) : Int) := w64 (by omega) (by omega)
  have hhere := i_hereF_eq (z := z') g ((m : Nat) : Int)
  rw [hlive] at hhere
  have hcon := contains_eq (l := l.take k) (n := ((m : Nat) : Int)) (by rw [List.length_take]; omega)
  rw [decide_eq_false hnk] at hcon
  have hroom : roomFor ((data.take (124 * k)).length + (own data k).length) 1 = true := by simp only [roomFor, decide_eq_true_eq, List.length_take]; omega
  have hroom2 : ∀ v : Int, roomFor ((l.take k).length + ([v] : List Int).length) 8 = true := fun v => by simp only [roomFor, decide_eq_true_eq, List.length_take, List.length_singleton]; omega
  have hltk : (l.take k).length = k := by rw [List.length_take]; omega
  have g3 : c[3]? = some (((own data k).length : Nat) : Int) := by rw [gb_some (by omega), e3]
  have g0 : c[0]? = some 82 := by rw [gb_some (by omega), e0]
  have hsub : 4 + (own data k).length - Int.toNat 4 = (own data k).length := by rw [show Int.toNat 4 = 4 from rfl]; omega
  have hlt1 : l.take (k + 1) = l.take k ++ [((m : Nat) : Int)] := by rw [List.take_succ_eq_append_getElem hk, hlk]
  rw [hlk]
  unfold i_Space_record_ffff_L1
  dsimp only
  rw [hhere, Option.bind_some]
  dsimp only
  rw [if_neg (show ¬ (!true) = true by simp), hcon, Option.bind_some, if_neg (show ¬ false = true by simp), hltk, decide_eq_false (show ¬ ((k : Nat) : Int) = 9 by omega), Option.bind_some]
  dsimp only
  rw [if_neg (show ¬ false = true by simp), iy (show (0 : Int) ≤ ((m : Nat) : Int) by omega), Int.toNat_natCast, hbs, Option.bind_some, hnum', Option.bind_some, iy (show (0 : Int) ≤ 3 by omega), show Int.toNat 3 = 3 from rfl, g3, Option.bind_some, w5, w4,
    iy (show (0 : Int) ≤ 0 by omega), show Int.toNat 0 = 0 from rfl, g0, Option.bind_some, ino (show ¬ ¬ (82 : Int) = 82 by omega), ino (show ¬ (124 : Int) < (((own data k).length : Nat) : Int) by omega)]
  have hcfb : (if decide ((0 : Int) ≤ ((4 + (own data k).length : Nat) : Int)) = true then
        if decide (((4 + (own data k).length : Nat) : Int) ≤ ((c.length : Nat) : Int)) = true then
        if decide (((c.length : Nat) : Int) ≤ ((c.length : Nat) : Int)) = true then
        if decide (((c.length : Nat) : Int) ≤ ((c.length : Nat) : Int)) = true then
        Option.bind (slices_ContainsFunc_byte_byte_i_Space_record_1 ((List.drop (Int.toNat ((4 + (own data k).length : Nat) : Int)) c).take (Int.toNat ((c.length : Nat) : Int) - Int.toNat ((4 + (own data k).length : Nat) : Int)))) fun c8 =>
        some (((m : Nat) : Int), data.take (124 * k), l.take k, c, nxt l k, (((own data k).length : Nat) : Int), c8, b', x', y, z')
        else none else none else none else none) = some (((m : Nat) : Int), data.take (124 * k), l.take k, c, nxt l k, (((own data k).length : Nat) : Int), false, b', x', y, z') := by
    rw [iy (by omega), iy (by omega), iy (by omega), iy (by omega), Int.toNat_natCast, Int.toNat_natCast, htk, hcf]; rfl
  have hfin : ∀ (P : Prop) [Decidable P], (if (decide ((0 : Int) ≤ 4)) = true then
      if (decide ((4 : Int) ≤ ((4 + (own data k).length : Nat) : Int))) = true then
      if (decide (((4 + (own data k).length : Nat) : Int) ≤ ((c.length : Nat) : Int))) = true then
      if (decide (((c.length : Nat) : Int) ≤ ((c.length : Nat) : Int))) = true then
      if (roomFor (List.length (data.take (124 * k)) + List.length ((List.drop (Int.toNat 4) c).take (Int.toNat ((4 + (own data k).length : Nat) : Int) - Int.toNat 4))) 1) = true then
      if (roomFor (List.length (l.take k) + List.length ([((m : Nat) : Int)] : List Int)) 8) = true then
      if (decide P) = true then
        some (.inr (data.take (124 * k) ++ ((List.drop (Int.toNat 4) c).take (Int.toNat ((4 + (own data k).length : Nat) : Int) - Int.toNat 4)), l.take k ++ ([((m : Nat) : Int)] : List Int), true, b', x', y, z'))
      else
        some (.inl (nxt l k, data.take (124 * k) ++ ((List.drop (Int.toNat 4) c).take (Int.toNat ((4 + (own data k).length : Nat) : Int) - Int.toNat 4)), l.take k ++ ([((m : Nat) : Int)] : List Int), b', x', y, z'))
      else none else none else none else none else none else none :
      Option ((Int × (List Int × (List Int × (List (List Int) × (List Int × (List Int × List Int)))))) ⊕ (List Int × (List Int × (Bool × (List (List Int) × (List Int × (List Int × List Int)))))))) =
      if P then some (.inr (data.take (124 * (k + 1)), l.take (k + 1), true, b', x', y, z')) else some (.inl (nxt l k, data.take (124 * (k + 1)), l.take (k + 1), b', x', y, z')) := fun P _ => by
    rw [iy (by omega), iy (by omega), iy (by omega), iy (by omega), Int.toNat_natCast, hsub, show Int.toNat 4 = 4 from rfl, hown, if_pos hroom, if_pos (hroom2 _), hcat, ← hlt1]
    by_cases hP : P
    · rw [iy hP, if_pos hP]
    · rw [ino hP, if_neg hP]
  by_cases hlast : k + 1 < l.length
  · have h124 := n3 (k + 1) (by omega)
    have ho2 : (own data k).length = 124 := by omega
    have hnz : nxt l k = l[k + 1]?.getD 0 := by unfold nxt; rw [if_pos hlast]
    have hnz2 : ¬ nxt l k = 0 := by
      rw [hnz]
      obtain ⟨m1, f1, f2, _⟩ := hL.at_ (k + 1) hlast
      rw [f1, Option.getD_some]; omega
    rw [if_pos hlast, ← hnz, iy hnz2, ino (show ¬ (((own data k).length : Nat) : Int) < 124 by omega), ino (show ¬ (((own data k).length : Nat) : Int) = 0 by omega), hcfb, Option.bind_some]
    dsimp only
    rw [if_neg (show ¬ false = true by simp), w4, hfin, if_neg hnz2]
  · have hnz : nxt l k = 0 := by unfold nxt; rw [if_neg hlast]
    have hall : data.take (124 * (k + 1)) = data := List.take_of_length_le (by
      have := nd_hi data.length
      have e : k + 1 = nd data.length := by omega
      rw [e]; exact this)
    have hla : l.take (k + 1) = l := List.take_of_length_le (by omega)
    rw [if_neg hlast, ino (show ¬ ¬ nxt l k = 0 from not_not_intro hnz)]
    have hz0 : (own data k).length = 0 → k = 0 := fun hz => by
      refine Classical.byContradiction fun hk0 => ?_
      have := nd_lo (n := data.length) (k := k) (by omega) (by omega)
      omega
    by_cases hz : (((own data k).length : Nat) : Int) = 0
    · rw [iy hz, hltk, decide_eq_true (show ((k : Nat) : Int) = 0 by have := hz0 (by omega); omega), if_neg (show ¬ (!true) = true by simp), hcfb, Option.bind_some]
      dsimp only
      rw [if_neg (show ¬ false = true by simp), w4, hfin, if_pos hnz, hall, hla]
    · rw [ino hz, hcfb, Option.bind_some]
      dsimp only
      rw [if_neg (show ¬ false = true by simp), w4, hfin, if_pos hnz, hall, hla]
end Go.V.G

set_option linter.unusedVariables false
set_option linter.unusedSimpArgs false
set_option maxRecDepth 100000
namespace Go.V.G
open Go.V
theorem gs_grow {n q : Nat} {b b2 : Bls} {x x2 y z z2 : List Int} (g : GS b x y z) (hn : b.length = n) (wk : Wk n b2 x2 z2 q) (up : ∀ i, i < 160 → bit x i = true → bit x2 i = true)
    (hi : ∀ i, n ≤ i → i < 160 → bit x2 i = bit x i) (zm : ∀ v ∈ z2, v ∈ z ∨ (33 ≤ v ∧ v < (n : Int) ∧ bit x2 v.toNat = true)) : GS b2 x2 y z2 := by
  have hb := wk.hb
  have hn2 := wk.hn
  obtain ⟨r1, _⟩ := ris_of g.hy
  have m1 := up_mem g.hy
  have m2 := up_mem g.hz
  refine ⟨by omega, wk.hx, wk.hk, fun i hi160 => ?_, upB_of r1 fun v hv => ?_, upB_of wk.hr fun v hv => ?_⟩
  · unfold bG
    by_cases h1 : i < 33
    · rw [wk.hlow i h1, decide_eq_true h1, decide_eq_false (show ¬ b2.length ≤ i by omega)]; rfl
    · rw [decide_eq_false h1]
      by_cases h2 : b2.length ≤ i
      · have := g.hbits i hi160
        unfold bG at this
        rw [decide_eq_false h1, decide_eq_true (show b.length ≤ i by omega)] at this
        rw [hi i (by omega) hi160, decide_eq_true h2]
        exact this
      · rw [decide_eq_false h2]; rfl
  · obtain ⟨p1, p2, p3⟩ := m1 v hv
    exact ⟨p1, by omega, up _ (by omega) p3⟩
  · rcases zm v hv with hv | ⟨p1, p2, p3⟩
    · obtain ⟨p1, p2, p3⟩ := m2 v hv
      exact ⟨p1, by omega, up _ (by omega) p3⟩
    · exact ⟨p1, by omega, p3⟩
theorem Lr.gs {b b2 : Bls} {x y z data l x2 z2 : List Int} (h : Lr b.length b x z data l b2 x2 z2) (g : GS b x y z) : GS b2 x2 y z2 := by
  have hn := h.wk.hn
  refine gs_grow g rfl h.wk h.up (fun i hi hi2 => ?_) fun v hv => ?_
  · refine (h.oth i hi2 fun hh => ?_).2
    obtain ⟨j, hj, he⟩ := List.getElem_of_mem hh
    obtain ⟨k, e, hk, _⟩ := h.at_ j hj
    rw [List.getElem?_eq_getElem hj] at e
    have := Option.some.inj e
    omega
  · rcases h.zm v hv with hv | hv
    · exact .inl hv
    · right
      obtain ⟨j, hj, he⟩ := List.getElem_of_mem hv
      obtain ⟨k, e, hk, _, p, _⟩ := h.at_ j hj
      rw [List.getElem?_eq_getElem hj, he] at e
      have e' := Option.some.inj e
      subst e'
      exact ⟨by omega, by omega, by rw [Int.toNat_natCast]; exact p⟩
theorem record_read {b b2 : Bls} {x y z data l x2 z2 : List Int} {k0 : Int} (h : Lr b.length b x z data l b2 x2 z2) (g : GS b x y z) (hs : SB b x y z) (hd : data.length ≤ 1000) (hdu : U8s data) (h0 : l[0]? = some k0) :
    i_RecordAt b2 x2 y z2 k0 = some (data, l, true) := by
  have g2 := h.gs g
  have hz2 := h.wk.hz
  have hb2 := g2.hb
  have sb2 : SB b2 x2 y z2 := ⟨by omega, hs.y, by omega⟩
  have rs := g2.rs sb2 h.bu
  have hlen := h.len
  obtain ⟨n1, n2, n3⟩ := nd_le hd
  have hy : ∀ v ∈ l, v ∉ y := fun v hv hm => by
    obtain ⟨j, hj, he⟩ := List.getElem_of_mem hv
    obtain ⟨k, e, hk, p, _⟩ := h.at_ j hj
    rw [List.getElem?_eq_getElem hj, he] at e
    have e' := Option.some.inj e
    subst e'
    have := (up_mem g.hy _ hm).2.2
    rw [Int.toNat_natCast, p] at this
    cases this
  unfold i_RecordAt
  rw [i_GoodSpace_eq sb2, gsp_of g2, Option.bind_some, if_neg (by simp)]
  unfold i_Space_record_ffff
  have hL := loop_run i_Space_record_ffff_L1 (fun k => (l[k]?.getD 0, data.take (124 * k), l.take k, b2, x2, y, z2)) (l.length - 1) (data, l, true, b2, x2, y, z2) (fun k hk => by
    have hkl : k < l.length := by omega
    have := record_step rs h hd hdu hy hkl
    rw [if_pos (by omega)] at this
    rw [List.getElem?_eq_getElem hkl, Option.getD_some]
    exact this) (by
    have hkl : l.length - 1 < l.length := by omega
    have := record_step rs h hd hdu hy hkl
    rw [if_neg (by omega)] at this
    rw [List.getElem?_eq_getElem hkl, Option.getD_some]
    exact this)
  have hL' : loopG i_Space_record_ffff_L1 (k0, [], [], b2, x2, y, z2) = some (data, l, true, b2, x2, y, z2) := by
    have e : (l[0]?.getD 0, data.take (124 * 0), l.take 0, b2, x2, y, z2) = (k0, ([] : List Int), ([] : List Int), b2, x2, y, z2) := by rw [h0]; rfl
    rw [← e]; exact hL
  rw [hL']; rfl
def pcb (v : Int) (p : List UInt8) : List Int := padB ([83, v, ((p.length : Nat) : Int)] ++ bytesOf p)
theorem tx_bytes (s : List UInt8) : textOf (bytesOf s) = s := by
  unfold textOf bytesOf
  rw [List.map_map]
  conv => rhs; rw [← List.map_id s]
  refine List.map_congr_left fun c _ => ?_
  simp
theorem pcb_tx (v : Int) (p : List UInt8) : textOf (((pcb v p).drop 3).take (gb (pcb v p) 2).toNat) = p := by
  have e2 : gb (pcb v p) 2 = ((p.length : Nat) : Int) := rfl
  have e : (pcb v p).drop 3 = bytesOf p ++ List.replicate (128 - ([83, v, ((p.length : Nat) : Int)] ++ bytesOf p).length) 0 := by
    unfold pcb padB
    rw [List.append_assoc]; rfl
  rw [e2, e, Int.toNat_natCast, ← bytesOf_len2 p, List.take_left, tx_bytes]
theorem pcb_G {v : Int} {p : List UInt8} (hv : 1 ≤ v ∧ v ≤ 250) (hp : 1 ≤ p.length ∧ p.length ≤ 40) : pcG (pcb v p) = true := by
  have e0 : gb (pcb v p) 0 = 83 := rfl
  have e1 : gb (pcb v p) 1 = v := rfl
  have e2 : gb (pcb v p) 2 = ((p.length : Nat) : Int) := rfl
  unfold pcG
  rw [e0, e1, e2, Int.toNat_natCast, decide_eq_true rfl, decide_eq_true hv, decide_eq_true (by omega)]
  have : rz (pcb v p) (3 + p.length) = true := pad_rz _ (by simp only [List.length_append, List.length_cons, List.length_nil, bytesOf_len2])
  rw [this]; rfl
theorem pcb_of {c : List Int} (hc : c.length = 128) (hu : U8s c) (hg : pcG c = true) : c = pcb (gb c 1) (textOf ((c.drop 3).take (gb c 2).toNat)) := by
  have h := piece_form hc hu hg
  unfold pcG at hg
  simp only [Bool.and_eq_true, decide_eq_true_eq] at hg
  have hl : ((List.length (textOf ((c.drop 3).take (gb c 2).toNat)) : Nat) : Int) = gb c 2 := by
    unfold textOf
    rw [List.length_map, List.length_take, List.length_drop]; omega
  unfold pcb
  rw [hl]; exact h
theorem pcb_set (v w : Int) (p : List UInt8) : (pcb v p).set 1 w = pcb w p := by
  unfold pcb padB
  have : ∀ u : Int, ([83, u, ((p.length : Nat) : Int)] ++ bytesOf p).length = 3 + p.length := fun u => by simp only [List.length_append, List.length_cons, List.length_nil, bytesOf_len2]
  rw [this, this]; rfl
theorem pcTx_pcb {b : Bls} {m : Nat} {v : Int} {p : List UInt8} (h : blk b m = pcb v p) : pcTx b ((m : Nat) : Int) = p := by
  unfold pcTx
  rw [Int.toNat_natCast, h]; exact pcb_tx v p
theorem lt_piece {n q r : Nat} {b b2 : Bls} {x y z sh A x2 z2 : List Int} {ps : List (List UInt8)} (h : Lt n b x z sh ps A r b2 x2 z2 q) (g : RS b x y) (hs : Sh b x y sh ps) {j : Nat} (hj : j < ps.length) :
    ∃ (m : Nat) (v : Int), A[j]? = some ((m : Nat) : Int) ∧ (33 ≤ m ∧ m < n) ∧ bit x2 m = true ∧ blk b2 m = pcb v (ps[j]?.getD []) ∧ (1 ≤ v ∧ v ≤ 250) ∧
      ((v = 1 ∧ bit x m = false) ∨ (sh[j]? = some ((m : Nat) : Int) ∧ 2 ≤ v ∧ blk b m = pcb (v - 1) (ps[j]?.getD []) ∧ pcB b x y ((m : Nat) : Int) = true)) := by
  obtain ⟨m, h1, h2, h3, h4⟩ := h.at_ j hj
  rcases h4 with ⟨p1, p2, p3⟩ | ⟨p1, p2⟩
  · exact ⟨m, 1, h1, h2, h3, p3, by omega, .inl ⟨rfl, p2⟩⟩
  · rcases hs.at_ j hj with s0 | ⟨m', s1, s2, s3, s4⟩
    · rw [s0] at p1
      have := Option.some.inj p1
      omega
    · rw [s1] at p1
      obtain rfl : m' = m := by have := Option.some.inj p1; omega
      obtain ⟨m2, e, _, hmb, _, _, hg⟩ := pcB_nat s2
      obtain rfl : m' = m2 := by omega
      have hc := g.len hmb
      have hu := g.hu _ (blk_mem hmb)
      have hf := pcb_of hc hu hg
      have etx : textOf (((blk b m').drop 3).take (gb (blk b m') 2).toNat) = ps[j]?.getD [] := by rw [← s3]; unfold pcTx; rw [Int.toNat_natCast]
      rw [etx] at hf
      unfold pcG at hg
      simp only [Bool.and_eq_true, decide_eq_true_eq] at hg
      refine ⟨m', gb (blk b m') 1 + 1, h1, h2, h3, ?_, by omega, .inr ⟨s1, by omega, ?_, s2⟩⟩
      · rw [p2]
        conv => lhs; rw [hf]
        rw [pcb_set]
        congr 1
      · rw [show gb (blk b m') 1 + 1 - 1 = gb (blk b m') 1 by omega]; exact hf
theorem Lt.gs {b b2 : Bls} {x y z sh A x2 z2 : List Int} {ps : List (List UInt8)} {r q : Nat} (h : Lt b.length b x z sh ps A r b2 x2 z2 q) (g : GS b x y z) : GS b2 x2 y z2 := by
  have hn := h.wk.hn
  have hlen := h.len
  obtain ⟨⟨r1, r2⟩, _, r4, _⟩ := h.rt
  have hA : ∀ v ∈ A, ∃ k : Nat, v = ((k : Nat) : Int) ∧ (33 ≤ k ∧ k < b.length) ∧ bit x2 k = true := fun v hv => by
    obtain ⟨j, hj, he⟩ := List.getElem_of_mem hv
    obtain ⟨k, e, hk, p, _⟩ := h.at_ j (by omega)
    rw [List.getElem?_eq_getElem hj, he] at e
    exact ⟨k, Option.some.inj e, hk, p⟩
  refine gs_grow g rfl h.wk h.up (fun i hi hi2 => ?_) fun v hv => ?_
  · refine (h.oth i hi2 (fun hh => ?_) (by omega)).2
    obtain ⟨k, e, hk, _⟩ := hA _ hh
    omega
  · rcases h.zm v hv with hv | hv | rfl
    · exact .inl hv
    · right
      obtain ⟨k, rfl, hk, p⟩ := hA v hv
      exact ⟨by omega, by omega, by rw [Int.toNat_natCast]; exact p⟩
    · exact .inr ⟨by omega, by omega, by rw [Int.toNat_natCast]; exact r4⟩
theorem gb_app {a b : List Int} {i : Nat} (h : i < a.length) : gb (a ++ b) i = gb a i := by unfold gb; rw [List.getElem?_append_left h]
theorem ats_get (m : Nat) : ∀ (A : List Int) (k : Nat) (h : k < A.length), gb (A.flatMap fun a => ([0, a] : List Int)) (2 * k) = 0 ∧ gb (A.flatMap fun a => ([0, a] : List Int)) (2 * k + 1) = A[k]
  | a :: A, 0, _ => ⟨rfl, rfl⟩
  | a :: A, k + 1, h => by
    have ih := ats_get m A k (by simpa using h)
    have e : (a :: A).flatMap (fun a => ([0, a] : List Int)) = [0, a] ++ A.flatMap fun a => ([0, a] : List Int) := rfl
    have e2 : ∀ i, gb ([0, a] ++ A.flatMap fun a => ([0, a] : List Int)) (i + 2) = gb (A.flatMap fun a => ([0, a] : List Int)) i := fun i => rfl
    rw [e, show 2 * (k + 1) = 2 * k + 2 by omega, e2, show 2 * k + 2 + 1 = (2 * k + 1) + 2 by omega, e2, List.getElem_cons_succ]
    exact ih
theorem num_ats {m : Nat} {A : List Int} {k : Nat} (h : k < A.length) (hl : A.length ≤ 3) : num (padB (ats m A)) (2 + 2 * k) = A[k] := by
  obtain ⟨h1, h2⟩ := ats_get m A k h
  have hal := ats_len m A
  unfold num padB
  rw [gb_app (by omega), gb_app (by omega)]
  have e : ∀ i, gb (ats m A) (2 + i) = gb (A.flatMap fun a => ([0, a] : List Int)) i := fun i => by unfold ats gb; rw [Nat.add_comm]; rfl
  rw [e, show 2 + 2 * k + 1 = 2 + (2 * k + 1) by omega, e, h1, h2]; omega
theorem pcs_ats {b : Bls} {x y A : List Int} (hl : A.length ≤ 3) (hnd : A.Nodup) (hp : ∀ a ∈ A, pcB b x y a = true) (hf : ∀ k (h : k < A.length), k + 1 < A.length → gb (blk b A[k].toNat) 2 = 40) : ∀ f k, k + f = A.length →
    pcs b x y (padB (ats A.length A)) A.length f (A.take k) k = some A
  | 0, k, hk => by
    unfold pcs
    rw [List.take_of_length_le (by omega)]
  | f + 1, k, hk => by
    have hkl : k < A.length := by omega
    unfold pcs
    rw [num_ats hkl hl, hp _ (List.getElem_mem hkl), decide_eq_true (hf k hkl), decide_eq_false (fun hh => by
      obtain ⟨j, hj, he⟩ := List.getElem_of_mem hh
      rw [List.length_take] at hj
      rw [List.getElem_take] at he
      exact List.pairwise_iff_getElem.1 hnd j k (by omega) hkl (by omega) he), if_pos (by rfl), ← List.take_succ_eq_append_getElem hkl]
    exact pcs_ats hl hnd hp hf f (k + 1) (by omega)
theorem Lt.mem {n q r : Nat} {b b2 : Bls} {x z sh A x2 z2 : List Int} {ps : List (List UInt8)} (h : Lt n b x z sh ps A r b2 x2 z2 q) {a : Int} (ha : a ∈ A) : ∃ j, j < ps.length ∧ A[j]? = some a := by
  obtain ⟨j, hj, he⟩ := List.getElem_of_mem ha
  have := h.len
  exact ⟨j, by omega, by rw [List.getElem?_eq_getElem hj, he]⟩
theorem lt_pcB {b b2 : Bls} {x y z sh A x2 z2 : List Int} {t : List UInt8} {ps : List (List UInt8)} {r q : Nat} (h : Lt b.length b x z sh ps A r b2 x2 z2 q) (g : GS b x y z) (rs : RS b x y) (hs : Sh b x y sh ps) {a : Int} (ha : a ∈ A) : pcB b2 x2 y a = true := by
  obtain ⟨j, hj, he⟩ := h.mem ha
  obtain ⟨m, v, h1, h2, h3, h4, h5, h6⟩ := lt_piece h rs hs hj
  rw [h1] at he
  obtain rfl := Option.some.inj he
  have hpl := hs.pc _ (List.getElem_mem hj)
  have hbl := h.wk.hb
  unfold pcB liv
  rw [Int.toNat_natCast, h4, List.getElem?_eq_getElem hj, Option.getD_some, pcb_G h5 hpl, h3, decide_eq_true (by omega), decide_eq_false (fun hy => ?_)]
  · rfl
  · have hby := (up_mem g.hy _ hy).2.2
    rw [Int.toNat_natCast] at hby
    rcases h6 with ⟨_, p⟩ | ⟨_, _, _, p⟩
    · rw [p] at hby; cases hby
    · obtain ⟨m2, e, _, _, _, hny, _⟩ := pcB_nat p
      obtain rfl : m = m2 := by omega
      exact hny hy
theorem cat_congr {b b2 : Bls} : ∀ {l : List Int}, (∀ a ∈ l, pcTx b2 a = pcTx b a) → cat b2 l = cat b l
  | [], _ => rfl
  | a :: l, h => by
    have e1 := h a (by simp)
    have e2 := cat_congr (b := b) (b2 := b2) (l := l) fun v hv => h v (by simp [hv])
    show pcTx b2 a ++ cat b2 l = pcTx b a ++ cat b l
    rw [e1, e2]
theorem text_read {b b2 : Bls} {x y z sh A x2 z2 : List Int} {t : List UInt8} {r q : Nat} (h : Lt b.length b x z sh (cutT 3 t) A r b2 x2 z2 q) (g : GS b x y z) (rs : RS b x y) (hs : Sh b x y sh (cutT 3 t)) (ht : t.length ≤ 120) :
    ptx b2 x2 y ((r : Nat) : Int) = some A ∧ cat b2 A = t := by
  obtain ⟨⟨r1, r2⟩, r3, r4, r5, r6⟩ := h.rt
  have hlen := h.len
  have hm3 := hs.m3
  have hbl := h.wk.hb
  have hal := ats_len A.length A
  have hjoin := cutT_join 3 t (by omega)
  have hfull := cutT_full 3 t
  refine ⟨?_, ?_⟩
  · unfold ptx
    rw [← hlen] at r5
    have e0 : gb (padB (ats A.length A)) 0 = 84 := rfl
    have e1 : gb (padB (ats A.length A)) 1 = ((A.length : Nat) : Int) := rfl
    have hrz : rz (padB (ats A.length A)) (2 + 2 * A.length) = true := pad_rz _ hal.symm
    have hliv : liv b2 x2 y ((r : Nat) : Int) = true := by
      unfold liv
      rw [Int.toNat_natCast, r4, decide_eq_true (by omega), decide_eq_false (fun hy => ?_)]
      · rfl
      · have hby := (up_mem g.hy _ hy).2.2
        rw [Int.toNat_natCast, r3] at hby
        cases hby
    rw [Int.toNat_natCast, r5, hliv, e0, e1, Int.toNat_natCast, hrz, decide_eq_true rfl, decide_eq_true (by omega), if_pos (by rfl)]
    have := pcs_ats (b := b2) (x := x2) (y := y) (A := A) (by omega) h.nd (fun a ha => lt_pcB (t := t) h g rs hs ha) (fun k hk hk1 => by
      obtain ⟨m, v, p1, p2, p3, p4, _⟩ := lt_piece h rs hs (j := k) (by omega)
      rw [List.getElem?_eq_getElem hk] at p1
      rw [Option.some.inj p1, Int.toNat_natCast, p4, List.getElem?_eq_getElem (by omega), Option.getD_some]
      have e2 : ∀ p : List UInt8, gb (pcb v p) 2 = ((p.length : Nat) : Int) := fun p => rfl
      rw [e2]
      have := hfull k (by omega)
      omega) A.length 0 (by omega)
    exact this
  · have key : ∀ k, k ≤ A.length → cat b2 (A.take k) = ((cutT 3 t).take k).flatten := by
      intro k
      induction k with
      | zero => intro _; rfl
      | succ k ih =>
        intro hk
        have hkA : k < A.length := hk
        have hkp : k < (cutT 3 t).length := by omega
        obtain ⟨m, v, p1, p2, p3, p4, _⟩ := lt_piece h rs hs hkp
        rw [List.getElem?_eq_getElem hkA] at p1
        rw [cat_succ b2 hkA, ih (by omega), List.take_succ_eq_append_getElem hkp, List.flatten_append, Option.some.inj p1, pcTx_pcb p4, List.getElem?_eq_getElem hkp, Option.getD_some]
        simp
    have := key A.length (Nat.le_refl _)
    rw [List.take_length, hlen, List.take_length, hjoin] at this
    exact this
theorem pcs_congr {b b2 : Bls} {x x2 y y2 c : List Int} {n : Nat} : ∀ (f k : Nat) (out l : List Int), pcs b x y c n f out k = some l → (∀ a ∈ l, pcB b2 x2 y2 a = true ∧ gb (blk b2 a.toNat) 2 = gb (blk b a.toNat) 2) → pcs b2 x2 y2 c n f out k = some l
  | 0, k, out, l, h, _ => by unfold pcs at h ⊢; exact h
  | f + 1, k, out, l, h, hl => by
    unfold pcs at h ⊢
    split at h
    · rename_i hc
      have hmem : num c (2 + 2 * k) ∈ l := by
        have key : ∀ (f k : Nat) (out l : List Int), pcs b x y c n f out k = some l → ∀ a ∈ out, a ∈ l := by
          intro f
          induction f with
          | zero => intro k out l h a ha; unfold pcs at h; cases h; exact ha
          | succ f ih =>
            intro k out l h a ha
            unfold pcs at h
            split at h
            · exact ih _ _ _ h a (by simp [ha])
            · cases h
        exact key _ _ _ _ h _ (by simp)
      obtain ⟨p1, p2⟩ := hl _ hmem
      simp only [Bool.and_eq_true] at hc
      rw [p1, p2, hc.2.1, hc.2.2, if_pos (by rfl)]
      exact pcs_congr f (k + 1) _ l h hl
    · cases h
theorem ptx_congr {b b2 : Bls} {x x2 y y2 l : List Int} {root : Int} (h : ptx b x y root = some l) (hr : liv b2 x2 y2 root = true) (hb : blk b2 root.toNat = blk b root.toNat)
    (hl : ∀ a ∈ l, pcB b2 x2 y2 a = true ∧ gb (blk b2 a.toNat) 2 = gb (blk b a.toNat) 2) : ptx b2 x2 y2 root = some l := by
  unfold ptx at h ⊢
  split at h
  · rename_i hc
    simp only [Bool.and_eq_true] at hc
    rw [hr, hb, hc.2.1, hc.2.2.1, hc.2.2.2, if_pos (by rfl)]
    exact pcs_congr _ _ _ _ h hl
  · cases h
theorem lt_near {b b2 : Bls} {x y z hv A x2 z2 : List Int} {t : List UInt8} {near : Int} {r q : Nat} (g : GS b x y z) (rs : RS b x y) (hh : ptx b x y near = some hv) (h : Lt b.length b x z (shs b hv (cutT 3 t)) (cutT 3 t) A r b2 x2 z2 q) :
    near ∉ A ∧ near ≠ ((r : Nat) : Int) ∧ blk b2 near.toNat = blk b near.toNat ∧ bit x2 near.toNat = true ∧ (33 ≤ near ∧ near < (b.length : Int)) ∧ near ∉ y ∧
    ∀ a ∈ hv, ((a ∉ A ∧ blk b2 a.toNat = blk b a.toNat) ∨ (a ∈ A ∧ ∃ (v : Int) (p : List UInt8), 2 ≤ v ∧ v ≤ 250 ∧ (1 ≤ p.length ∧ p.length ≤ 40) ∧ blk b2 a.toNat = pcb v p ∧ blk b a.toNat = pcb (v - 1) p)) ∧ bit x2 a.toNat = true ∧ a ≠ ((r : Nat) : Int) := by
  obtain ⟨hp, hlv, h84, hnl⟩ := ptx_ok hh
  have hs := shs_sh hp t
  obtain ⟨⟨r1, r2⟩, r3, r4, r5, r6⟩ := h.rt
  obtain ⟨m, rfl, h33, hmb, hbm, hmy⟩ := liv_nat hlv
  have hn := g.hb
  have hmA : ((m : Nat) : Int) ∉ A := fun hm => by
    obtain ⟨j, hj, he⟩ := h.mem hm
    obtain ⟨k, v, p1, p2, p3, p4, p5, p6⟩ := lt_piece h rs hs hj
    rw [p1] at he
    obtain rfl : k = m := by have := Option.some.inj he; omega
    rcases p6 with ⟨_, p⟩ | ⟨q1, _, _, _⟩
    · rw [p] at hbm; cases hbm
    · rw [shs_get b hv hj] at q1
      rcases shr_cases b hv j (cutT 3 t)[j] with e | ⟨e1, e2, _⟩
      · rw [e] at q1
        have := Option.some.inj q1
        omega
      · rw [e2] at q1
        exact hnl (by rw [← Option.some.inj q1]; exact List.getElem_mem e1)
  have hmr : m ≠ r := by rintro rfl; rw [r3] at hbm; cases hbm
  obtain ⟨o1, o2⟩ := h.oth m (by omega) hmA hmr
  refine ⟨hmA, by omega, by rw [Int.toNat_natCast]; exact o1, by rw [Int.toNat_natCast]; exact h.up m (by omega) hbm, by omega, hmy, fun a ha => ?_⟩
  obtain ⟨k, rfl, k33, hkb, hbk, hky, hkg⟩ := pcB_nat (hp.all a ha)
  rw [Int.toNat_natCast]
  have hkr : k ≠ r := by rintro rfl; rw [r3] at hbk; cases hbk
  refine ⟨?_, h.up k (by omega) hbk, by omega⟩
  by_cases hkA : ((k : Nat) : Int) ∈ A
  · right
    refine ⟨hkA, ?_⟩
    obtain ⟨j, hj, he⟩ := h.mem hkA
    obtain ⟨k2, v, p1, p2, p3, p4, p5, p6⟩ := lt_piece h rs hs hj
    rw [p1] at he
    obtain rfl : k2 = k := by have := Option.some.inj he; omega
    have hpl := hs.pc _ (List.getElem_mem hj)
    rw [List.getElem?_eq_getElem hj, Option.getD_some] at p4 p6
    rcases p6 with ⟨_, p⟩ | ⟨_, q2, q3, _⟩
    · rw [p] at hbk; cases hbk
    · exact ⟨v, _, q2, p5.2, hpl, p4, q3⟩
  · exact .inl ⟨hkA, (h.oth k (by omega) hkA hkr).1⟩
theorem near_stays {b b2 : Bls} {x y z hv A x2 z2 : List Int} {t : List UInt8} {near : Int} {r q : Nat} (g : GS b x y z) (rs : RS b x y) (hh : ptx b x y near = some hv) (h : Lt b.length b x z (shs b hv (cutT 3 t)) (cutT 3 t) A r b2 x2 z2 q) :
    ptx b2 x2 y near = some hv ∧ cat b2 hv = cat b hv := by
  obtain ⟨n1, n2, n3, n4, n5, n6, n7⟩ := lt_near g rs hh h
  have hbl := h.wk.hb
  obtain ⟨hp, _⟩ := ptx_ok hh
  have key : ∀ a ∈ hv, pcB b2 x2 y a = true ∧ gb (blk b2 a.toNat) 2 = gb (blk b a.toNat) 2 ∧ pcTx b2 a = pcTx b a := fun a ha => by
    obtain ⟨k, rfl, k33, hkb, hbk, hky, hkg⟩ := pcB_nat (hp.all a ha)
    obtain ⟨c, c2, _⟩ := n7 _ ha
    rw [Int.toNat_natCast] at c c2 ⊢
    have hl : liv b2 x2 y ((k : Nat) : Int) = true := by
      unfold liv
      rw [Int.toNat_natCast, c2, decide_eq_true (by omega), decide_eq_false hky]; rfl
    unfold pcB
    rw [hl, Int.toNat_natCast]
    rcases c with ⟨_, c⟩ | ⟨_, v, p, v1, v2, pl, e1, e2⟩
    · rw [c, hkg]
      refine ⟨rfl, rfl, ?_⟩
      unfold pcTx
      rw [Int.toNat_natCast, c]
    · rw [e1, pcb_G ⟨by omega, v2⟩ pl]
      refine ⟨rfl, by rw [e2]; rfl, ?_⟩
      rw [pcTx_pcb e1, pcTx_pcb e2]
  refine ⟨ptx_congr hh ?_ n3 fun a ha => ⟨(key a ha).1, (key a ha).2.1⟩, cat_congr fun a ha => (key a ha).2.2⟩
  unfold liv
  rw [n4, decide_eq_true (by omega), decide_eq_false n6]; rfl
end Go.V.G

set_option linter.unusedVariables false
set_option linter.unusedSimpArgs false
set_option maxRecDepth 100000
namespace Go.V.G
open Go.V
theorem drops_res {b : Bls} {x y l : List Int} (hl : Pcs b x y l) {s : Wst} {q : Nat} (h : Ws b.length s q) (hq : q ≤ 1000) (hs : ∀ a ∈ l, blk s.1 a.toNat = blk b a.toNat) : ∀ k, k ≤ l.length →
    (∀ j (hj : j < l.length), j < k → blk ((l.take k).foldl drp s).1 l[j].toNat = if gb (blk b l[j].toNat) 1 = 1 then blk b l[j].toNat else (blk b l[j].toNat).set 1 (gb (blk b l[j].toNat) 1 - 1)) ∧
    (∀ i : Nat, ((i : Nat) : Int) ∉ l → blk ((l.take k).foldl drp s).1 i = blk s.1 i) ∧
    (∀ v ∈ ((l.take k).foldl drp s).2.1, v ∈ s.2.1 ∨ ∃ j, ∃ hj : j < l.length, v = l[j] ∧ gb (blk b l[j].toNat) 1 = 1) ∧
    (∀ v ∈ ((l.take k).foldl drp s).2.2, v ∈ s.2.2 ∨ v ∈ l)
  | 0, _ => ⟨fun j hj hk => absurd hk (by omega), fun i _ => rfl, fun v hv => .inl hv, fun v hv => .inl hv⟩
  | k + 1, hk => by
    obtain ⟨r1, r2, r3, r4⟩ := drops_res hl h hq hs k (by omega)
    obtain ⟨h1, h2⟩ := drops_ok hl h (by omega) hs k (by omega)
    have hk' : k < l.length := hk
    have hlen := hl.len
    rw [List.take_succ_eq_append_getElem hk', List.foldl_append, List.foldl_cons, List.foldl_nil]
    have hbk := h2 k hk' (Nat.le_refl _)
    obtain ⟨m, hm, h33, hmb, _, _, hg⟩ := pcB_nat (hl.all _ (List.getElem_mem hk'))
    have hne : ∀ j (hj : j < l.length), j ≠ k → l[j].toNat ≠ m := fun j hj hjk hh => by
      obtain ⟨m', hm', _⟩ := pcB_nat (hl.all _ (List.getElem_mem hj))
      have e : l[j] = l[k] := by rw [hm, hm']; rw [hm'] at hh; rw [Int.toNat_natCast] at hh; rw [hh]
      rcases Nat.lt_or_gt_of_ne hjk with h' | h'
      · exact List.pairwise_iff_getElem.1 hl.nd j k hj hk' h' e
      · exact List.pairwise_iff_getElem.1 hl.nd k j hk' hj h' e.symm
    rw [hm, Int.toNat_natCast] at hbk
    generalize (l.take k).foldl drp s = w at *
    have hwb : m < w.1.length := by rw [h1.hn]; exact hmb
    have hy := h1.ly; have hz := h1.lz
    obtain ⟨_, _, _, _, my⟩ := pt_eq (z := w.2.1) (by omega) h1.hy l[k]
    obtain ⟨_, _, _, _, mz⟩ := pt_eq (z := w.2.2) (by omega) h1.hz l[k]
    have edr : drp w l[k] = if gb (blk b m) 1 = 1 then (w.1, pt w.2.1 l[k], w.2.2) else (w.1.set m ((blk b m).set 1 (gb (blk b m) 1 - 1)), w.2.1, pt w.2.2 l[k]) := by
      unfold drp
      rw [show l[k].toNat = m by rw [hm, Int.toNat_natCast], hbk]
    rw [edr]
    refine ⟨fun j hj hjk => ?_, fun i hi => ?_, ?_, ?_⟩
    · by_cases hjk' : j = k
      · subst hjk'
        rw [show l[j].toNat = m by rw [hm, Int.toNat_natCast]]
        by_cases hc : gb (blk b m) 1 = 1
        · rw [if_pos hc, if_pos hc]; exact hbk
        · rw [if_neg hc, if_neg hc]; exact blk_set_eq hwb
      · rw [← r1 j hj (by omega)]
        split
        · rfl
        · exact blk_set_ne (Ne.symm (hne j hj hjk'))
    · rw [← r2 i hi]
      split
      · rfl
      · refine blk_set_ne ?_
        rintro rfl
        exact hi (by rw [← hm]; exact List.getElem_mem hk')
    · by_cases hc : gb (blk b m) 1 = 1
      · rw [if_pos hc]
        intro v hv
        rcases (my v).1 hv with hv | hv
        · exact r3 v hv
        · exact .inr ⟨k, hk', hv, by rw [show l[k].toNat = m by rw [hm, Int.toNat_natCast]]; exact hc⟩
      · rw [if_neg hc]; exact r3
    · by_cases hc : gb (blk b m) 1 = 1
      · rw [if_pos hc]; exact r4
      · rw [if_neg hc]
        intro v hv
        rcases (mz v).1 hv with hv | rfl
        · exact r4 v hv
        · exact .inr (List.getElem_mem hk')
theorem near_stays2 {b b2 : Bls} {x y z hv A x2 z2 : List Int} {t : List UInt8} {near : Int} {r q : Nat} (g : GS b x y z) (hy1000 : y.length ≤ 1000) (rs : RS b x y) (hh : ptx b x y near = some hv) (h : Lt b.length b x z (shs b hv (cutT 3 t)) (cutT 3 t) A r b2 x2 z2 q)
    (hA : ptx b2 x2 y ((r : Nat) : Int) = some A) (hq : q ≤ 1000) :
    GS (dropF b2 y z2 ((r : Nat) : Int) A).1 x2 (dropF b2 y z2 ((r : Nat) : Int) A).2.1 (dropF b2 y z2 ((r : Nat) : Int) A).2.2 ∧
    (∀ c ∈ (dropF b2 y z2 ((r : Nat) : Int) A).1, U8s c) ∧
    ptx (dropF b2 y z2 ((r : Nat) : Int) A).1 x2 (dropF b2 y z2 ((r : Nat) : Int) A).2.1 near = some hv ∧ cat (dropF b2 y z2 ((r : Nat) : Int) A).1 hv = cat b hv := by
  obtain ⟨n1, n2, n3, n4, n5, n6, n7⟩ := lt_near g rs hh h
  have hbl := h.wk.hb
  have g2 := h.gs g
  have hz2 := h.wk.hz
  have hb2 := g2.hb
  obtain ⟨⟨r1, r2⟩, r3, r4, _⟩ := h.rt
  obtain ⟨hp, hlv, h84, hnl⟩ := ptx_ok hh
  obtain ⟨hpA, _⟩ := ptx_ok hA
  obtain ⟨ry, _⟩ := ris_of g2.hy
  have hws : Ws b2.length (b2, y, z2) 1000 := ⟨rfl, h.wk.hk, h.bu, ry, h.wk.hr, hy1000, by dsimp only; omega⟩
  obtain ⟨_, _, _, _, myr⟩ := pt_eq (z := y) (by omega) ry ((r : Nat) : Int)
  have hws2 := hws.giveB (by omega) ((r : Nat) : Int)
  have hws3 : Ws b2.length (b2, pt y ((r : Nat) : Int), z2) 1001 := hws2
  have hW := (drops_ok hpA hws3 (by omega) (fun a _ => rfl) A.length (Nat.le_refl _)).1
  have hlenA := hpA.len
  rw [List.take_length] at hW
  have hfin : Ws b2.length (dropF b2 y z2 ((r : Nat) : Int) A) (1001 + A.length) := hW
  have hres : ∀ q', q' ≤ 1000 → Ws b2.length (b2, pt y ((r : Nat) : Int), z2) q' → _ := fun q' hq' hws' => drops_res (b := b2) (x := x2) (y := y) hpA hws' hq' (fun a _ => rfl) A.length (Nat.le_refl _)
  have hly : y.length ≤ 127 := by
    obtain ⟨q1, q2⟩ := ris_of g.hy
    have hbb := g.hb
    exact ris_len q1 fun i hi => by have := q2 i hi; omega
  obtain ⟨_, _, hptl, hptr, _⟩ := pt_eq (z := y) (by omega) ry ((r : Nat) : Int)
  obtain ⟨d1, d2, d3, d4⟩ := hres 1000 (Nat.le_refl _) ⟨rfl, h.wk.hk, h.bu, hptr, h.wk.hr, by dsimp only; omega, by dsimp only; omega⟩
  rw [List.take_length] at d1 d2 d3 d4
  generalize hD : dropF b2 y z2 ((r : Nat) : Int) A = D at *
  have hD' : A.foldl drp (b2, pt y ((r : Nat) : Int), z2) = D := hD
  rw [hD'] at d1 d2 d3 d4
  have hmemA : ∀ v ∈ A, ∃ k : Nat, v = ((k : Nat) : Int) ∧ (33 ≤ k ∧ k < b2.length) ∧ bit x2 k = true := fun v hv => by
    obtain ⟨k, e, k1, k2, k3, _⟩ := pcB_nat (hpA.all v hv)
    exact ⟨k, e, ⟨k1, k2⟩, k3⟩
  have hYm : ∀ v ∈ D.2.1, v ∈ y ∨ v = ((r : Nat) : Int) ∨ (v ∈ A ∧ gb (blk b2 v.toNat) 1 = 1) := fun v hv => by
    rcases d3 v hv with hv | ⟨j, hj, e, hc⟩
    · rcases (myr v).1 hv with hv | hv
      · exact .inl hv
      · exact .inr (.inl hv)
    · exact .inr (.inr ⟨by rw [e]; exact List.getElem_mem hj, by rw [e]; exact hc⟩)
  have gD : GS D.1 x2 D.2.1 D.2.2 := by
    have hDl : D.1.length = b2.length := hfin.hn
    refine ⟨by omega, g2.hx, hfin.hk, fun i hi => by rw [hDl]; exact g2.hbits i hi, upB_of hfin.hy fun v hv => ?_, upB_of hfin.hz fun v hv => ?_⟩
    · rw [hDl]
      rcases hYm v hv with hv | rfl | ⟨hv, _⟩
      · exact up_mem g2.hy v hv
      · exact ⟨by omega, by omega, by rw [Int.toNat_natCast]; exact r4⟩
      · obtain ⟨k, rfl, hk, p⟩ := hmemA v hv
        exact ⟨by omega, by omega, by rw [Int.toNat_natCast]; exact p⟩
    · rw [hDl]
      rcases d4 v hv with hv | hv
      · exact up_mem g2.hz v hv
      · obtain ⟨k, rfl, hk, p⟩ := hmemA v hv
        exact ⟨by omega, by omega, by rw [Int.toNat_natCast]; exact p⟩
  have hDl : D.1.length = b2.length := hfin.hn
  have key : ∀ a ∈ hv, blk D.1 a.toNat = blk b a.toNat ∧ liv D.1 x2 D.2.1 a = true := fun a ha => by
    obtain ⟨k, rfl, k33, hkb, hbk, hky, hkg⟩ := pcB_nat (hp.all a ha)
    obtain ⟨c, c2, c3⟩ := n7 _ ha
    rw [Int.toNat_natCast] at c c2 ⊢
    have hnY : ((k : Nat) : Int) ∉ D.2.1 := fun hm => by
      rcases hYm _ hm with hm | hm | ⟨hm, h1⟩
      · exact hky hm
      · exact c3 hm
      · rw [Int.toNat_natCast] at h1
        rcases c with ⟨c, _⟩ | ⟨_, v, p, v1, v2, pl, e1, e2⟩
        · exact c hm
        · rw [e1] at h1
          have : gb (pcb v p) 1 = v := rfl
          omega
    refine ⟨?_, ?_⟩
    · rcases c with ⟨cA, c⟩ | ⟨cA, v, p, v1, v2, pl, e1, e2⟩
      · rw [d2 k cA]; exact c
      · obtain ⟨j, hj, he⟩ := List.getElem_of_mem cA
        have := d1 j hj hj
        rw [he, Int.toNat_natCast, e1] at this
        have ev : gb (pcb v p) 1 = v := rfl
        rw [ev, if_neg (by omega), pcb_set] at this
        rw [this, e2]
    · unfold liv
      rw [Int.toNat_natCast, c2, decide_eq_true (by omega), decide_eq_false hnY]; rfl
  have hnearY : near ∉ D.2.1 := fun hm => by
    rcases hYm _ hm with hm | hm | ⟨hm, _⟩
    · exact n6 hm
    · exact n2 hm
    · exact n1 hm
  have hlivn : liv D.1 x2 D.2.1 near = true := by
    unfold liv
    rw [n4, decide_eq_true (by omega), decide_eq_false hnearY]; rfl
  obtain ⟨m, hm, _⟩ := liv_nat hlv
  have hblkn : blk D.1 near.toNat = blk b near.toNat := by
    rw [← n3, hm, Int.toNat_natCast]
    exact d2 m (by rw [← hm]; exact n1)
  refine ⟨gD, hfin.hu, ptx_congr hh hlivn hblkn fun a ha => ?_, cat_congr fun a ha => ?_⟩
  · obtain ⟨e1, e2⟩ := key a ha
    have hpa := hp.all a ha
    unfold pcB at hpa ⊢
    simp only [Bool.and_eq_true] at hpa
    rw [e1, e2, hpa.2]
    exact ⟨rfl, rfl⟩
  · unfold pcTx
    rw [(key a ha).1]
structure Dr (b : Bls) (x y z : List Int) (q : Nat) : Prop where
  hb : 40 ≤ b.length ∧ b.length ≤ 160
  hk : ∀ c ∈ b, c.length = 128
  hu : ∀ c ∈ b, U8s c
  hx : x.length = 20
  hux : U8s x
  hy : Ris y
  hz : Ris z
  hlow : ∀ k, k < 33 → bit x k = true
  ly : y.length ≤ 300
  lz : z.length ≤ q
theorem Dr.sb {b : Bls} {x y z : List Int} {q : Nat} (d : Dr b x y z q) (hq : q ≤ 1000) : SB b x y z := ⟨by have := d.hb; omega, by have := d.ly; omega, by have := d.lz; omega⟩
theorem Dr.more {b : Bls} {x y z : List Int} {q q' : Nat} (d : Dr b x y z q) (hq : q ≤ q') : Dr b x y z q' := ⟨d.hb, d.hk, d.hu, d.hx, d.hux, d.hy, d.hz, d.hlow, d.ly, Nat.le_trans d.lz hq⟩
theorem Dr.flip {b : Bls} {x y z : List Int} {q : Nat} (d : Dr b x y z q) {i : Nat} (hi : i < b.length) (j : Nat) (v : Int) : Dr (b.set i (b[i].set j (IntKind.wrap .u8 v))) x y z q := by
  have hm := List.getElem_mem hi
  refine ⟨by rw [List.length_set]; exact d.hb, fun c hc => ?_, fun c hc => ?_, d.hx, d.hux, d.hy, d.hz, d.hlow, d.ly, d.lz⟩
  · rcases List.mem_or_eq_of_mem_set hc with hc | rfl
    · exact d.hk c hc
    · rw [List.length_set]; exact d.hk _ hm
  · rcases List.mem_or_eq_of_mem_set hc with hc | rfl
    · exact d.hu c hc
    · exact u8_setv (d.hu _ hm) (u8_wrap v)
theorem newDisk_z {m : Int} (h0 : 40 ≤ m) (h1 : m ≤ 160) : Ok (s_NewDisk m) fun r => (r.2.1.length : Int) = m ∧ (∀ x ∈ r.2.1, x = zeroB) := by
  unfold s_NewDisk
  refine Ok.bind_eq (s_In_eq _ _ _) (Ok.no (by simp [h0, h1]) ?_)
  refine Ok.bind (Q := fun r => (r.2.2.2.1.length : Int) = m ∧ (∀ x ∈ r.2.2.2.1, x = zeroB)) ?_ (fun r hr => Ok.mk hr)
  refine Ok.loop (fun y => 0 ≤ y.1 ∧ y.1 + (y.2.2.2.2.1.length : Int) = m ∧ ∀ x ∈ y.2.2.2.2.1, x = zeroB) (fun y => y.1.toNat) ⟨by dsimp only; omega, by simp, by simp⟩ ?_
  rintro ⟨n, a, b, c, bl, d, e, f⟩ ⟨q1, q2, q3⟩
  dsimp only at q1 q2 q3
  unfold s_NewDisk_L1
  refine Ok.ite (fun hc => ?_) fun hc => Ok.mk ⟨?_, q3⟩
  · have hn : 0 < n := by simpa using hc
    have e1 : IntKind.wrap .i64 (n - 1) = n - 1 := w64 (by omega) (by omega)
    refine Ok.yes (by decide) (Ok.yes (by decide) (Ok.yes (by decide) (Ok.yes ?_ (Ok.mk ⟨⟨?_, ?_, ?_⟩, ?_⟩))))
    · simp only [List.length_singleton, roomFor, decide_eq_true_eq]; omega
    · dsimp only; rw [e1]; omega
    · dsimp only; rw [e1, List.length_append, List.length_singleton]; omega
    · intro x hx
      rcases List.mem_append.1 hx with hx | hx
      · exact q3 x hx
      · rw [List.mem_singleton.1 hx]; rfl
    · dsimp only; rw [e1]; omega
  · have hn : n = 0 := by simp at hc; omega
    dsimp only
    omega
theorem fresh_dr {m : Int} (h0 : 40 ≤ m) (h1 : m ≤ 160) : Ok (s_l5Fresh m) fun r => Dr r.1 r.2 [] [] 0 := by
  unfold s_l5Fresh
  refine (newDisk_z h0 h1).bind ?_
  rintro ⟨k, bl, wr, on, lf⟩ ⟨b1, b2⟩
  dsimp only at b1 b2 ⊢
  refine Ok.yes (by simp) (Ok.yes (by simp) (Ok.yes (by simp [roomFor]) ?_))
  refine Ok.bind (Q := fun r => Dr r.1 r.2 [] [] 0) ?_ (fun r hr => Ok.mk hr)
  refine Ok.loop (fun y => ∃ (i : Nat) (x : List Int), i ≤ 33 ∧ y = (((i : Nat) : Int), bl, x) ∧ x.length = 20 ∧ U8s x ∧ ∀ k, k < i → bit x k = true) (fun y => (33 - y.1).toNat) ⟨0, _, by omega, rfl, by simp, fun v hv => by rw [List.eq_of_mem_replicate hv]; omega, fun k hk => absurd hk (by omega)⟩ ?_
  rintro _ ⟨i, x, hi, rfl, hx, hu, hlo⟩
  unfold s_l5Fresh_L1
  dsimp only
  refine Ok.ite (fun hc => ?_) fun hc => Ok.mk ⟨by dsimp only; omega, fun c hc => by rw [b2 c hc]; rfl, fun c hc => by rw [b2 c hc]; exact zeroB_u8, hx, hu, fun i j hi => by simp at hi, fun i j hi => by simp at hi, fun k hk => hlo k (by simp at hc; omega), by simp, by simp⟩
  have hlt : i < 33 := by simp at hc; omega
  have e1 := ix64 (i := i) (by omega)
  refine Ok.bind_eq (s_set_eq (by omega) (by omega)) (Ok.mk ⟨⟨i + 1, setB x i, by omega, by rw [e1], by unfold setB; rw [List.length_set]; exact hx, u8_set hu (by omega), fun k hk => by
    rw [bit_set hu (by omega) (by omega)]
    by_cases hki : k = i
    · simp [hki]
    · rw [hlo k (by omega), Bool.or_true]⟩, ?_⟩)
  dsimp only; rw [e1]; omega
theorem Lr.dr {b b2 : Bls} {x y z data l x2 z2 : List Int} {q : Nat} (h : Lr b.length b x z data l b2 x2 z2) (d : Dr b x y z q) : Dr b2 x2 y z2 300 :=
  ⟨by rw [h.wk.hb]; exact d.hb, h.wk.hk, h.bu, h.wk.hx, h.wk.hu, d.hy, h.wk.hr, h.wk.hlow, d.ly, by have := h.wk.hz; omega⟩
theorem Lt.dr {b b2 : Bls} {x y z sh A x2 z2 : List Int} {ps : List (List UInt8)} {r q q' : Nat} (h : Lt b.length b x z sh ps A r b2 x2 z2 q) (hq : q ≤ 300) (d : Dr b x y z q') : Dr b2 x2 y z2 300 :=
  ⟨by rw [h.wk.hb]; exact d.hb, h.wk.hk, h.bu, h.wk.hx, h.wk.hu, d.hy, h.wk.hr, h.wk.hlow, d.ly, by have := h.wk.hz; omega⟩
def Num (b : Bls) (v : Int) : Prop := 0 ≤ v ∧ v < (b.length : Int)
theorem layR_dr {b : Bls} {x y z data : List Int} {q : Nat} (hq : q ≤ 1000) (d : Dr b x y z q) (hdu : U8s data) : Ok (s_LayRecord b x y z data) fun r => r.2.1 = true → Num b r.1 ∧ r.2.2.1.length = b.length ∧ Dr r.2.2.1 r.2.2.2.1 r.2.2.2.2.1 r.2.2.2.2.2 300 ∧ r.2.2.2.2.1 = y := by
  rcases layRecord_eq2 (d.sb hq) d.hu d.hux hdu with ⟨h1, _⟩ | ⟨l, k0, b2, x2, z2, g, hd, h0, hL, h1, _⟩
  · exact ⟨_, h1, fun h => by cases h⟩
  · refine ⟨_, h1, fun _ => ⟨?_, hL.wk.hb, hL.dr d, rfl⟩⟩
    have hj : 0 < l.length := by have := hL.len; have := (nd_le hd).1; omega
    obtain ⟨k, e, hk, _⟩ := hL.at_ 0 hj
    rw [h0] at e
    have := Option.some.inj e
    unfold Num
    dsimp only
    omega
theorem layT_dr {b : Bls} {x y z : List Int} {q : Nat} (hq : q ≤ 1000) (d : Dr b x y z q) (t : List UInt8) (near : Int) : Ok (s_LayText b x y z t near) fun r => r.2.1 = true → Num b r.1 ∧ r.2.2.1.length = b.length ∧ Dr r.2.2.1 r.2.2.2.1 r.2.2.2.2.1 r.2.2.2.2.2 300 ∧ r.2.2.2.2.1 = y := by
  rcases layText_eq' (t := t) (near := near) (d.sb hq) d.hu d.hux with ⟨h1, _⟩ | ⟨hv, A, r, b2, x2, z2, g, hh, ht, hL, h1, _⟩
  · exact ⟨_, h1, fun h => by cases h⟩
  · refine ⟨_, h1, fun _ => ⟨?_, hL.wk.hb, hL.dr (by omega) d, rfl⟩⟩
    obtain ⟨⟨p1, p2⟩, _⟩ := hL.rt
    unfold Num
    dsimp only
    omega
theorem dataOf_ok {code : List Int} {a s : Int} (h : At code 2100 a) : Ok (s_l1Cur_dataOf_f code a s) fun r => (r.1.length ≤ 1001 ∧ U8s r.1) ∧ To code a 2100 r.2.1 r.2.2.1 := by
  unfold s_l1Cur_dataOf_f
  refine (among_ok (h.less (by omega)) (by simp)).bind ?_
  rintro ⟨n, c1, a1, s1⟩ ⟨m1, t1⟩
  dsimp only at m1 t1 ⊢
  refine (one_ok (t1.at (j := 2) (h.less (by omega)))).bind ?_
  rintro ⟨f2, c2, a2, s2⟩ t2
  dsimp only at t2 ⊢
  have t2' := t1.trans t2
  have hn : 0 ≤ n ∧ n ≤ 1001 := by
    simp only [List.mem_cons, List.not_mem_nil, or_false] at m1
    omega
  refine Ok.bind (Q := fun r => (0 ≤ r.1 ∧ r.1 ≤ 1001) ∧ To code a 6 r.2.1 r.2.2.1) ?_ ?_
  · refine Ok.ite (fun _ => ?_) fun _ => Ok.mk ⟨hn, t2'.more (by omega)⟩
    refine (among_ok (t2'.at (j := 2) (h.less (by omega))) (by simp)).bind ?_
    rintro ⟨n3, c3, a3, s3⟩ ⟨m3, t3⟩
    dsimp only at m3 t3 ⊢
    simp only [List.mem_cons, List.not_mem_nil, or_false] at m3
    exact Ok.mk ⟨by dsimp only; omega, t2'.trans t3⟩
  rintro ⟨n4, c4, a4, s4⟩ ⟨hn4, t4⟩
  dsimp only at hn4 t4 ⊢
  obtain ⟨k, rfl⟩ := Int.eq_ofNat_of_zero_le hn4.1
  refine Ok.yes (by simp) (Ok.yes (by simp) (Ok.yes (by simp only [roomFor, decide_eq_true_eq]; omega) ?_))
  refine Ok.bind (Q := fun r => (r.1.length ≤ 1001 ∧ U8s r.1) ∧ To code a 2100 r.2.1 r.2.2.1) ?_ (fun r hr => Ok.mk hr)
  refine Ok.loop (fun y => ∃ (i : Nat) (l c : List Int) (e s : Int), i ≤ k ∧ y = (l, ((k : Nat) : Int), ((i : Nat) : Int), c, e, s) ∧ (l.length = k ∧ U8s l) ∧ To code a (6 + 2 * (i : Int)) c e) (fun y => (y.2.1 - y.2.2.1).toNat)
    ⟨0, List.replicate k 0, c4, a4, s4, by omega, by rw [Int.toNat_natCast, List.length_replicate]; rfl, ⟨by simp, fun v hv => by rw [List.eq_of_mem_replicate hv]; omega⟩, t4.more (by omega)⟩ ?_
  rintro _ ⟨i, l, c, e, s, hi, rfl, ⟨hl, hu⟩, t⟩
  unfold s_l1Cur_dataOf_f_L1
  dsimp only
  refine Ok.ite (fun hc => ?_) fun hc => Ok.mk ⟨⟨by dsimp only; omega, hu⟩, t.more (by omega)⟩
  have hlt : i < k := by simpa using hc
  have e1 := ix64 (i := i) (by omega)
  have hg : l[0 + Int.toNat ((i : Nat) : Int)]? = some l[i] := by rw [Nat.zero_add, Int.toNat_natCast]; exact List.getElem?_eq_getElem (by omega)
  refine (pick_ok (t.at (j := 2) (h.less (by omega)))).bind ?_
  rintro ⟨n5, c5, a5, s5⟩ ⟨-, t5⟩
  dsimp only at t5 ⊢
  refine Ok.yes (by simp) (Ok.yes (by simp; omega) (Ok.bind_eq hg (Ok.bind_eq hg (Ok.mk ⟨⟨i + 1, _, c5, a5, s5, by omega, by rw [e1], ⟨by rw [List.length_set]; exact hl, u8_setv hu (u8_wrap _)⟩, (t.trans t5).more (by omega)⟩, ?_⟩))))
  dsimp only; rw [e1]; omega
theorem textSome_ok {code : List Int} {a s : Int} (h : At code 300 a) : Ok (s_l1Cur_textSome_f code a s) fun r => To code a 300 r.2.1 r.2.2.1 := by
  unfold s_l1Cur_textSome_f
  refine (among_ok (h.less (by omega)) (by simp)).bind ?_
  rintro ⟨n, c1, a1, s1⟩ ⟨m1, t1⟩
  dsimp only at m1 t1 ⊢
  have hn : 0 ≤ n ∧ n ≤ 120 := by
    simp only [List.mem_cons, List.not_mem_nil, or_false] at m1
    omega
  obtain ⟨k, rfl⟩ := Int.eq_ofNat_of_zero_le hn.1
  refine Ok.yes (by simp) (Ok.yes (by simp) (Ok.yes (by simp only [roomFor, decide_eq_true_eq]; omega) ?_))
  refine (pick_ok (t1.at (j := 2) (h.less (by omega)))).bind ?_
  rintro ⟨p2, c2, a2, s2⟩ ⟨-, t2⟩
  dsimp only at t2 ⊢
  have t2' := t1.trans t2
  refine Ok.bind (Q := fun r => To code a 300 r.2.1 r.2.2.1) ?_ (fun r hr => Ok.mk hr)
  refine Ok.loop (fun y => ∃ (i : Nat) (l c : List Int) (v e s : Int), i ≤ k ∧ y = (l, v, ((k : Nat) : Int), ((i : Nat) : Int), c, e, s) ∧ l.length = k ∧ To code a (4 + 2 * (i : Int)) c e) (fun y => (y.2.2.1 - y.2.2.2.1).toNat)
    ⟨0, List.replicate k 0, c2, _, a2, s2, by omega, by rw [Int.toNat_natCast, List.length_replicate]; rfl, by simp, t2'.more (by omega)⟩ ?_
  rintro _ ⟨i, l, c, v, e, s, hi, rfl, hl, t⟩
  unfold s_l1Cur_textSome_f_L1
  dsimp only
  refine Ok.ite (fun hc => ?_) fun hc => Ok.mk (t.more (by omega))
  have hlt : i < k := by simpa using hc
  have e1 := ix64 (i := i) (by omega)
  have hg : l[0 + Int.toNat ((i : Nat) : Int)]? = some l[i] := by rw [Nat.zero_add, Int.toNat_natCast]; exact List.getElem?_eq_getElem (by omega)
  refine Ok.yes (by simp) (Ok.yes (by simp; omega) (Ok.bind_eq hg (Ok.bind_eq hg ?_)))
  refine (one_ok (t.at (j := 2) (h.less (by omega)))).bind ?_
  rintro ⟨f5, c5, a5, s5⟩ t5
  dsimp only at t5 ⊢
  refine Ok.bind (Q := fun w => ∃ (l' c : List Int) (v' e s : Int), w = (l', v', ((k : Nat) : Int), ((i : Nat) : Int), c, e, s) ∧ l'.length = k ∧ To code a (4 + 2 * (i : Int) + 2) c e) ?_ ?_
  · refine Ok.ite (fun _ => Ok.mk ⟨_, _, _, _, _, rfl, by rw [List.length_set]; exact hl, t.trans t5⟩) fun _ => Ok.mk ⟨_, _, _, _, _, rfl, by rw [List.length_set]; exact hl, t.trans t5⟩
  rintro _ ⟨l', c', v', e', s', rfl, hl', t'⟩
  dsimp only
  rw [e1]
  refine Ok.mk ⟨⟨i + 1, l', c', v', e', s', by omega, rfl, hl', t'.more (by omega)⟩, ?_⟩
  dsimp only; omega
end Go.V.G

set_option linter.unusedVariables false
set_option linter.unusedSimpArgs false
set_option maxRecDepth 100000
namespace Go.V.G
open Go.V
def Nums (b : Bls) (l : List Int) : Prop := ∀ v ∈ l, Num b v
theorem Nums.snoc {b : Bls} {l : List Int} {v : Int} (h : Nums b l) (hv : Num b v) : Nums b (l ++ [v]) := fun w hw => by
  rcases List.mem_append.1 hw with hw | hw
  · exact h w hw
  · rw [List.mem_singleton.1 hw]; exact hv
theorem Nums.len {b c : Bls} {l : List Int} (h : Nums b l) (hc : c.length = b.length) : Nums c l := fun w hw => by
  have := h w hw
  unfold Num at this ⊢
  rw [hc]; exact this
theorem stocked_ok {code : List Int} {a s : Int} (h : At code 10000 a) : Ok (s_l1Cur_stocked_f code a s) fun r => (Nums r.2.2.1 r.1 ∧ Nums r.2.2.1 r.2.1 ∧ Dr r.2.2.1 r.2.2.2.1 r.2.2.2.2.1 r.2.2.2.2.2.1 300) ∧ To code a 8000 r.2.2.2.2.2.2.1 r.2.2.2.2.2.2.2.1 := by
  unfold s_l1Cur_stocked_f
  refine (pick_ok (h.less (by omega))).bind ?_
  rintro ⟨n1, c1, a1, s1⟩ ⟨⟨n0, n1'⟩, t1⟩
  dsimp only at n0 n1' t1 ⊢
  rw [w64 (by omega) (by omega)]
  refine (fresh_dr (by omega) (by omega)).bind ?_
  rintro ⟨b, x⟩ d0
  dsimp only at d0 ⊢
  refine (pick_ok (t1.at (j := 2) (h.less (by omega)))).bind ?_
  rintro ⟨m, c3, a3, s3⟩ ⟨⟨m0, m1⟩, t3⟩
  dsimp only at m0 m1 t3 ⊢
  have t3' := t1.trans t3
  refine Ok.bind (Q := fun r => (Nums r.2.2.1 r.1 ∧ Nums r.2.2.1 r.2.1 ∧ Dr r.2.2.1 r.2.2.2.1 r.2.2.2.2.1 r.2.2.2.2.2.1 300 ∧ r.2.2.2.2.1 = []) ∧ To code a 7210 r.2.2.2.2.2.2.1 r.2.2.2.2.2.2.2.1) ?_ ?_
  · refine Ok.loop (fun w => ∃ (k : Nat) (R T : List Int) (nr : Int) (b : Bls) (x y z c : List Int) (e s : Int), k ≤ 3 ∧ w = (R, T, nr, ((k : Nat) : Int), b, x, y, z, c, e, s) ∧ (R.length ≤ 3 - k ∧ T.length ≤ 3 - k) ∧ Nums b R ∧ Nums b T ∧ Dr b x y z 300 ∧ y = [] ∧ To code a (4 + 2400 * (3 - (k : Int))) c e) (fun w => w.2.2.2.1.toNat)
      ⟨m.toNat, [], [], 0, b, x, [], [], c3, a3, s3, by omega, by rw [Int.toNat_of_nonneg m0], ⟨by simp, by simp⟩, fun v hv => (by cases hv), fun v hv => (by cases hv), d0.more (by omega), rfl, t3'.more (by omega)⟩ ?_
    rintro _ ⟨k, R, T, nr, b, x, y, z, c, e, s, hk, rfl, ⟨hR, hT⟩, nR, nT, d, hy, t⟩
    unfold s_l1Cur_stocked_f_L1
    dsimp only
    refine Ok.ite (fun hc => ?_) fun hc => Ok.mk ⟨⟨nR, nT, d, hy⟩, t.more (by omega)⟩
    have hk0 : 0 < k := by simp at hc; omega
    refine (dataOf_ok (t.at (j := 2100) (h.less (by omega)))).bind ?_
    rintro ⟨data, c10, a10, s10⟩ ⟨⟨_, hdu⟩, t10⟩
    dsimp only at hdu t10 ⊢
    have t10' := t.trans t10
    refine (layR_dr (by omega) d hdu).bind ?_
    rintro ⟨at11, ok11, b11, x11, y11, z11⟩ q11
    dsimp only at q11 ⊢
    refine Ok.bind (Q := fun w => ∃ (R : List Int) (b : Bls) (x y z : List Int), w = (R, T, nr, ((k : Nat) : Int), b, x, y, z, c10, a10, s10) ∧ R.length ≤ 4 - k ∧ Nums b R ∧ Nums b T ∧ Dr b x y z 300 ∧ y = []) ?_ ?_
    · refine Ok.ite (fun hc => ?_) fun hc => Ok.mk ⟨R, b, x, y, z, rfl, by omega, nR, nT, d, hy⟩
      obtain ⟨p1, p2, p3, p4⟩ := q11 hc
      refine Ok.yes (by simp only [roomFor, decide_eq_true_eq, List.length_singleton]; omega) (Ok.mk ⟨_, b11, x11, y11, z11, rfl, by simp; omega, (nR.len p2).snoc (by unfold Num at p1 ⊢; rw [p2]; exact p1), nT.len p2, p3, by rw [p4]; exact hy⟩)
    rintro _ ⟨R, b, x, y, z, rfl, hR, nR, nT, d, hy⟩
    dsimp only
    refine (textSome_ok (t10'.at (j := 300) (h.less (by omega)))).bind ?_
    rintro ⟨tx, c13, a13, s13⟩ t13
    dsimp only at t13 ⊢
    have t13' := t10'.trans t13
    refine (layT_dr (by omega) d tx nr).bind ?_
    rintro ⟨at14, ok14, b14, x14, y14, z14⟩ q14
    dsimp only at q14 ⊢
    refine Ok.bind (Q := fun w => ∃ (T : List Int) (nr : Int) (b : Bls) (x y z : List Int), w = (R, T, nr, ((k : Nat) : Int), b, x, y, z, c13, a13, s13) ∧ T.length ≤ 4 - k ∧ Nums b R ∧ Nums b T ∧ Dr b x y z 300 ∧ y = []) ?_ ?_
    · refine Ok.ite (fun hc => ?_) fun hc => Ok.mk ⟨T, nr, b, x, y, z, rfl, by omega, nR, nT, d, hy⟩
      obtain ⟨p1, p2, p3, p4⟩ := q14 hc
      refine Ok.yes (by simp only [roomFor, decide_eq_true_eq, List.length_singleton]; omega) (Ok.mk ⟨_, at14, b14, x14, y14, z14, rfl, by simp; omega, nR.len p2, (nT.len p2).snoc (by unfold Num at p1 ⊢; rw [p2]; exact p1), p3, by rw [p4]; exact hy⟩)
    rintro _ ⟨T, nr, b, x, y, z, rfl, hT, nR, nT, d, hy⟩
    dsimp only
    have e1 : IntKind.wrap .i64 (((k : Nat) : Int) - 1) = ((k - 1 : Nat) : Int) := by rw [w64 (by omega) (by omega)]; omega
    rw [e1]
    refine Ok.mk ⟨⟨k - 1, R, T, nr, b, x, y, z, c13, a13, s13, by omega, rfl, ⟨by omega, by omega⟩, nR, nT, d, hy, t13'.more (by omega)⟩, ?_⟩
    dsimp only; omega
  rintro ⟨R, T, b, x, y, z, c16, a16, s16⟩ ⟨⟨nR, nT, d, hy⟩, t16⟩
  dsimp only at nR nT d hy t16 ⊢
  refine (one_ok (t16.at (j := 2) (h.less (by omega)))).bind ?_
  rintro ⟨f17, c17, a17, s17⟩ t17
  dsimp only at t17 ⊢
  have t17' := t16.trans t17
  refine Ok.bind (Q := fun w => ∃ (z : List Int), w = (R, T, b, x, y, z, c17, a17, s17) ∧ Dr b x y z 300) ?_ ?_
  · exact Ok.ite (fun _ => Ok.mk ⟨[], rfl, ⟨d.hb, d.hk, d.hu, d.hx, d.hux, d.hy, fun i j hi => by simp at hi, d.hlow, d.ly, by simp⟩⟩) fun _ => Ok.mk ⟨z, rfl, d⟩
  rintro _ ⟨z, rfl, d⟩
  dsimp only
  refine Ok.bind (Q := fun w => ∃ (f : Bool) (c : List Int) (e s : Int), w = (R, T, f, b, x, y, z, c, e, s) ∧ (f = true → 0 < R.length) ∧ To code a 7220 c e) ?_ ?_
  · refine (one_ok (t17'.at (j := 2) (h.less (by omega)))).bind ?_
    rintro ⟨f19, c19, a19, s19⟩ t19
    dsimp only at t19 ⊢
    exact Ok.ite (fun _ => Ok.mk ⟨_, _, _, _, rfl, fun hh => by simp at hh; omega, (t17'.trans t19).more (by omega)⟩) fun _ => Ok.mk ⟨_, _, _, _, rfl, fun hh => (by cases hh), (t17'.trans t19).more (by omega)⟩
  rintro _ ⟨f, c20, a20, s20, rfl, hf, t20⟩
  dsimp only
  refine Ok.bind (Q := fun w => ∃ (b' : Bls) (c : List Int) (e s : Int), w = (R, T, b', x, y, z, c, e, s) ∧ b'.length = b.length ∧ Dr b' x y z 300 ∧ To code a 7230 c e) ?_ ?_
  · refine Ok.ite (fun hc => ?_) fun _ => Ok.mk ⟨b, _, _, _, rfl, rfl, d, t20.more (by omega)⟩
    have hp := hf hc
    have hv := nR _ (List.getElem_mem hp)
    have hg : R[0 + Int.toNat 0]? = some R[0] := List.getElem?_eq_getElem hp
    refine Ok.yes (by simp) (Ok.yes (by simp; omega) (Ok.bind_eq hg ?_))
    obtain ⟨i, hi⟩ := Int.eq_ofNat_of_zero_le hv.1
    rw [hi] at hv ⊢
    have hib : i < b.length := by have := hv.2; omega
    have hbg : b[0 + Int.toNat ((i : Nat) : Int)]? = some b[i] := by rw [Nat.zero_add, Int.toNat_natCast]; exact List.getElem?_eq_getElem hib
    have h128 := d.hk _ (List.getElem_mem hib)
    refine Ok.yes (by simp) (Ok.yes (by simp; omega) (Ok.bind_eq hbg ?_))
    refine (pick_ok (t20.at (j := 2) (h.less (by omega)))).bind ?_
    rintro ⟨p, c23, a23, s23⟩ ⟨⟨p0, p1⟩, t23⟩
    dsimp only at p0 p1 t23 ⊢
    obtain ⟨j, rfl⟩ := Int.eq_ofNat_of_zero_le p0
    have hj : j < b[i].length := by omega
    have hcg : b[i][0 + Int.toNat ((j : Nat) : Int)]? = some b[i][j] := by rw [Nat.zero_add, Int.toNat_natCast]; exact List.getElem?_eq_getElem hj
    refine Ok.yes (by simp) (Ok.bind_eq hbg (Ok.yes (by simp; omega) (Ok.bind_eq hbg (Ok.bind_eq hcg ?_))))
    refine (pick_ok ((t20.trans t23).at (j := 2) (h.less (by omega)))).bind ?_
    rintro ⟨q, c27, a27, s27⟩ ⟨⟨q0, q1⟩, t27⟩
    dsimp only at q0 q1 t27 ⊢
    have hq : (0 : Int) ≤ IntKind.wrap .u64 q := by rw [wu64 q0 (by omega)]; exact q0
    refine Ok.yes (by simpa using hq) (Ok.yes (by simp) (Ok.bind_eq hbg (Ok.yes (by simp; omega) (Ok.bind_eq hbg (Ok.bind_eq hcg (Ok.bind_eq hbg (Ok.bind_eq hcg (Ok.mk ⟨_, _, _, _, rfl, List.length_set .., ?_, ((t20.trans t23).trans t27).more (by omega)⟩))))))))
    rw [Nat.zero_add, Int.toNat_natCast]
    exact d.flip hib _ _
  rintro _ ⟨b1, c33, a33, s33, rfl, hb1, d1, t33⟩
  have nR1 := nR.len hb1
  have nT1 := nT.len hb1
  dsimp only
  refine Ok.bind (Q := fun w => ∃ (f : Bool) (c : List Int) (e s : Int), w = (R, T, f, b1, x, y, z, c, e, s) ∧ (f = true → 0 < T.length) ∧ To code a 7240 c e) ?_ ?_
  · refine (one_ok (t33.at (j := 2) (h.less (by omega)))).bind ?_
    rintro ⟨f19, c19, a19, s19⟩ t19
    dsimp only at t19 ⊢
    exact Ok.ite (fun _ => Ok.mk ⟨_, _, _, _, rfl, fun hh => by simp at hh; omega, (t33.trans t19).more (by omega)⟩) fun _ => Ok.mk ⟨_, _, _, _, rfl, fun hh => (by cases hh), (t33.trans t19).more (by omega)⟩
  rintro _ ⟨f, c35, a35, s35, rfl, hf, t35⟩
  dsimp only
  refine Ok.bind (Q := fun w => ∃ (b' : Bls) (c : List Int) (e s : Int), w = (R, T, b', x, y, z, c, e, s) ∧ b'.length = b1.length ∧ Dr b' x y z 300 ∧ To code a 7250 c e) ?_ ?_
  · refine Ok.ite (fun hc => ?_) fun _ => Ok.mk ⟨b1, _, _, _, rfl, rfl, d1, t35.more (by omega)⟩
    have hp := hf hc
    have hv := nT1 _ (List.getElem_mem hp)
    have hg : T[0 + Int.toNat 0]? = some T[0] := List.getElem?_eq_getElem hp
    refine Ok.yes (by simp) (Ok.yes (by simp; omega) (Ok.bind_eq hg ?_))
    obtain ⟨i, hi⟩ := Int.eq_ofNat_of_zero_le hv.1
    rw [hi] at hv ⊢
    have hib : i < b1.length := by have := hv.2; omega
    have hbg : b1[0 + Int.toNat ((i : Nat) : Int)]? = some b1[i] := by rw [Nat.zero_add, Int.toNat_natCast]; exact List.getElem?_eq_getElem hib
    have h128 := d1.hk _ (List.getElem_mem hib)
    refine Ok.yes (by simp) (Ok.yes (by simp; omega) (Ok.bind_eq hbg ?_))
    refine (pick_ok (t35.at (j := 2) (h.less (by omega)))).bind ?_
    rintro ⟨p, c23, a23, s23⟩ ⟨⟨p0, p1⟩, t23⟩
    dsimp only at p0 p1 t23 ⊢
    obtain ⟨j, rfl⟩ := Int.eq_ofNat_of_zero_le p0
    have hj : j < b1[i].length := by omega
    have hcg : b1[i][0 + Int.toNat ((j : Nat) : Int)]? = some b1[i][j] := by rw [Nat.zero_add, Int.toNat_natCast]; exact List.getElem?_eq_getElem hj
    refine Ok.yes (by simp) (Ok.bind_eq hbg (Ok.yes (by simp; omega) (Ok.bind_eq hbg (Ok.bind_eq hcg ?_))))
    refine (pick_ok ((t35.trans t23).at (j := 2) (h.less (by omega)))).bind ?_
    rintro ⟨q, c27, a27, s27⟩ ⟨⟨q0, q1⟩, t27⟩
    dsimp only at q0 q1 t27 ⊢
    have hq : (0 : Int) ≤ IntKind.wrap .u64 q := by rw [wu64 q0 (by omega)]; exact q0
    refine Ok.yes (by simpa using hq) (Ok.yes (by simp) (Ok.bind_eq hbg (Ok.yes (by simp; omega) (Ok.bind_eq hbg (Ok.bind_eq hcg (Ok.bind_eq hbg (Ok.bind_eq hcg (Ok.mk ⟨_, _, _, _, rfl, List.length_set .., ?_, ((t35.trans t23).trans t27).more (by omega)⟩))))))))
    rw [Nat.zero_add, Int.toNat_natCast]
    exact d1.flip hib _ _
  rintro _ ⟨b2, c48, a48, s48, rfl, hb2, d2, t48⟩
  have nR2 := nR1.len hb2
  have nT2 := nT1.len hb2
  dsimp only
  refine Ok.bind (Q := fun w => ∃ (f : Bool) (c : List Int) (e s : Int), w = (R, T, f, b2, x, y, z, c, e, s) ∧ (f = true → 0 < T.length) ∧ To code a 7260 c e) ?_ ?_
  · refine (one_ok (t48.at (j := 2) (h.less (by omega)))).bind ?_
    rintro ⟨f19, c19, a19, s19⟩ t19
    dsimp only at t19 ⊢
    exact Ok.ite (fun _ => Ok.mk ⟨_, _, _, _, rfl, fun hh => by simp at hh; omega, (t48.trans t19).more (by omega)⟩) fun _ => Ok.mk ⟨_, _, _, _, rfl, fun hh => (by cases hh), (t48.trans t19).more (by omega)⟩
  rintro _ ⟨f, c50, a50, s50, rfl, hf, t50⟩
  dsimp only
  refine Ok.bind (Q := fun w => ∃ (y' : List Int), w = (R, T, b2, x, y', z, c50, a50, s50) ∧ Dr b2 x y' z 300) ?_ ?_
  · refine Ok.ite (fun hc => ?_) fun _ => Ok.mk ⟨y, rfl, d2⟩
    have hp := hf hc
    have hg : T[0 + Int.toNat 0]? = some T[0] := List.getElem?_eq_getElem hp
    obtain ⟨y', p1, _, p2, p3, _⟩ := put_both3 (l := y) (by rw [hy]; simp) d2.hy T[0]
    have hyl : y.length = 0 := by rw [hy]; rfl
    exact Ok.yes (by simp) (Ok.yes (by simp; omega) (Ok.bind_eq hg (Ok.bind_eq p1 (Ok.mk ⟨y', rfl, ⟨d2.hb, d2.hk, d2.hu, d2.hx, d2.hux, p3, d2.hz, d2.hlow, by omega, d2.lz⟩⟩))))
  rintro _ ⟨y', rfl, d3⟩
  exact Ok.mk ⟨⟨nR2, nT2, d3⟩, t50.more (by omega)⟩
theorem take_dr {b : Bls} {x y z : List Int} {q : Nat} (d : Dr b x y z q) (hq : q ≤ 1000) (hc : 0 < cnt x b.length) : Ok (s_l5Take_oooo b x y z) fun r => r.2.1.length = b.length ∧ r.2.2.2.1 = y ∧ Dr r.2.1 r.2.2.1 y r.2.2.2.2 (q + 1) ∧ cnt r.2.2.1 b.length + 1 = cnt x b.length := by
  have hw : Wk b.length b x z q := ⟨d.hb, rfl, d.hk, d.hx, d.hux, d.hlow, d.hz, d.lz⟩
  have hb := d.hb
  rcases tk_ok (y := y) hw (by omega) with ⟨h0, _⟩ | ⟨k, hk, hbk, hs, _, hw2, hcc⟩
  · omega
  · refine ⟨_, hs, List.length_set .., rfl, ⟨by dsimp only; rw [List.length_set]; exact d.hb, hw2.hk, fun c hc' => ?_, hw2.hx, hw2.hu, d.hy, hw2.hr, hw2.hlow, d.ly, hw2.hz⟩, hcc⟩
    rcases List.mem_or_eq_of_mem_set hc' with hc' | rfl
    · exact d.hu c hc'
    · exact zeroB_u8
theorem drawLayR_ok {code : List Int} (hb : Bytes code) : Ok (s_DrawLayRecord code) fun r => U8s r.1 ∧ Dr r.2.1 r.2.2.1 r.2.2.2.1 r.2.2.2.2 500 := by
  have h : At code 12000 0 := ⟨hb, by omega, by omega⟩
  unfold s_DrawLayRecord
  refine (stocked_ok (h.less (by omega))).bind ?_
  rintro ⟨R, T, b, x, y, z, c1, a1, s1⟩ ⟨⟨nR, nT, d⟩, t1⟩
  dsimp only at nR nT d t1 ⊢
  refine (one_ok (t1.at (j := 2) (h.less (by omega)))).bind ?_
  rintro ⟨f2, c2, a2, s2⟩ t2
  dsimp only at t2 ⊢
  have t2' := t1.trans t2
  refine Ok.bind (Q := fun w => Dr w.1 w.2.1 w.2.2.1 w.2.2.2.1 500 ∧ To code 0 8400 w.2.2.2.2.1 w.2.2.2.2.2.1) ?_ ?_
  · refine Ok.ite (fun _ => ?_) fun _ => Ok.mk ⟨d.more (by omega), t2'.more (by omega)⟩
    refine Ok.bind (Q := fun w => Dr w.1 w.2.1 w.2.2.1 w.2.2.2.1 500 ∧ To code 0 8400 w.2.2.2.2.1 w.2.2.2.2.2.1) ?_ (fun w hw => Ok.mk hw)
    have hbl := d.hb
    refine Ok.loop (fun w => ∃ (b' : Bls) (x' z' c : List Int) (e s : Int), w = (b', x', y, z', c, e, s) ∧ b'.length = b.length ∧ cnt x' b.length ≤ 160 ∧ Dr b' x' y z' (300 + (160 - cnt x' b.length)) ∧ To code 0 (8002 + 2 * (160 - (cnt x' b.length : Int))) c e) (fun w => cnt w.2.1 w.1.length)
      ⟨b, x, z, c2, a2, s2, rfl, rfl, by have := cnt_le (x := x) b.length; omega, d.more (by omega), t2'.more (by have := cnt_le (x := x) b.length; omega)⟩ ?_
    rintro _ ⟨b', x', z', c, e, s, rfl, hbb, hct, d', t⟩
    unfold s_DrawLayRecord_L1
    dsimp only
    refine Ok.bind_eq (s_free_cnt (by omega) d'.hx) ?_
    refine (pick_ok (t.at (j := 2) (h.less (by omega)))).bind ?_
    rintro ⟨p, c4, a4, s4⟩ ⟨⟨p0, p1⟩, t4⟩
    dsimp only at p0 p1 t4 ⊢
    have t4' := t.trans t4
    refine Ok.ite (fun hc => ?_) fun hc => Ok.mk ⟨d'.more (by omega), t4'.more (by omega)⟩
    have hpos : 0 < cnt x' b'.length := by simp at hc; omega
    refine (take_dr d' (by omega) hpos).bind ?_
    rintro ⟨k5, b5, x5, y5, z5⟩ ⟨q1, q2, q3, q4⟩
    dsimp only at q1 q2 q3 q4
    subst q2
    rw [hbb] at q4
    refine Ok.mk ⟨⟨b5, x5, z5, c4, a4, s4, rfl, by rw [q1, hbb], by omega, q3.more (by omega), t4'.more (by omega)⟩, ?_⟩
    dsimp only
    rw [q1, hbb]; omega
  rintro ⟨b, x, y, z, c7, a7, s7⟩ ⟨d7, t7⟩
  dsimp only at d7 t7 ⊢
  refine (dataOf_ok (t7.at (j := 2100) (h.less (by omega)))).bind ?_
  rintro ⟨data, c8, a8, s8⟩ ⟨⟨_, hdu⟩, _⟩
  exact Ok.mk ⟨hdu, d7⟩
theorem firstOf_ok {l code : List Int} {a s : Int} (h : At code 4 a) : Ok (s_l1Cur_firstOf_l_f l code a s) fun r => To code a 4 r.2.2.1 r.2.2.2.1 := by
  unfold s_l1Cur_firstOf_l_f
  refine Ok.bind (Q := fun w => ∃ (f : Bool) (c : List Int) (e s : Int), w = (l, f, c, e, s) ∧ (f = false → 0 < l.length) ∧ To code a 2 c e) ?_ ?_
  · refine Ok.ite (fun hc => Ok.mk ⟨true, _, _, _, rfl, fun hh => (by cases hh), (To.refl _ _).more (by omega)⟩) fun hc => ?_
    have hl : 0 < l.length := by simp at hc; exact List.length_pos_iff.2 hc
    refine (one_ok (h.less (by omega))).bind ?_
    rintro ⟨f1, c1, a1, s1⟩ t1
    exact Ok.mk ⟨_, _, _, _, rfl, fun _ => hl, t1⟩
  rintro _ ⟨f, c2, a2, s2, rfl, hf, t2⟩
  dsimp only
  refine Ok.ite (fun hc => ?_) fun hc => ?_
  · refine (among_ok (t2.at (j := 2) (h.less (by omega))) (by simp)).bind ?_
    rintro ⟨v, c3, a3, s3⟩ ⟨_, t3⟩
    exact Ok.mk (t2.trans t3)
  · have hl := hf (by simpa using hc)
    refine (pick_ok (t2.at (j := 2) (h.less (by omega)))).bind ?_
    rintro ⟨v, c3, a3, s3⟩ ⟨⟨v0, v1⟩, t3⟩
    dsimp only at v0 v1 t3 ⊢
    have hv : v.toNat < l.length := by omega
    have hg : l[0 + Int.toNat v]? = some l[v.toNat] := by rw [Nat.zero_add]; exact List.getElem?_eq_getElem hv
    exact Ok.yes (by simpa using v0) (Ok.yes (by simp; omega) (Ok.bind_eq hg (Ok.mk (t2.trans t3))))
theorem tin_len (b : Bls) (x y : List Int) (root : Int) : (tin b x y root).1.length ≤ 120 := by
  unfold tin
  cases hp : ptx b x y root with
  | none => simp
  | some l =>
    obtain ⟨⟨h1, _, h3⟩, _⟩ := ptx_ok hp
    have := cat_le h1
    dsimp only; omega
theorem drawLayT_ok {code : List Int} (hb : Bytes code) : Ok (s_DrawLayText code) fun r => Dr r.2.2.1 r.2.2.2.1 r.2.2.2.2.1 r.2.2.2.2.2 500 := by
  have h : At code 12000 0 := ⟨hb, by omega, by omega⟩
  unfold s_DrawLayText
  refine (stocked_ok (h.less (by omega))).bind ?_
  rintro ⟨R, T, b, x, y, z, c1, a1, s1⟩ ⟨⟨nR, nT, d⟩, t1⟩
  dsimp only at nR nT d t1 ⊢
  refine (textSome_ok (t1.at (j := 300) (h.less (by omega)))).bind ?_
  rintro ⟨tx, c2, a2, s2⟩ t2
  dsimp only at t2 ⊢
  have t2' := t1.trans t2
  refine Ok.bind (Q := fun w => ∃ (f : Bool) (c : List Int) (e s : Int), w = (T, 0, tx, f, b, x, y, z, c, e, s) ∧ To code 0 8302 c e) ?_ ?_
  · refine Ok.ite (fun _ => ?_) fun _ => Ok.mk ⟨_, _, _, _, rfl, t2'.more (by omega)⟩
    refine (one_ok (t2'.at (j := 2) (h.less (by omega)))).bind ?_
    rintro ⟨f3, c3, a3, s3⟩ t3
    exact Ok.mk ⟨_, _, _, _, rfl, t2'.trans t3⟩
  rintro _ ⟨f4, c4, a4, s4, rfl, t4⟩
  dsimp only
  refine Ok.bind (Q := fun w => ∃ (nr : Int) (tx : List UInt8) (c : List Int) (e s : Int), w = (nr, tx, b, x, y, z, c, e, s) ∧ To code 0 8310 c e) ?_ ?_
  · refine Ok.ite (fun _ => ?_) fun _ => Ok.mk ⟨_, _, _, _, _, rfl, t4.more (by omega)⟩
    refine (firstOf_ok (t4.at (j := 4) (h.less (by omega)))).bind ?_
    rintro ⟨l5, nr, c5, a5, s5⟩ t5
    dsimp only at t5 ⊢
    have t5' := t4.trans t5
    refine Ok.bind_eq (s_TextIn_eq (d.sb (by omega)) d.hu nr) ?_
    have htl : (if gsp b x y z = true then tin b x y nr else ([], [], false)).1.length ≤ 120 := by
      split
      · exact tin_len b x y nr
      · simp
    generalize (if gsp b x y z = true then tin b x y nr else ([], [], false)) = ti at htl
    obtain ⟨tt, bl, ok⟩ := ti
    dsimp only at htl ⊢
    refine Ok.bind (Q := fun w => ∃ (f : Bool) (c : List Int) (e s : Int), w = (nr, tx, tt, f, b, x, y, z, c, e, s) ∧ To code 0 8308 c e) ?_ ?_
    · refine Ok.ite (fun _ => ?_) fun _ => Ok.mk ⟨_, _, _, _, rfl, t5'.more (by omega)⟩
      refine (one_ok (t5'.at (j := 2) (h.less (by omega)))).bind ?_
      rintro ⟨f7, c7, a7, s7⟩ t7
      exact Ok.mk ⟨_, _, _, _, rfl, t5'.trans t7⟩
    rintro _ ⟨f8, c8, a8, s8, rfl, t8⟩
    dsimp only
    refine Ok.bind (Q := fun w => ∃ (tx : List UInt8) (c : List Int) (e s : Int), w = (nr, tx, b, x, y, z, c, e, s) ∧ To code 0 8310 c e) ?_ (fun w hw => by
      obtain ⟨tx, c, e, s, rfl, t⟩ := hw
      exact Ok.mk ⟨nr, tx, c, e, s, rfl, t⟩)
    refine Ok.ite (fun _ => ?_) fun _ => Ok.mk ⟨_, _, _, _, rfl, t8.more (by omega)⟩
    refine Ok.bind (Q := fun w => ∃ (f : Bool) (c : List Int) (e s : Int), w = (nr, tt, tt, f, b, x, y, z, c, e, s) ∧ (f = true → 1 < tt.length) ∧ To code 0 8310 c e) ?_ ?_
    · refine Ok.ite (fun hc => ?_) fun _ => Ok.mk ⟨_, _, _, _, rfl, fun hh => (by cases hh), t8.more (by omega)⟩
      refine (one_ok (t8.at (j := 2) (h.less (by omega)))).bind ?_
      rintro ⟨f9, c9, a9, s9⟩ t9
      exact Ok.mk ⟨_, _, _, _, rfl, fun _ => by simp at hc; omega, t8.trans t9⟩
    rintro _ ⟨f10, c10, a10, s10, rfl, hf, t10⟩
    dsimp only
    refine Ok.bind (Q := fun w => ∃ (tx : List UInt8) (c : List Int) (e s : Int), w = (nr, tx, b, x, y, z, c, e, s) ∧ To code 0 8310 c e) ?_ (fun w hw => by
      obtain ⟨tx, c, e, s, rfl, t⟩ := hw
      exact Ok.mk ⟨tx, c, e, s, rfl, t⟩)
    refine Ok.ite (fun hc => ?_) fun _ => Ok.mk ⟨_, _, _, _, rfl, t10⟩
    have h1 := hf hc
    have e1 : IntKind.wrap .i64 (((tt.length : Nat) : Int) - 1) = ((tt.length - 1 : Nat) : Int) := by rw [w64 (by omega) (by omega)]; omega
    rw [e1]
    exact Ok.yes (by simp) (Ok.yes (by simp) (Ok.yes (by simp) (Ok.yes (by simp) (Ok.mk ⟨_, _, _, _, rfl, t10⟩))))
  rintro _ ⟨nr, tx, c13, a13, s13, rfl, t13⟩
  dsimp only
  refine (one_ok (t13.at (j := 2) (h.less (by omega)))).bind ?_
  rintro ⟨f14, c14, a14, s14⟩ t14
  dsimp only at t14 ⊢
  have t14' := t13.trans t14
  refine Ok.bind (Q := fun w => ∃ (b : Bls) (x y z c : List Int) (e s : Int), w = (nr, tx, b, x, y, z, c, e, s) ∧ Dr b x y z 500 ∧ To code 0 8800 c e) ?_ ?_
  · refine Ok.ite (fun _ => ?_) fun _ => Ok.mk ⟨_, _, _, _, _, _, _, rfl, d.more (by omega), t14'.more (by omega)⟩
    refine Ok.bind (Q := fun w => ∃ (b : Bls) (x y z c : List Int) (e s : Int), w = (nr, tx, b, x, y, z, c, e, s) ∧ Dr b x y z 500 ∧ To code 0 8800 c e) ?_ (fun w hw => by
      obtain ⟨b, x, y, z, c, e, s, rfl, hw⟩ := hw
      exact Ok.mk ⟨b, x, y, z, c, e, s, rfl, hw⟩)
    have hbl := d.hb
    refine Ok.loop (fun w => ∃ (b' : Bls) (x' z' c : List Int) (e s : Int), w = (nr, tx, b', x', y, z', c, e, s) ∧ b'.length = b.length ∧ cnt x' b.length ≤ 160 ∧ Dr b' x' y z' (300 + (160 - cnt x' b.length)) ∧ To code 0 (8312 + 2 * (160 - (cnt x' b.length : Int))) c e) (fun w => cnt w.2.2.2.1 w.2.2.1.length)
      ⟨b, x, z, c14, a14, s14, rfl, rfl, by have := cnt_le (x := x) b.length; omega, d.more (by omega), t14'.more (by have := cnt_le (x := x) b.length; omega)⟩ ?_
    rintro _ ⟨b', x', z', c, e, s, rfl, hbb, hct, d', t⟩
    unfold s_DrawLayText_L1
    dsimp only
    refine Ok.bind_eq (s_free_cnt (by omega) d'.hx) ?_
    refine (pick_ok (t.at (j := 2) (h.less (by omega)))).bind ?_
    rintro ⟨p, c4, a4, s4⟩ ⟨⟨p0, p1⟩, t4⟩
    dsimp only at p0 p1 t4 ⊢
    have t4' := t.trans t4
    refine Ok.ite (fun hc => ?_) fun hc => Ok.mk ⟨_, _, _, _, _, _, _, rfl, d'.more (by omega), t4'.more (by omega)⟩
    have hpos : 0 < cnt x' b'.length := by simp at hc; omega
    refine (take_dr d' (by omega) hpos).bind ?_
    rintro ⟨k5, b5, x5, y5, z5⟩ ⟨q1, q2, q3, q4⟩
    dsimp only at q1 q2 q3 q4
    subst q2
    rw [hbb] at q4
    refine Ok.mk ⟨⟨b5, x5, z5, c4, a4, s4, rfl, by rw [q1, hbb], by omega, q3.more (by omega), t4'.more (by omega)⟩, ?_⟩
    dsimp only
    rw [q1, hbb]; omega
  rintro _ ⟨b, x, y, z, c19, a19, s19, rfl, d19, t19⟩
  dsimp only
  refine (one_ok (t19.at (j := 2) (h.less (by omega)))).bind ?_
  rintro ⟨f20, c20, a20, s20⟩ -
  dsimp only
  refine Ok.bind (Q := fun w => ∃ (tx : List UInt8), w = (nr, tx, b, x, y, z)) ?_ ?_
  · exact Ok.ite (fun _ => Ok.yes (by simp) (Ok.yes (by simp) (Ok.yes (by simp [roomFor]) (Ok.mk ⟨_, rfl⟩)))) fun _ => Ok.mk ⟨_, rfl⟩
  rintro _ ⟨tx, rfl⟩
  exact Ok.mk d19
end Go.V.G
