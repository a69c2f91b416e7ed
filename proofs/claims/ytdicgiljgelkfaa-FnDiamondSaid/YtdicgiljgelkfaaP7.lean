/-
  P7: changes as bytes; parts made normal; parts held against parts.
-/
import Derived.Test.YtdicgiljgelkfaaP6
set_option linter.unusedVariables false
set_option linter.unusedSimpArgs false
set_option maxRecDepth 100000
namespace Go.V.G
open Go.V

theorem kd_cases {p : Prt} (h : kd p ≠ 0) : (∃ a : Int, 0 < a ∧ p = (a, 0, []) ∧ kd p = 1) ∨ (∃ b : Int, 0 < b ∧ p = (0, b, []) ∧ kd p = 2) ∨ ∃ s : List UInt8, s ≠ [] ∧ p = (0, 0, s) ∧ kd p = 3 := by
  obtain ⟨a, b, s⟩ := p
  unfold kd at h ⊢
  by_cases h1 : 0 < a ∧ b = 0 ∧ s = []
  · obtain ⟨g1, g2, g3⟩ := h1; subst g2 g3
    left; exact ⟨a, g1, rfl, by simp [g1]⟩
  by_cases h2 : 0 < b ∧ a = 0 ∧ s = []
  · obtain ⟨g1, g2, g3⟩ := h2; subst g2 g3
    right; left; exact ⟨b, g1, rfl, by simp [g1]⟩
  by_cases h3 : s ≠ [] ∧ a = 0 ∧ b = 0
  · obtain ⟨g1, g2, g3⟩ := h3; subst g2 g3
    right; right; exact ⟨s, g1, rfl, by simp [g1]⟩
  rw [if_neg h1, if_neg h2, if_neg h3] at h
  exact absurd rfl h

/-! ### same parts -/
theorem sameParts_self {c : List Prt} (hlen : c.length ≤ 1099511627776) : l_sameParts c c = some true := by
  unfold l_sameParts
  have : loopG l_sameParts_L1 (c, c, ((List.length c : Nat) : Int), 0) = some (.inl ()) := by
    have := loop_run l_sameParts_L1 (fun k => (c, c, ((List.length c : Nat) : Int), ((k : Nat) : Int))) c.length (.inl ()) (by
      intro i hlt
      have hi : ((i : Nat) : Int) < ((List.length c : Nat) : Int) := by omega
      have e := idx_succ hlen hlt
      unfold l_sameParts_L1
      simp only [hi, show (0 : Int) ≤ ((i : Nat) : Int) from by omega, decide_true, if_true, Int.toNat_natCast, List.getElem?_eq_getElem hlt, Option.bind_some, e]
      simp) (by simp [l_sameParts_L1])
    simpa using this
  simp [this]

/-! ### written -/
def enc1 (p : Prt) : List Int := [kd p, p.1 + p.2.1 + p.2.2.length] ++ bytesOf p.2.2
def enc (c : List Prt) : List Int := c.flatMap enc1
theorem enc_len : ∀ c : List Prt, (enc c).length = 2 * c.length + psum c
  | [] => rfl
  | p :: c => by
    show (enc1 p ++ enc c).length = _
    rw [List.length_append, enc_len c]
    simp [enc1, bytesOf, psum]; omega
theorem part_small {c : List Prt} (hg : good c = true) {p : Prt} (hp : p ∈ c) : p.1 + p.2.1 + p.2.2.length ≤ 120 ∧ 0 ≤ p.1 + p.2.1 := by
  obtain ⟨h1, h2, h3⟩ := good_spec hg
  have hs := okk_some h1
  obtain ⟨i, hi, rfl⟩ := List.getElem_of_mem hp
  have n1 := src_nonneg (l := c.take i) fun p h => hs p (mem_take h)
  have n2 := tgt_nonneg (l := c.take i) fun p h => hs p (mem_take h)
  have n3 := src_nonneg (l := c.drop (i + 1)) fun p h => hs p (mem_drop h)
  have n4 := tgt_nonneg (l := c.drop (i + 1)) fun p h => hs p (mem_drop h)
  have a1 := src_at hi
  have a2 := tgt_at hi
  have q := hs _ hp
  rcases kd_cases q.ne with ⟨a, ha, e, _⟩ | ⟨b, hb, e, _⟩ | ⟨s, _, e, _⟩ <;> (rw [e] at a1 a2 ⊢; simp only [List.length_nil] at a1 a2 ⊢; omega)
theorem kd_u8 (p : Prt) : IntKind.wrap .u8 (kd p) = kd p := by
  apply wu8 <;> (unfold kd; split; omega; split; omega; split <;> omega)

section
variable {B : Nat} {c : List Prt} (h : Sm B c) (hB : B ≤ 1099511627776) (hg : good c = true)
include h hB hg
theorem write_round {i : Nat} (hlt : i < c.length) : enc (c.take i) ++ [IntKind.wrap .u8 (kd c[i]), IntKind.wrap .u8 (IntKind.wrap .i64 ((IntKind.wrap .i64 (c[i].1 + c[i].2.1)) + ((List.length c[i].2.2 : Nat) : Int)))] ++ bytesOf c[i].2.2 = enc (c.take (i + 1)) ∧
    (enc (c.take i)).length + 2 + (bytesOf c[i].2.2).length ≤ 4398046511104 := by
  obtain ⟨h1, h2⟩ := part_small hg (List.getElem_mem hlt)
  rw [w64 (n := c[i].1 + c[i].2.1) (by omega) (by omega), w64 (by omega) (by omega), kd_u8, wu8 (by omega) (by omega)]
  constructor
  · rw [List.take_succ_eq_append_getElem hlt]
    simp only [enc, List.flatMap_append, List.flatMap_cons, List.flatMap_nil, List.append_nil, enc1, List.append_assoc]
  · rw [enc_len]
    have h3 : psum c = psum (c.take i) + psum (c.drop i) := by rw [← psum_append, List.take_append_drop]
    have := h.len; have := h.put
    have : (bytesOf c[i].2.2).length = c[i].2.2.length := by simp [bytesOf]
    rw [List.length_take]
    omega
theorem i_write_eq : i_writeChange c = some (enc c) := by
  have hlen := Nat.le_trans h.len hB
  unfold i_writeChange
  have : loopG i_writeChange_L1 ([], c, ((List.length c : Nat) : Int), 0) = some (enc c) := by
    have := loop_run i_writeChange_L1 (fun k => (enc (c.take k), c, ((List.length c : Nat) : Int), ((k : Nat) : Int))) c.length (enc c) (by
      intro i hlt
      obtain ⟨e1, e2⟩ := write_round h hB hg hlt
      have hi : ((i : Nat) : Int) < ((List.length c : Nat) : Int) := by omega
      have r1 : ∀ x y : Int, roomFor (List.length (enc (c.take i)) + List.length [x, y]) 1 = true := fun x y => by simp [roomFor]; omega
      have r2 : ∀ x y : Int, roomFor (List.length (enc (c.take i) ++ [x, y]) + List.length (bytesOf c[i].2.2)) 1 = true := fun x y => by simp [roomFor]; omega
      unfold i_writeChange_L1
      simp only [hi, show (0 : Int) ≤ ((i : Nat) : Int) from by omega, decide_true, if_true, Int.toNat_natCast, List.getElem?_eq_getElem hlt, Option.bind_some, i_kind_eq, r1, r2, idx_succ hlen hlt]
      rw [show kd (c[i].1, c[i].2.1, c[i].2.2) = kd c[i] from rfl, e1]) (by simp [i_writeChange_L1])
    simpa [enc] using this
  rw [this]; rfl
theorem s_write_eq : s_l1Write c = some (enc c) := by
  have hlen := Nat.le_trans h.len hB
  unfold s_l1Write
  have : loopG s_l1Write_L1 ([], c, ((List.length c : Nat) : Int), 0) = some (enc c) := by
    have := loop_run s_l1Write_L1 (fun k => (enc (c.take k), c, ((List.length c : Nat) : Int), ((k : Nat) : Int))) c.length (enc c) (by
      intro i hlt
      obtain ⟨e1, e2⟩ := write_round h hB hg hlt
      have hi : ((i : Nat) : Int) < ((List.length c : Nat) : Int) := by omega
      have r1 : ∀ x y : Int, roomFor (List.length (enc (c.take i)) + List.length [x, y]) 1 = true := fun x y => by simp [roomFor]; omega
      have r2 : ∀ x y : Int, roomFor (List.length (enc (c.take i) ++ [x, y]) + List.length (bytesOf c[i].2.2)) 1 = true := fun x y => by simp [roomFor]; omega
      unfold s_l1Write_L1
      simp only [hi, show (0 : Int) ≤ ((i : Nat) : Int) from by omega, decide_true, if_true, Int.toNat_natCast, List.getElem?_eq_getElem hlt, Option.bind_some, s_kind_eq, r1, r2, idx_succ hlen hlt]
      rw [show kd (c[i].1, c[i].2.1, c[i].2.2) = kd c[i] from rfl, e1]) (by simp [s_l1Write_L1])
    simpa [enc] using this
  rw [this]; rfl
end
theorem i_WriteChange_eq {B : Nat} {c : List Prt} (h : Sm B c) (hB : B ≤ 1099511627776) : i_WriteChange c = some (if good c = true then (enc c, true) else ([], false)) := by
  unfold i_WriteChange
  rw [i_Good_eq h hB, Option.bind_some]
  cases hg : good c with
  | false => rfl
  | true => rw [i_write_eq h hB hg]; rfl
theorem s_WriteChange_eq {B : Nat} {c : List Prt} (h : Sm B c) (hB : B ≤ 1099511627776) : s_WriteChange c = some (if good c = true then (enc c, true) else ([], false)) := by
  unfold s_WriteChange
  rw [s_Good_eq h hB, Option.bind_some]
  cases hg : good c with
  | false => rfl
  | true => rw [s_write_eq h hB hg]; rfl

/-! ### read again -/
theorem text_bytes (s : List UInt8) : textOf (bytesOf s) = s := by
  unfold textOf bytesOf
  rw [List.map_map]
  conv => rhs; rw [← List.map_id s]
  apply List.map_congr_left
  intro b _
  show UInt8.ofNat (Int.toNat ((b.toNat : Nat) : Int)) = b
  rw [Int.toNat_natCast]
  exact UInt8.ofNat_toNat
theorem tail2 (x y : Int) (r : List Int) : (List.drop (Int.toNat 2) (x :: y :: r)).take (Int.toNat ((List.length (x :: y :: r) : Nat) : Int) - Int.toNat 2) = r := by
  simp only [Int.toNat_natCast, show Int.toNat 2 = 2 from rfl, List.length_cons, List.drop_succ_cons, List.drop_zero]
  exact List.take_of_length_le (by omega)
theorem read_round {out rest : List Int} {p : Prt} {l : List Prt} (hp : kd p ≠ 0) (hsm : p.1 + p.2.1 + p.2.2.length ≤ 120) (hl : l.length ≤ 1099511627776) : i_ReadChange_L1 (enc1 p ++ rest, l) = some (.inl (rest, l ++ [p])) := by
  have room : ∀ x : Prt, roomFor (List.length l + List.length [x]) 32 = true := fun x => by simp [roomFor]; omega
  rcases kd_cases hp with ⟨a, ha, rfl, hk⟩ | ⟨b, hb, rfl, hk⟩ | ⟨s, hs, rfl, hk⟩
  · have e : enc1 (a, 0, []) ++ rest = 1 :: a :: rest := by simp [enc1, hk, bytesOf]
    have w : IntKind.wrap .i64 a = a := by simp only [List.length_nil] at hsm; exact w64 (by omega) (by omega)
    rw [e]
    unfold i_ReadChange_L1
    dsimp only
    rw [tail2]
    have hl2 : ¬ (((List.length (1 :: a :: rest) : Nat) : Int)) < 2 := by simp; omega
    have hl0 : (0 : Int) < (((List.length (1 :: a :: rest) : Nat) : Int)) := by simp; omega
    have hl3 : (2 : Int) ≤ (((List.length (1 :: a :: rest) : Nat) : Int)) := by simp; omega
    have g0 : (1 :: a :: rest)[Int.toNat 0]? = some 1 := rfl
    have g1 : (1 :: a :: rest)[Int.toNat 1]? = some a := rfl
    simp only [hl0, hl2, hl3, g0, g1, decide_true, decide_false, if_true, Bool.false_eq_true, if_false, Option.bind_some, Int.le_refl, show (0 : Int) ≤ 1 from by omega, show (0 : Int) ≤ 2 from by omega, w, room]
  · have e : enc1 (0, b, []) ++ rest = 2 :: b :: rest := by simp [enc1, hk, bytesOf]
    have w : IntKind.wrap .i64 b = b := by simp only [List.length_nil] at hsm; exact w64 (by omega) (by omega)
    rw [e]
    unfold i_ReadChange_L1
    dsimp only
    rw [tail2]
    have hl2 : ¬ (((List.length (2 :: b :: rest) : Nat) : Int)) < 2 := by simp; omega
    have hl0 : (0 : Int) < (((List.length (2 :: b :: rest) : Nat) : Int)) := by simp; omega
    have hl3 : (2 : Int) ≤ (((List.length (2 :: b :: rest) : Nat) : Int)) := by simp; omega
    have g0 : (2 :: b :: rest)[Int.toNat 0]? = some 2 := rfl
    have g1 : (2 :: b :: rest)[Int.toNat 1]? = some b := rfl
    simp only [hl0, hl2, hl3, g0, g1, decide_true, decide_false, if_true, Bool.false_eq_true, if_false, Option.bind_some, Int.le_refl, show (0 : Int) ≤ 1 from by omega, show (0 : Int) ≤ 2 from by omega, show ¬ (2 : Int) = 1 from by omega, w, room]
  · have hn : (bytesOf s).length = s.length := by simp [bytesOf]
    have e : enc1 (0, 0, s) ++ rest = 3 :: ((s.length : Nat) : Int) :: (bytesOf s ++ rest) := by simp [enc1, hk]
    have w : IntKind.wrap .i64 ((s.length : Nat) : Int) = ((s.length : Nat) : Int) := by dsimp only at hsm; exact w64 (by omega) (by omega)
    rw [e]
    unfold i_ReadChange_L1
    dsimp only
    rw [tail2]
    have hl2 : ¬ (((List.length (3 :: ((s.length : Nat) : Int) :: (bytesOf s ++ rest)) : Nat) : Int)) < 2 := by simp; omega
    have hl0 : (0 : Int) < (((List.length (3 :: ((s.length : Nat) : Int) :: (bytesOf s ++ rest)) : Nat) : Int)) := by simp; omega
    have hl3 : (2 : Int) ≤ (((List.length (3 :: ((s.length : Nat) : Int) :: (bytesOf s ++ rest)) : Nat) : Int)) := by simp; omega
    have g0 : (3 :: ((s.length : Nat) : Int) :: (bytesOf s ++ rest))[Int.toNat 0]? = some 3 := rfl
    have g1 : (3 :: ((s.length : Nat) : Int) :: (bytesOf s ++ rest))[Int.toNat 1]? = some ((s.length : Nat) : Int) := rfl
    have hle : ((s.length : Nat) : Int) ≤ ((List.length (bytesOf s ++ rest) : Nat) : Int) := by rw [List.length_append, hn]; omega
    have hge : (0 : Int) ≤ ((s.length : Nat) : Int) := by omega
    have tk : (List.drop (Int.toNat 0) (bytesOf s ++ rest)).take (Int.toNat ((s.length : Nat) : Int) - Int.toNat 0) = bytesOf s := by
      show (bytesOf s ++ rest).take (Int.toNat ((s.length : Nat) : Int) - 0) = _
      rw [Nat.sub_zero, Int.toNat_natCast, ← hn, List.take_left]
    have dr : (List.drop (Int.toNat ((s.length : Nat) : Int)) (bytesOf s ++ rest)).take (Int.toNat ((List.length (bytesOf s ++ rest) : Nat) : Int) - Int.toNat ((s.length : Nat) : Int)) = rest := by
      rw [Int.toNat_natCast, Int.toNat_natCast, ← hn, List.drop_left]
      exact List.take_of_length_le (by rw [List.length_append]; omega)
    simp only [hl0, hl2, hl3, g0, g1, decide_true, decide_false, if_true, Bool.false_eq_true, if_false, Option.bind_some, Int.le_refl, show (0 : Int) ≤ 1 from by omega, show (0 : Int) ≤ 2 from by omega, show ¬ (3 : Int) = 1 from by omega, show ¬ (3 : Int) = 2 from by omega, w, hle, hge, tk, dr, text_bytes, room]
theorem read_enc {B : Nat} {c : List Prt} (h : Sm B c) (hB : B ≤ 1099511627776) (hg : good c = true) : i_ReadChange (enc c) = some (c, true) := by
  have hlen := Nat.le_trans h.len hB
  obtain ⟨h1, h2, h3⟩ := good_spec hg
  have hs := okk_some h1
  unfold i_ReadChange
  have : loopG i_ReadChange_L1 (enc c, []) = some (.inl c) := by
    have := loop_run i_ReadChange_L1 (fun k => (enc (c.drop k), c.take k)) c.length (.inl c) (by
      intro i hlt
      have e : enc (c.drop i) = enc1 c[i] ++ enc (c.drop (i + 1)) := by rw [List.drop_eq_getElem_cons hlt]; rfl
      have hm := List.getElem_mem hlt
      show i_ReadChange_L1 (enc (c.drop i), c.take i) = _
      rw [e, read_round (out := []) (hs _ hm).ne (part_small hg hm).1 (by rw [List.length_take]; omega), List.take_succ_eq_append_getElem hlt]) (by
      show i_ReadChange_L1 (enc (c.drop c.length), c.take c.length) = _
      rw [List.drop_length, List.take_length]; rfl)
    simpa using this
  rw [this, Option.bind_some]
  show Option.bind (i_GoodChange c) _ = _
  rw [i_Good_eq h hB, hg]; rfl

/-! ### parts made normal -/
def badp (p : Prt) : Bool := decide (p ≠ (0, 0, []) ∧ kd p = 0 ∨ 120 < p.1 ∨ 120 < p.2.1)
def norm (l : List Prt) : List Prt := l.foldl addp []
def normOf (l : List Prt) : List Prt × Bool := if 500 < l.length ∨ l.any badp = true then ([], false) else if good (norm l) = true then (norm l, true) else ([], false)
theorem norm_take {l : List Prt} {i : Nat} (h : i < l.length) : norm (l.take (i + 1)) = addp (norm (l.take i)) l[i] := by
  rw [List.take_succ_eq_append_getElem h, norm, List.foldl_append]; rfl
theorem norm_sm {B : Nat} {l : List Prt} (h : Sm B l) : ∀ i, i ≤ l.length → Sm (i * (B + 1)) (norm (l.take i))
  | 0, _ => by simp [norm, Sm.nil]
  | i + 1, hi => by
    have ih := norm_sm h i (by omega)
    rw [norm_take (by omega)]
    have hm := List.getElem_mem (show i < l.length by omega)
    have := psum_mem hm
    have := h.put
    exact addp_sm ih (h.fit _ hm) (by rw [Nat.succ_mul]; omega) (by rw [Nat.succ_mul]; omega)
theorem i_add_eq {B : Nat} {l : List Prt} (h : Sm B l) (hB : B ≤ 1099511627776) (a b : Int) (s : List UInt8) (hs : s.length ≤ 1099511627776) : i_builder_add_o a b s l = some (addp l (a, b, s)) := by
  unfold i_builder_add_o addp
  by_cases h0 : ((a, b, s) : Prt) = (0, 0, [])
  · obtain ⟨rfl, rfl, rfl⟩ : a = 0 ∧ b = 0 ∧ s = [] := by simpa using h0
    simp
  · rw [if_neg h0, if_neg (by simpa using h0)]
    have hroom : ∀ x : Prt, roomFor (l.length + [x].length) 32 = true := fun x => by
      have := h.len
      simp [roomFor]; omega
    cases hg : l.getLast? with
    | none =>
      obtain rfl : l = [] := by simpa using hg
      simp [roomFor]
    | some q =>
      obtain ⟨n, hn, hq, hset⟩ := len_last hg
      have hqs : q.2.2.length ≤ B := Nat.le_trans (psum_mem (List.mem_of_getElem? hq)) h.put
      have e1 : IntKind.wrap .i64 (((l.length : Nat) : Int) - 1) = ((n : Nat) : Int) := by rw [hn, w64 (by omega) (by have := h.len; omega)]; omega
      have hpos : (0 : Int) < ((l.length : Nat) : Int) := by omega
      have hlt : ((n : Nat) : Int) < ((l.length : Nat) : Int) := by omega
      have hge : (0 : Int) ≤ ((n : Nat) : Int) := by omega
      have hst : ∀ x : Prt, (l.set n x)[n]? = some x := fun x => List.getElem?_set_self (by omega)
      simp only [e1, hpos, hlt, hge, decide_true, if_true, Int.toNat_natCast, Nat.zero_add, hq, Option.bind_some, i_kind_eq]
      by_cases hk : kd q = kd (a, b, s)
      · have hk' : (kd (q.1, q.2.1, q.2.2) = kd (a, b, s)) := hk
        have hlen : q.2.2.length + s.length ≤ 9223372036854775807 := by omega
        simp only [hk', hk, decide_true, if_true, e1, hlt, hge, Int.toNat_natCast, hq, Option.bind_some, hst, List.set_set, hlen]
        rw [hset]
      · have hk' : ¬ (kd (q.1, q.2.1, q.2.2) = kd (a, b, s)) := hk
        simp only [hk', hk, decide_false, if_false, Bool.false_eq_true, hroom, if_true, Option.bind_some]

theorem zero_dec (p : Prt) : (decide ((p.1 : Int) = 0) && (decide ((p.2.1 : Int) = 0) && (((p.2.2 : List UInt8) == []) && true))) = decide (p = (0, 0, [])) := by
  obtain ⟨a, b, s⟩ := p
  by_cases h1 : a = 0 <;> by_cases h2 : b = 0 <;> by_cases h3 : s = [] <;> simp [h1, h2, h3]

theorem i_normal_loop {B : Nat} {l : List Prt} (h : Sm B l) (hB : B ≤ 10000) : Ok (loopG i_NormalOf_L1 (l, ((List.length l : Nat) : Int), 0, [])) fun r => match r with
    | .inl y => l.any badp = false ∧ y = norm l
    | .inr b => l.any badp = true ∧ b = false := by
  have hlen : l.length ≤ 1099511627776 := by have := h.len; omega
  refine Ok.loop (fun y => y.1 = l ∧ y.2.1 = ((List.length l : Nat) : Int) ∧ ∃ i : Nat, y.2.2.1 = ((i : Nat) : Int) ∧ i ≤ l.length ∧ (l.take i).any badp = false ∧ y.2.2.2 = norm (l.take i)) (fun y => (((List.length l : Nat) : Int) - y.2.2.1).toNat)
    ⟨rfl, rfl, 0, rfl, Nat.zero_le _, by simp, by simp [norm]⟩ ?_
  rintro ⟨l', n, i', o⟩ ⟨e1, e2, i, e3, hi, hany, e4⟩
  dsimp only at e1 e2 e3 e4
  subst e1 e2 e3 e4
  unfold i_NormalOf_L1
  dsimp only
  refine Ok.ite (fun hc => ?_) fun hc => ?_
  · have hlt : i < l'.length := by simpa using hc
    have hm := List.getElem_mem hlt
    refine Ok.yes (by simp) (Ok.bind_eq (r := l'[i]) (by simp [List.getElem?_eq_getElem hlt]) ?_)
    rw [zero_dec]
    refine Ok.bind (Q := fun v => v = (l', ((List.length l' : Nat) : Int), ((i : Nat) : Int), badp l'[i], norm (l'.take i), l'[i].1, l'[i].2.1, l'[i].2.2)) ?_ ?_
    · by_cases h0 : l'[i] = (0, 0, [])
      · refine Ok.no (by simp [h0]) ?_
        refine Ok.no (by simp [h0]) (Ok.mk ?_)
        simp [badp, h0]
      · refine Ok.yes (by simp [h0]) (Ok.bind_eq (i_kind_eq _ _ _) ?_)
        have e : kd (l'[i].1, l'[i].2.1, l'[i].2.2) = kd l'[i] := rfl
        rw [e]
        by_cases hk : kd l'[i] = 0
        · exact Ok.yes (by simp [hk]) (Ok.mk (by simp [badp, hk, h0]))
        · refine Ok.no (by simp [hk]) (Ok.ite (fun hq => Ok.mk ?_) fun hq => Ok.mk ?_)
          · have : 120 < l'[i].1 := by simpa using hq
            simp [badp, this]
          · have : ¬ 120 < l'[i].1 := by simpa using hq
            simp [badp, this, hk]
    rintro _ rfl
    dsimp only
    cases hb : badp l'[i] with
    | true =>
      refine Ok.yes rfl (Ok.mk ⟨?_, rfl⟩)
      exact List.any_eq_true.2 ⟨_, hm, hb⟩
    | false =>
      refine Ok.no (by simp) ?_
      have sm := norm_sm h i hi
      have hbb : i * (B + 1) ≤ 10000 * 10001 := Nat.mul_le_mul (by have := h.len; omega) (by omega)
      have := psum_mem hm
      have := h.put
      refine Ok.bind_eq (i_add_eq sm (by omega) _ _ _ (by omega)) (Ok.mk ⟨⟨rfl, rfl, i + 1, idx_succ hlen hlt, by omega, ?_, ?_⟩, ?_⟩)
      · rw [List.take_succ_eq_append_getElem hlt, List.any_append, hany]; simp [hb]
      · rw [norm_take hlt]
      · rw [idx_succ hlen hlt]; dsimp only; omega
  · have : i = l'.length := by
      have : ¬ ((i : Int) < ((List.length l' : Nat) : Int)) := by simpa using hc
      omega
    subst this
    rw [List.take_length] at hany ⊢
    exact Ok.mk ⟨hany, rfl⟩
theorem s_normal_loop {B : Nat} {l : List Prt} (h : Sm B l) (hB : B ≤ 10000) : Ok (loopG s_NormalOf_L1 ([], l, ((List.length l : Nat) : Int), 0)) fun r => match r with
    | .inl y => l.any badp = false ∧ y = norm l
    | .inr b => l.any badp = true ∧ b = false := by
  have hlen : l.length ≤ 1099511627776 := by have := h.len; omega
  refine Ok.loop (fun y => y.2.1 = l ∧ y.2.2.1 = ((List.length l : Nat) : Int) ∧ ∃ i : Nat, y.2.2.2 = ((i : Nat) : Int) ∧ i ≤ l.length ∧ (l.take i).any badp = false ∧ y.1 = norm (l.take i)) (fun y => (((List.length l : Nat) : Int) - y.2.2.2).toNat)
    ⟨rfl, rfl, 0, rfl, Nat.zero_le _, by simp, by simp [norm]⟩ ?_
  rintro ⟨o, l', n, i'⟩ ⟨e1, e2, i, e3, hi, hany, e4⟩
  dsimp only at e1 e2 e3 e4
  subst e1 e2 e3 e4
  unfold s_NormalOf_L1
  dsimp only
  refine Ok.ite (fun hc => ?_) fun hc => ?_
  · have hlt : i < l'.length := by simpa using hc
    have hm := List.getElem_mem hlt
    refine Ok.yes (by simp) (Ok.bind_eq (r := l'[i]) (by simp [List.getElem?_eq_getElem hlt]) ?_)
    refine Ok.bind (Q := fun v => v = (norm (l'.take i), l', ((List.length l' : Nat) : Int), ((i : Nat) : Int), badp l'[i], l'[i].1, l'[i].2.1, l'[i].2.2)) ?_ ?_
    · refine Ok.bind_eq (s_In_eq _ _ _) ?_
      by_cases hk : kd l'[i] = 0
      · by_cases h0 : l'[i] = (0, 0, [])
        · refine Ok.no (by simp [h0]) (Ok.bind_eq (s_In_eq _ _ _) (Ok.no (by simp [h0]) (Ok.bind_eq (s_kind_eq _ _ _) (Ok.yes ?_ (Ok.mk ?_)))))
          · show decide (kd l'[i] = 0) = true; simpa using hk
          · rw [zero_dec]; simp [badp, h0, hk]
        · have hb : badp l'[i] = true := by simp [badp, h0, hk]
          rw [hb]
          refine Ok.ite (fun _ => Ok.mk rfl) fun _ => Ok.bind_eq (s_In_eq _ _ _) (Ok.ite (fun _ => Ok.mk rfl) fun _ => Ok.bind_eq (s_kind_eq _ _ _) (Ok.yes ?_ (Ok.mk ?_)))
          · show decide (kd l'[i] = 0) = true; simpa using hk
          · rw [zero_dec]; simp [h0]
      · have s1 := some1_of hk
        have k0 := s1.k; have d0 := s1.d
        by_cases hq1 : 120 < l'[i].1
        · refine Ok.yes (by simp; omega) (Ok.mk (by simp [badp, hq1]))
        · refine Ok.no (by simp; omega) (Ok.bind_eq (s_In_eq _ _ _) ?_)
          by_cases hq2 : 120 < l'[i].2.1
          · refine Ok.yes (by simp; omega) (Ok.mk (by simp [badp, hq2]))
          · refine Ok.no (by simp; omega) (Ok.bind_eq (s_kind_eq _ _ _) (Ok.no ?_ (Ok.mk (by simp [badp, hq1, hq2, hk]))))
            show ¬ decide (kd l'[i] = 0) = true; simpa using hk
    rintro _ rfl
    dsimp only
    cases hb : badp l'[i] with
    | true =>
      refine Ok.yes rfl (Ok.mk ⟨?_, rfl⟩)
      exact List.any_eq_true.2 ⟨_, hm, hb⟩
    | false =>
      refine Ok.no (by simp) ?_
      have sm := norm_sm h i hi
      have hbb : i * (B + 1) ≤ 10000 * 10001 := Nat.mul_le_mul (by have := h.len; omega) (by omega)
      have := psum_mem hm
      have := h.put
      refine Ok.bind_eq (s_l1Add_eq sm (by omega) _ _ _ (by omega)) (Ok.mk ⟨⟨rfl, rfl, i + 1, idx_succ hlen hlt, by omega, ?_, ?_⟩, ?_⟩)
      · rw [List.take_succ_eq_append_getElem hlt, List.any_append, hany]; simp [hb]
      · rw [norm_take hlt]
      · rw [idx_succ hlen hlt]; dsimp only; omega
  · have : i = l'.length := by
      have : ¬ ((i : Int) < ((List.length l' : Nat) : Int)) := by simpa using hc
      omega
    subst this
    rw [List.take_length] at hany ⊢
    exact Ok.mk ⟨hany, rfl⟩
theorem norm_sm_all {B : Nat} {l : List Prt} (h : Sm B l) (hB : B ≤ 10000) : Sm 100010000 (norm l) := by
  have := norm_sm h l.length (Nat.le_refl _)
  rw [List.take_length] at this
  have hbb : l.length * (B + 1) ≤ 10000 * 10001 := Nat.mul_le_mul (by have := h.len; omega) (by omega)
  exact this.mono (by omega)
theorem i_NormalOf_eq {B : Nat} {l : List Prt} (h : Sm B l) (hB : B ≤ 10000) : i_NormalOf l = some (normOf l) := by
  unfold i_NormalOf normOf
  by_cases h5 : 500 < l.length
  · have : (500 : Int) < ((l.length : Nat) : Int) := by omega
    simp [h5, this]
  · have h5' : ¬ (500 : Int) < ((l.length : Nat) : Int) := by omega
    simp only [h5', decide_false, Bool.false_eq_true, if_false, h5, false_or]
    refine Ok.eq ((i_normal_loop h hB).bind ?_)
    rintro (y | b) ⟨h1, rfl⟩
    · refine Ok.bind_eq (i_Good_eq (norm_sm_all h hB) (by omega)) ?_
      rw [h1]
      cases hg : good (norm l) <;> exact Ok.mk rfl
    · rw [h1]; exact Ok.mk rfl
theorem s_NormalOf_eq {B : Nat} {l : List Prt} (h : Sm B l) (hB : B ≤ 10000) : s_NormalOf l = some (normOf l) := by
  unfold s_NormalOf normOf
  by_cases h5 : 500 < l.length
  · have : (500 : Int) < ((l.length : Nat) : Int) := by omega
    simp [h5, this]
  · have h5' : ¬ (500 : Int) < ((l.length : Nat) : Int) := by omega
    simp only [h5', decide_false, Bool.false_eq_true, if_false, h5, false_or]
    refine Ok.eq ((s_normal_loop h hB).bind ?_)
    rintro (y | b) ⟨h1, rfl⟩
    · refine Ok.bind_eq (s_Good_eq (norm_sm_all h hB) (by omega)) ?_
      rw [h1]
      cases hg : good (norm l) <;> exact Ok.mk rfl
    · rw [h1]; exact Ok.mk rfl

/-! ### what is good is normal -/
theorem kd_zero : kd (0, 0, []) = 0 := by simp [kd]
theorem addp_okk {k : Int} {l : List Prt} {p : Prt} (hp : kd p ≠ 0) (hl : l = [] ∨ ∃ q, l.getLast? = some q ∧ kd q ≠ kd p) : addp l p = l ++ [p] := by
  have h0 : p ≠ (0, 0, []) := fun h => hp (by rw [h]; exact kd_zero)
  unfold addp
  rw [if_neg h0]
  rcases hl with rfl | ⟨q, hq, hk⟩
  · rfl
  · rw [hq]; simp only; rw [if_neg hk]
theorem fold_okk : ∀ (c acc : List Prt) (k : Int), (acc = [] ∨ ∃ q, acc.getLast? = some q ∧ kd q = k) → okk k c = true → c.foldl addp acc = acc ++ c
  | [], acc, _, _, _ => by simp
  | p :: c, acc, k, ha, h => by
    simp only [okk, Bool.and_eq_true, Bool.not_eq_true', decide_eq_false_iff_not] at h
    obtain ⟨⟨h1, h2⟩, h3⟩ := h
    rw [List.foldl_cons, addp_okk (k := k) h1 (ha.imp id fun ⟨q, hq, hk⟩ => ⟨q, hq, fun e => h2 (by rw [← e, hk])⟩), fold_okk c (acc ++ [p]) (kd p) (.inr ⟨p, by simp, rfl⟩) h3]
    simp
theorem norm_good {c : List Prt} (h : good c = true) : norm c = c := by
  have := fold_okk c [] 0 (.inl rfl) (good_spec h).1
  simpa [norm] using this
theorem good_len : ∀ {c : List Prt}, (∀ p ∈ c, Some1 p) → ((c.length : Nat) : Int) ≤ src c + tgt c
  | [], _ => by simp [src, tgt]
  | p :: c, h => by
    have ih := good_len (c := c) fun q hq => h q (by simp [hq])
    have s := h p (by simp)
    have k0 := s.k; have d0 := s.d
    simp only [src, tgt, List.length_cons]
    rcases kd_cases s.ne with ⟨a, ha, e, _⟩ | ⟨b, hb, e, _⟩ | ⟨t, ht, e, _⟩
    · rw [e]; simp only; omega
    · rw [e]; simp only; omega
    · rw [e]; simp only
      have := List.length_pos_iff.2 ht
      omega
theorem good_psum : ∀ {c : List Prt}, (∀ p ∈ c, Some1 p) → ((psum c : Nat) : Int) ≤ tgt c
  | [], _ => by simp [psum, tgt]
  | p :: c, h => by
    have ih := good_psum (c := c) fun q hq => h q (by simp [hq])
    have k0 := (h p (by simp)).k
    simp only [psum, tgt]; omega
theorem good_sm {c : List Prt} (h : good c = true) : Sm 240 c := by
  obtain ⟨h1, h2, h3⟩ := good_spec h
  have hs := okk_some h1
  have := good_len hs
  have := good_psum hs
  refine ⟨by omega, by omega, fun p hp => ?_⟩
  have := part_small h hp
  have k0 := (hs p hp).k; have d0 := (hs p hp).d
  unfold I64
  omega
theorem normOf_good {c : List Prt} (h : good c = true) : normOf c = (c, true) := by
  have sm := (good_sm h).len
  have hs := okk_some (good_spec h).1
  have hb : c.any badp = false := by
    rw [List.any_eq_false]
    intro p hp
    have := part_small h hp
    have k0 := (hs p hp).k; have d0 := (hs p hp).d
    have := (hs p hp).ne
    simp [badp, this]
    omega
  have h5 : ¬ 500 < c.length := by omega
  simp [normOf, hb, h5, norm_good h, h]
end Go.V.G
