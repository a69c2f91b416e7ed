/-
  P6: places across a change; the pure law of FnImages.
-/
import Derived.Test.YtdicgiljgelkfaaP5
import Derived.Test.YtdicgiljgelkfaaS25
set_option linter.unusedVariables false
set_option linter.unusedSimpArgs false
set_option maxRecDepth 100000
namespace Go.V.G
open Go.V

def pre (P : List (List UInt8)) (S : List Bool) : Nat → Int
  | 0 => 0
  | k + 1 => pre P S k + (((P.getD k []).length : Nat) : Int) + (if S.getD k false = true then 1 else 0)
theorem pre_shift (p : List UInt8) (P : List (List UInt8)) (s : Bool) (S : List Bool) : ∀ k, pre (p :: P) (s :: S) (k + 1) = ((p.length : Nat) : Int) + (if s = true then 1 else 0) + pre P S k
  | 0 => by simp [pre]
  | k + 1 => by
    show pre (p :: P) (s :: S) (k + 1) + _ + _ = _
    rw [pre_shift p P s S k]
    simp only [List.getD_cons_succ, pre]
    omega
theorem pre_head (b : UInt8) (p : List UInt8) (P : List (List UInt8)) (S : List Bool) : ∀ k, pre ((b :: p) :: P) S (k + 1) = 1 + pre (p :: P) S (k + 1)
  | 0 => by simp [pre]; omega
  | k + 1 => by
    show pre ((b :: p) :: P) S (k + 1) + _ + _ = 1 + (pre (p :: P) S (k + 1) + _ + _)
    rw [pre_head b p P S k]
    simp only [List.getD_cons_succ]
    omega
theorem pre_nonneg (P : List (List UInt8)) (S : List Bool) : ∀ k, 0 ≤ pre P S k
  | 0 => Int.le_refl _
  | k + 1 => by
    have := pre_nonneg P S k
    simp only [pre]
    split <;> omega
def nK : List Atom → Nat
  | [] => 0
  | .keep :: l => nK l + 1
  | .ins _ :: l => nK l
  | .drop :: l => nK l
theorem nK_append : ∀ a b : List Atom, nK (a ++ b) = nK a + nK b
  | [], b => by simp [nK]
  | .keep :: a, b => by simp only [List.cons_append, nK, nK_append a b]; omega
  | .ins _ :: a, b => nK_append a b
  | .drop :: a, b => nK_append a b
theorem nK_map : ∀ s : List UInt8, nK (s.map Atom.ins) = 0
  | [] => rfl
  | _ :: s => nK_map s
theorem nK_rep (f : Bool) : ∀ m : Nat, nK (List.replicate m (mk f)) = if f = true then m else 0
  | 0 => by cases f <;> rfl
  | m + 1 => by
    have := nK_rep f m
    rw [List.replicate_succ]
    cases f
    · exact this
    · simp only [if_true] at this ⊢
      show nK (.keep :: _) = _
      simp only [nK]
      rw [this]
theorem Some1.z {p : Prt} (h : Some1 p) : 0 < p.1 → p.2.1 = 0 := by
  intro h0
  have := h.ne
  unfold kd at this
  split at this
  · rename_i h; exact h.2.1
  · split at this
    · rename_i h; omega
    · split at this
      · rename_i h; omega
      · exact absurd rfl this
theorem tgt_atoms : ∀ {c : List Prt}, (∀ p ∈ c, Some1 p) → tgt c = ((nIns (atoms c) + nK (atoms c) : Nat) : Int)
  | [], _ => rfl
  | p :: c, h => by
    have ih := tgt_atoms (c := c) fun q hq => h q (by simp [hq])
    have h1 := h p (by simp)
    have k0 := h1.k; have d0 := h1.d; have z := h1.z
    show p.1 + ((p.2.2.length : Nat) : Int) + tgt c = ((nIns (pa p ++ atoms c) + nK (pa p ++ atoms c) : Nat) : Int)
    have e : nK (pa p) = p.1.toNat := by
      rw [pa, nK_append, nK_map, nK_rep, Nat.zero_add]
      by_cases h0 : 0 < p.1
      · simp [h0, z h0]
      · simp [h0]; omega
    rw [nIns_append, nIns_pa, nK_append, e]
    omega
theorem img_le : ∀ (l : List Atom) (k : Nat), k ≤ (stays l).length → pre (puts l) (stays l) k + ((((puts l).getD k []).length : Nat) : Int) ≤ ((nIns l + nK l : Nat) : Int)
  | [], k, h => by
    obtain rfl : k = 0 := by simpa [stays] using h
    simp [pre, puts, nIns, nK]
  | .ins b :: l, k, h => by
    have ih := img_le l k h
    simp only [puts, stays, nIns, nK]
    match hp : puts l, puts_ne l with
    | p :: P, _ =>
      rw [hp] at ih
      cases k with
      | zero => simp only [consHead, pre, List.getD_cons_zero, List.length_cons] at ih ⊢; omega
      | succ k => simp only [consHead, pre_head, List.getD_cons_succ] at ih ⊢; omega
  | .keep :: l, k, h => by
    cases k with
    | zero => simp only [puts, pre, List.getD_cons_zero, List.length_nil]; omega
    | succ k =>
      have ih := img_le l k (by simpa [stays] using h)
      simp only [puts, stays, nIns, nK, pre_shift, List.getD_cons_succ, List.length_nil, if_true] at ih ⊢; omega
  | .drop :: l, k, h => by
    cases k with
    | zero => simp only [puts, pre, List.getD_cons_zero, List.length_nil]; omega
    | succ k =>
      have ih := img_le l k (by simpa [stays] using h)
      simp only [puts, stays, nIns, nK, pre_shift, List.getD_cons_succ, List.length_nil, Bool.false_eq_true, if_false] at ih ⊢; omega

def imgAt (c : List Prt) (p : Int) (b : Bool) : Int := pre (puts (atoms c)) (stays (atoms c)) p.toNat + (if b = true then ((((puts (atoms c)).getD p.toNat []).length : Nat) : Int) else 0)
def imgOf (c : List Prt) (p : Int) (b : Bool) : Int := if good c = true ∧ 0 ≤ p ∧ p ≤ src c then imgAt c p b else -1

section
variable {B : Nat} {c : List Prt} (h : Sm B c) (hB : B ≤ 1099511627000)
include h hB
theorem i_ImageOf_eq (p : Int) (b : Bool) : i_ImageOf c p b = some (imgOf c p b) := by
  unfold i_ImageOf imgOf
  rw [i_LengthsOf_eq h (by omega), Option.bind_some]
  unfold lensOf
  cases hg : good c with
  | false => simp
  | true =>
    obtain ⟨h1, h2, h3⟩ := good_spec hg
    have hs := okk_some h1
    by_cases hp : 0 ≤ p ∧ p ≤ src c
    · obtain ⟨hp0, hp1⟩ := hp
      obtain ⟨q, rfl⟩ := Int.eq_ofNat_of_zero_le hp0
      have sl := stays_len hs
      have pl := puts_len (atoms c)
      have hq : q ≤ (stays (atoms c)).length := by omega
      have ta := tgt_atoms hs
      have key : loopG i_ImageOf_L1 (((q : Nat) : Int), b, 0, ((q : Nat) : Int), 0, stays (atoms c), puts (atoms c)) = some (((q : Nat) : Int), b, pre (puts (atoms c)) (stays (atoms c)) q, stays (atoms c), puts (atoms c)) := by
        have := loop_run i_ImageOf_L1 (fun k => (((q : Nat) : Int), b, pre (puts (atoms c)) (stays (atoms c)) k, ((q : Nat) : Int), ((k : Nat) : Int), stays (atoms c), puts (atoms c))) q
          (((q : Nat) : Int), b, pre (puts (atoms c)) (stays (atoms c)) q, stays (atoms c), puts (atoms c)) (by
            intro k hk
            have il := img_le (atoms c) (k + 1) (by omega)
            have pn := pre_nonneg (puts (atoms c)) (stays (atoms c)) k
            simp only [pre] at il
            have hkp : k < (puts (atoms c)).length := by omega
            have hks : k < (stays (atoms c)).length := by omega
            have e1 : (puts (atoms c)).getD k [] = (puts (atoms c))[k] := by simp [hkp]
            have e2 : (stays (atoms c)).getD k false = (stays (atoms c))[k] := by simp [hks]
            rw [e1, e2] at il
            have g1 : ((k : Nat) : Int) < ((q : Nat) : Int) := by omega
            have g2 : ((k : Nat) : Int) < ((List.length (puts (atoms c)) : Nat) : Int) := by omega
            have g3 : ((k : Nat) : Int) < ((List.length (stays (atoms c)) : Nat) : Int) := by omega
            have g0 : (0 : Int) ≤ ((k : Nat) : Int) := by omega
            have w1 : IntKind.wrap .i64 (pre (puts (atoms c)) (stays (atoms c)) k + (((puts (atoms c))[k].length : Nat) : Int)) = pre (puts (atoms c)) (stays (atoms c)) k + (((puts (atoms c))[k].length : Nat) : Int) := by
              apply w64 (by omega)
              split at il <;> omega
            have w2 : IntKind.wrap .i64 (((k : Nat) : Int) + 1) = ((k + 1 : Nat) : Int) := by rw [w64 (by omega) (by omega)]; omega
            have w2' : IntKind.wrap .i64 (((k : Nat) : Int) + 1) = ((k : Nat) : Int) + 1 := w64 (by omega) (by omega)
            unfold i_ImageOf_L1
            simp only [g0, g1, g2, g3, decide_true, if_true, Int.toNat_natCast, Nat.zero_add, List.getElem?_eq_getElem hkp, List.getElem?_eq_getElem hks, Option.bind_some, w1, w2, pre, e1, e2]
            cases hb : (stays (atoms c))[k] with
            | true =>
              rw [hb, if_pos rfl] at il
              have w3 : IntKind.wrap .i64 (pre (puts (atoms c)) (stays (atoms c)) k + (((puts (atoms c))[k].length : Nat) : Int) + 1) = pre (puts (atoms c)) (stays (atoms c)) k + (((puts (atoms c))[k].length : Nat) : Int) + 1 := w64 (by omega) (by omega)
              simp [w3, w2']
            | false => simp [w2']) (by simp [i_ImageOf_L1])
        simpa [pre] using this
      have e3 : i_tell c = _ := i_tell_eq h hB hs (by omega)
      have hqp : q < (puts (atoms c)).length := by omega
      have il := img_le (atoms c) q hq
      have e4 : (puts (atoms c)).getD q [] = (puts (atoms c))[q] := by simp [hqp]
      rw [e4] at il
      have pn := pre_nonneg (puts (atoms c)) (stays (atoms c)) q
      have w1 : IntKind.wrap .i64 (pre (puts (atoms c)) (stays (atoms c)) q + (((puts (atoms c))[q].length : Nat) : Int)) = pre (puts (atoms c)) (stays (atoms c)) q + (((puts (atoms c))[q].length : Nat) : Int) := w64 (by omega) (by omega)
      have hq2 : ((q : Nat) : Int) < ((List.length (puts (atoms c)) : Nat) : Int) := by omega
      have hq0 : (0 : Int) ≤ ((q : Nat) : Int) := by omega
      have e5 : decide ((0 : Int) ≤ ((q : Nat) : Int) ∧ ((q : Nat) : Int) ≤ src c) = true := by simp; omega
      have e6 : ((0 : Int) ≤ ((q : Nat) : Int) ∧ ((q : Nat) : Int) ≤ src c) := ⟨hq0, hp1⟩
      simp only [if_true, Bool.not_true, Bool.false_eq_true, if_false, i_within_eq, e5, Option.bind_some, e3, key, Int.ofNat_eq_natCast, hq0, hq2, decide_true, Int.toNat_natCast, Nat.zero_add, List.getElem?_eq_getElem hqp, w1, imgAt, e4]
      cases b <;> simp [hp1]
    · have e5 : decide ((0 : Int) ≤ p ∧ p ≤ src c) = false := by simpa using hp
      simp only [if_true, Bool.not_true, Bool.false_eq_true, if_false, i_within_eq, e5, Option.bind_some, Bool.not_false, true_and, if_neg hp]
theorem s_ImageOf_eq (p : Int) (b : Bool) : s_ImageOf c p b = some (imgOf c p b) := by
  unfold s_ImageOf imgOf
  rw [s_Good_eq h (by omega), Option.bind_some]
  cases hg : good c with
  | false => simp
  | true =>
    obtain ⟨h1, h2, h3⟩ := good_spec hg
    have hs := okk_some h1
    have e0 : s_l1Source c = _ := s_Source_eq h (by omega) hs (by omega)
    by_cases hp : 0 ≤ p ∧ p ≤ src c
    · obtain ⟨hp0, hp1⟩ := hp
      obtain ⟨q, rfl⟩ := Int.eq_ofNat_of_zero_le hp0
      have sl := stays_len hs
      have pl := puts_len (atoms c)
      have hq : q ≤ (stays (atoms c)).length := by omega
      have ta := tgt_atoms hs
      have hqp : q < (puts (atoms c)).length := by omega
      have il := img_le (atoms c) q hq
      have e4 : (puts (atoms c)).getD q [] = (puts (atoms c))[q] := by simp [hqp]
      rw [e4] at il
      have pn := pre_nonneg (puts (atoms c)) (stays (atoms c)) q
      have w1 : IntKind.wrap .i64 (pre (puts (atoms c)) (stays (atoms c)) q + (((puts (atoms c))[q].length : Nat) : Int)) = pre (puts (atoms c)) (stays (atoms c)) q + (((puts (atoms c))[q].length : Nat) : Int) := w64 (by omega) (by omega)
      have hq2 : ((q : Nat) : Int) < ((List.length (puts (atoms c)) : Nat) : Int) := by omega
      have hq0 : (0 : Int) ≤ ((q : Nat) : Int) := by omega
      have key : loopG s_l1Image_L1 (((q : Nat) : Int), b, 0, puts (atoms c), ((List.length (puts (atoms c)) : Nat) : Int), 0, stays (atoms c)) = some (imgAt c ((q : Nat) : Int) b) := by
        have := loop_run s_l1Image_L1 (fun k => (((q : Nat) : Int), b, pre (puts (atoms c)) (stays (atoms c)) k, puts (atoms c), ((List.length (puts (atoms c)) : Nat) : Int), ((k : Nat) : Int), stays (atoms c))) q
          (imgAt c ((q : Nat) : Int) b) (by
            intro k hk
            have il := img_le (atoms c) (k + 1) (by omega)
            have pn := pre_nonneg (puts (atoms c)) (stays (atoms c)) k
            simp only [pre] at il
            have hkp : k < (puts (atoms c)).length := by omega
            have hks : k < (stays (atoms c)).length := by omega
            have e1 : (puts (atoms c)).getD k [] = (puts (atoms c))[k] := by simp [hkp]
            have e2 : (stays (atoms c)).getD k false = (stays (atoms c))[k] := by simp [hks]
            rw [e1, e2] at il
            have g1 : ¬ ((k : Nat) : Int) = ((q : Nat) : Int) := by omega
            have g2 : ((k : Nat) : Int) < ((List.length (puts (atoms c)) : Nat) : Int) := by omega
            have g3 : ((k : Nat) : Int) < ((List.length (stays (atoms c)) : Nat) : Int) := by omega
            have g0 : (0 : Int) ≤ ((k : Nat) : Int) := by omega
            have w1 : IntKind.wrap .i64 (pre (puts (atoms c)) (stays (atoms c)) k + (((puts (atoms c))[k].length : Nat) : Int)) = pre (puts (atoms c)) (stays (atoms c)) k + (((puts (atoms c))[k].length : Nat) : Int) := by
              apply w64 (by omega)
              split at il <;> omega
            have w2 : IntKind.wrap .i64 (((k : Nat) : Int) + 1) = ((k + 1 : Nat) : Int) := by rw [w64 (by omega) (by omega)]; omega
            have w2' : IntKind.wrap .i64 (((k : Nat) : Int) + 1) = ((k : Nat) : Int) + 1 := w64 (by omega) (by omega)
            unfold s_l1Image_L1
            simp only [g0, g1, g2, g3, decide_true, decide_false, Bool.false_eq_true, if_false, if_true, Int.toNat_natCast, Nat.zero_add, List.getElem?_eq_getElem hkp, List.getElem?_eq_getElem hks, Option.bind_some, w1, w2, pre, e1, e2]
            cases hb : (stays (atoms c))[k] with
            | true =>
              rw [hb, if_pos rfl] at il
              have w3 : IntKind.wrap .i64 (pre (puts (atoms c)) (stays (atoms c)) k + (((puts (atoms c))[k].length : Nat) : Int) + 1) = pre (puts (atoms c)) (stays (atoms c)) k + (((puts (atoms c))[k].length : Nat) : Int) + 1 := w64 (by omega) (by omega)
              simp [w3, w2']
            | false => simp [w2']) (by
            unfold s_l1Image_L1
            simp only [hq2, hq0, decide_true, if_true, Int.toNat_natCast, Nat.zero_add, List.getElem?_eq_getElem hqp, Option.bind_some, w1, imgAt, e4]
            cases b <;> simp)
        simpa [pre] using this
      have e3 : s_l1Open c = _ := s_Open_eq h hB hs (by omega)
      have e5 : decide ((0 : Int) ≤ ((q : Nat) : Int) ∧ ((q : Nat) : Int) ≤ src c) = true := by simp; omega
      simp only [Bool.not_true, Bool.false_eq_true, if_false, if_true, e0, s_In_eq, e5, Option.bind_some, s_l1Image, e3, key, Int.ofNat_eq_natCast]
      simp [hq0, hp1]
    · have e5 : decide ((0 : Int) ≤ p ∧ p ≤ src c) = false := by simpa using hp
      simp only [if_true, Bool.not_true, Bool.false_eq_true, if_false, e0, s_In_eq, e5, Option.bind_some, Bool.not_false, true_and, if_neg hp]
end

theorem drawImage_ok {code : List Int} (hb : Bytes code) : Ok (s_DrawImageOf code) fun r => Sm 847 r.1 ∧ I64 r.2.1 := by
  have h : At code 100000 0 := ⟨hb, by omega, by omega⟩
  unfold s_DrawImageOf
  refine (size_ok (h.less (by omega))).bind ?_
  rintro ⟨n, c1, a1, s1⟩ ⟨hn, t1⟩
  dsimp only at hn t1 ⊢
  refine (changeOf_ok 120 (by omega) (by omega) (by omega) (t1.at (h.less (by omega)))).bind ?_
  rintro ⟨x, c2, a2, s2⟩ ⟨hx, t2⟩
  dsimp only at hx t2 ⊢
  have t2 := t1.trans t2
  have e : IntKind.wrap .i64 (n + 1) = n + 1 := w64 (by omega) (by omega)
  refine (pick_ok (t2.at (j := 2) (h.less (by omega)))).bind ?_
  rintro ⟨p, c3, a3, s3⟩ ⟨hp, t3⟩
  dsimp only at hp t3 ⊢
  rw [e] at hp
  have t3 := t2.trans t3
  refine (one_ok (t3.at (j := 2) (h.less (by omega)))).bind ?_
  rintro ⟨f, c4, a4, s4⟩ t4
  dsimp only at t4 ⊢
  have t4 := t3.trans t4
  have ip : I64 p := by unfold I64; omega
  refine Ok.bind (Q := fun v => v.1 = x ∧ I64 v.2.1 ∧ To code 0 1300 v.2.2.1 v.2.2.2.1) ?_ ?_
  · refine Ok.ite (fun _ => ?_) fun _ => Ok.mk ⟨rfl, ip, t4.more (by omega)⟩
    refine (among_ok (t4.at (j := 2) (h.less (by omega))) (by simp)).bind ?_
    rintro ⟨q, c5, a5, s5⟩ ⟨hq, t5⟩
    refine Ok.mk ⟨rfl, ?_, (t4.trans t5).more (by omega)⟩
    simp only [List.mem_cons, List.not_mem_nil, or_false, e] at hq
    unfold I64
    rcases hq with rfl | rfl | rfl <;> dsimp only <;> omega
  rintro ⟨x', q, c5, a5, s5⟩ ⟨e1, hq, t5⟩
  dsimp only at e1 hq t5 ⊢
  subst e1
  refine (one_ok (t5.at (j := 2) (h.less (by omega)))).bind ?_
  rintro ⟨f2, c6, a6, s6⟩ t6
  exact Ok.mk ⟨hx, hq⟩

theorem bytes_of {e : TypeId} {x : List Int} (h : Fits (.sl false e (.int .u8)) x) : Bytes x := fun n hn => by
  have := h.2 n hn
  have h2 : (Lit.int .u8 n).wf = true := this
  simp [Lit.wf, IntKind.min, IntKind.max, IntKind.bits, IntKind.signed] at h2
  omega
end Go.V.G
