/-
  P13: changes carried, applied: what the program's functions and the reference's return.
-/
import Derived.Test.YtdicgiljgelkfaaP12
set_option linter.unusedVariables false
set_option linter.unusedSimpArgs false
set_option maxRecDepth 100000
namespace Go.V.G
open Go.V

theorem src_nS {c : List Prt} (h : ∀ p ∈ c, Some1 p) : src c = ((nS (atoms c) : Nat) : Int) := by rw [← stays_len h, nS_stays]
theorem tgt_nT {c : List Prt} (h : ∀ p ∈ c, Some1 p) : tgt c = ((nT (atoms c) : Nat) : Int) := by rw [tgt_atoms h, nT_eq]

theorem i_fits_eq {B : Nat} {c : List Prt} (h : Sm B c) (hB : B ≤ 1099511627776) (n : Int) : i_fits c n = some (good c && decide (src c = n)) := by
  unfold i_fits
  rw [i_LengthsOf_eq h hB, Option.bind_some]
  unfold lensOf
  cases hg : good c <;> simp

theorem rows_good {a b : List Prt} (ha : good a = true) (hb : good b = true) (h : src a = src b) : Rows (stays (atoms a)) (puts (atoms a)) (stays (atoms b)) (puts (atoms b)) := by
  have sa := okk_some (good_spec ha).1
  have sb := okk_some (good_spec hb).1
  have la := stays_len sa
  have lb := stays_len sb
  have := (good_spec ha).2.1
  refine ⟨by omega, puts_len _, puts_len _, by omega, fun p hp => ?_, fun p hp => ?_⟩
  · have := put_le _ p hp; rw [nIns_atoms] at this; have := (good_sm ha).put; omega
  · have := put_le _ p hp; rw [nIns_atoms] at this; have := (good_sm hb).put; omega

def carried (first : Bool) (a b : List Prt) : List Prt := norm (gaps first (stays (atoms a)) (puts (atoms a)) (stays (atoms b)) (puts (atoms b)))
theorem carried_rest (first : Bool) (a b : List Prt) : norm (rest first (stays (atoms a)) (puts (atoms a)) (stays (atoms b)) (puts (atoms b)) 0) = carried first a b := rfl

theorem gap_fine (first : Bool) (p q : List UInt8) (st : Option (Bool × Bool)) : ∀ r ∈ gap first p q st, Fine r := by
  intro r hr
  unfold gap at hr
  rcases List.mem_append.1 hr with hr | hr
  · split at hr <;> (simp only [List.mem_cons, List.not_mem_nil, or_false] at hr; rcases hr with rfl | rfl <;> first | exact Fine.put _ | exact Fine.keep (by omega))
  · match st, hr with
    | some (true, true), hr => rw [List.mem_singleton.1 hr]; exact Fine.keep (by omega)
    | some (false, true), hr => rw [List.mem_singleton.1 hr]; exact Fine.drop (by omega)
theorem gaps_fine (first : Bool) : ∀ (Sx : List Bool) (Px : List (List UInt8)) (Sy : List Bool) (Py : List (List UInt8)), ∀ r ∈ gaps first Sx Px Sy Py, Fine r
  | [], [], _, _, r, hr => by cases hr
  | [], p :: _, _, [], r, hr => by cases hr
  | [], p :: _, _, q :: _, r, hr => gap_fine _ _ _ _ r hr
  | _ :: _, [], _, _, r, hr => by cases hr
  | _ :: _, _ :: _, [], _, r, hr => by cases hr
  | _ :: _, _ :: _, _ :: _, [], r, hr => by cases hr
  | sx :: Sx, p :: Px, sy :: Sy, q :: Py, r, hr => by
    rcases List.mem_append.1 hr with hr | hr
    · exact gap_fine _ _ _ _ r hr
    · exact gaps_fine first Sx Px Sy Py r hr
theorem nS_pa (p : Prt) : nS (pa p) = (p.1 + p.2.1).toNat := by rw [nS_stays, stays_pa, List.length_replicate]
/-- lists of fine parts: their lengths by their bytes -/
theorem src_fine : ∀ {l : List Prt}, (∀ p ∈ l, Fine p) → src l = ((nS (atoms l) : Nat) : Int)
  | [], _ => rfl
  | p :: l, h => by
    have ih := src_fine (l := l) fun q hq => h q (by simp [hq])
    have e : ∀ a b : List Atom, nS (a ++ b) = nS a + nS b := fun a b => by rw [nS_stays, nS_stays, nS_stays, stays_append, List.length_append]
    show p.1 + p.2.1 + src l = ((nS (pa p ++ atoms l) : Nat) : Int)
    have := fine_nonneg (h p (by simp))
    rw [e, ih, nS_pa]
    omega
theorem nT_append (a b : List Atom) : nT (a ++ b) = nT a + nT b := by rw [nT_eq, nT_eq, nT_eq, nIns_append, nK_append]; omega
theorem tgt_fine : ∀ {l : List Prt}, (∀ p ∈ l, Fine p) → tgt l = ((nT (atoms l) : Nat) : Int)
  | [], _ => rfl
  | p :: l, h => by
    have ih := tgt_fine (l := l) fun q hq => h q (by simp [hq])
    show p.1 + ((p.2.2.length : Nat) : Int) + tgt l = ((nT (pa p ++ atoms l) : Nat) : Int)
    rw [nT_append, ih]
    rcases h p (by simp) with rfl | hk
    · simp [pa_zero, nT]
    · have := tgt_nT (c := [p]) (fun q hq => by rw [List.mem_singleton.1 hq]; exact some1_of hk)
      have e : atoms [p] = pa p := by simp [atoms]
      rw [e] at this
      simp only [tgt] at this
      omega

/-- what is carried grows no longer than both -/
theorem carryT_nS : ∀ x y : List Atom, nS x = nS y → nS (carryT x y) = nT y := by
  intro x y
  induction x, y using carryT.induct with
  | case1 b x y ih => intro h; rw [carryT]; exact ih h
  | case2 c y ih => intro h; rw [carryT]; simp only [nS, nT]; rw [ih h]
  | case3 x c y ih => intro h; rw [carryT]; simp only [nT]; rw [← ih h]; simp [nS]
  | case4 x c y ih => intro h; rw [carryT]; simp only [nT]; rw [← ih h]; simp [nS]
  | case5 x y ih => intro h; rw [carryT]; simp only [nS, nT]; rw [ih (by simpa [nS] using h)]
  | case6 x y ih => intro h; rw [carryT]; simp only [nS, nT]; rw [ih (by simpa [nS] using h)]
  | case7 x y ih => intro h; rw [carryT]; simp only [nT]; rw [ih (by simpa [nS] using h)]
  | case8 x y ih => intro h; rw [carryT]; simp only [nT]; rw [ih (by simpa [nS] using h)]
  | case9 x y h1 h2 h3 h4 h5 h6 h7 h8 =>
    intro g
    match x, y with
    | .ins b :: x, y => exact absurd rfl (h1 b x)
    | [], .ins c :: y => exact absurd rfl (h2 c y rfl)
    | [], [] => simp [carryT, nS, nT]
    | [], .keep :: y => simp [nS] at g
    | [], .drop :: y => simp [nS] at g
    | .keep :: x, [] => simp [nS] at g
    | .drop :: x, [] => simp [nS] at g
    | .keep :: x, .ins c :: y => exact absurd rfl (h3 x c y rfl)
    | .drop :: x, .ins c :: y => exact absurd rfl (h4 x c y rfl)
    | .keep :: x, .keep :: y => exact absurd rfl (h5 x y rfl)
    | .drop :: x, .keep :: y => exact absurd rfl (h6 x y rfl)
    | .keep :: x, .drop :: y => exact absurd rfl (h7 x y rfl)
    | .drop :: x, .drop :: y => exact absurd rfl (h8 x y rfl)
theorem carryF_nS : ∀ x y : List Atom, nS x = nS y → nS (carryF x y) = nT y := by
  intro x y
  induction x, y using carryF.induct with
  | case1 x c y ih => intro h; rw [carryF]; simp only [nS, nT]; rw [ih h]
  | case2 b x ih => intro h; rw [carryF]; exact ih h
  | case3 b x y ih => intro h; rw [carryF]; exact ih h
  | case4 b x y ih => intro h; rw [carryF]; exact ih h
  | case5 x y ih => intro h; rw [carryF]; simp only [nS, nT]; rw [ih (by simpa [nS] using h)]
  | case6 x y ih => intro h; rw [carryF]; simp only [nS, nT]; rw [ih (by simpa [nS] using h)]
  | case7 x y ih => intro h; rw [carryF]; simp only [nT]; rw [ih (by simpa [nS] using h)]
  | case8 x y ih => intro h; rw [carryF]; simp only [nT]; rw [ih (by simpa [nS] using h)]
  | case9 x y h1 h2 h3 h4 h5 h6 h7 h8 =>
    intro g
    match x, y with
    | x, .ins c :: y => exact absurd rfl (h1 c y)
    | .ins b :: x, [] => exact absurd rfl (h2 b x rfl)
    | .ins b :: x, .keep :: y => exact absurd rfl (h3 b x y rfl)
    | .ins b :: x, .drop :: y => exact absurd rfl (h4 b x y rfl)
    | [], [] => simp [carryF, nS, nT]
    | [], .keep :: y => simp [nS] at g
    | [], .drop :: y => simp [nS] at g
    | .keep :: x, [] => simp [nS] at g
    | .drop :: x, [] => simp [nS] at g
    | .keep :: x, .keep :: y => exact absurd rfl (h5 x y rfl)
    | .drop :: x, .keep :: y => exact absurd rfl (h6 x y rfl)
    | .keep :: x, .drop :: y => exact absurd rfl (h7 x y rfl)
    | .drop :: x, .drop :: y => exact absurd rfl (h8 x y rfl)
theorem carryA_nS (first : Bool) (x y : List Atom) (h : nS x = nS y) : nS (carryA first x y) = nT y := by
  cases first
  · exact carryF_nS x y h
  · exact carryT_nS x y h
theorem carryT_nT : ∀ x y : List Atom, nT (carryT x y) ≤ nT x + nT y := by
  intro x y
  induction x, y using carryT.induct with
  | case1 b x y ih => rw [carryT]; simp only [nT]; omega
  | case2 c y ih => rw [carryT]; simp only [nT] at ih ⊢; omega
  | case3 x c y ih => rw [carryT]; simp only [nT] at ih ⊢; omega
  | case4 x c y ih => rw [carryT]; simp only [nT] at ih ⊢; omega
  | case5 x y ih => rw [carryT]; simp only [nT]; omega
  | case6 x y ih => rw [carryT]; simp only [nT]; omega
  | case7 x y ih => rw [carryT]; simp only [nT]; omega
  | case8 x y ih => rw [carryT]; simp only [nT]; omega
  | case9 x y h1 h2 h3 h4 h5 h6 h7 h8 => rw [carryT.eq_def]; split <;> first | exact Nat.zero_le _ | simp_all
theorem carryF_nT : ∀ x y : List Atom, nT (carryF x y) ≤ nT x + nT y := by
  intro x y
  induction x, y using carryF.induct with
  | case1 x c y ih => rw [carryF]; simp only [nT] at ih ⊢; omega
  | case2 b x ih => rw [carryF]; simp only [nT] at ih ⊢; omega
  | case3 b x y ih => rw [carryF]; simp only [nT] at ih ⊢; omega
  | case4 b x y ih => rw [carryF]; simp only [nT] at ih ⊢; omega
  | case5 x y ih => rw [carryF]; simp only [nT]; omega
  | case6 x y ih => rw [carryF]; simp only [nT]; omega
  | case7 x y ih => rw [carryF]; simp only [nT]; omega
  | case8 x y ih => rw [carryF]; simp only [nT]; omega
  | case9 x y h1 h2 h3 h4 h5 h6 h7 h8 => rw [carryF.eq_def]; split <;> first | exact Nat.zero_le _ | simp_all
theorem carryA_nT (first : Bool) (x y : List Atom) : nT (carryA first x y) ≤ nT x + nT y := by
  cases first
  · exact carryF_nT x y
  · exact carryT_nT x y

theorem carried_spec {a b : List Prt} (first : Bool) (ha : good a = true) (hb : good b = true) (h : src a = src b) :
    okk 0 (carried first a b) = true ∧ atoms (carried first a b) = carryA first (atoms a) (atoms b) := by
  have sa := okk_some (good_spec ha).1
  have sb := okk_some (good_spec hb).1
  have hn : nS (atoms a) = nS (atoms b) := by have := src_nS sa; have := src_nS sb; omega
  have hf := gaps_fine first (stays (atoms a)) (puts (atoms a)) (stays (atoms b)) (puts (atoms b))
  have he : atoms (gaps first (stays (atoms a)) (puts (atoms a)) (stays (atoms b)) (puts (atoms b))) = carryA first (atoms a) (atoms b) := by rw [gaps_atoms, gapsA_carry first _ _ hn]
  have h1 := carryA_nS first _ _ hn
  have h2 := carryA_nT first (atoms a) (atoms b)
  have t1 := tgt_nT sa
  have t2 := tgt_nT sb
  have := (good_spec ha).2.2
  have := (good_spec hb).2.2
  obtain ⟨k1, k2, _⟩ := norm_spec hf ⟨by rw [src_fine hf, he, h1]; omega, by rw [tgt_fine hf, he]; omega⟩
  exact ⟨k1, by rw [← he]; exact k2⟩

def carryOf (a b : List Prt) (first : Bool) : List Prt × Bool :=
  if good a = true ∧ good b = true ∧ src a = src b ∧ good (carried first a b) = true then (carried first a b, true) else ([], false)
theorem i_carry_eq {a b : List Prt} (first : Bool) (ha : good a = true) (hb : good b = true) (h : src a = src b) : i_carry a b first = some (carried first a b, good (carried first a b)) := by
  have sa := okk_some (good_spec ha).1
  have sb := okk_some (good_spec hb).1
  have := (good_spec ha).2.1
  have := (good_spec hb).2.1
  unfold i_carry
  rw [i_tell_eq (good_sm ha) (by omega) sa (by omega), i_tell_eq (good_sm hb) (by omega) sb (by omega), Option.bind_some, Option.bind_some]
  refine Ok.eq ((i_carry_loop (first := first) (rows_good ha hb h)).bind ?_)
  rintro _ ⟨rfl, sm⟩
  exact Ok.bind_eq (i_Good_eq sm (by omega)) (Ok.mk rfl)
theorem s_carry_eq {a b : List Prt} (first : Bool) (ha : good a = true) (hb : good b = true) (h : src a = src b) : Ok (s_l1Carry a b first) fun z => z = carried first a b ∧ Sm 4004004 z := by
  have sa := okk_some (good_spec ha).1
  have sb := okk_some (good_spec hb).1
  have := (good_spec ha).2.1
  have := (good_spec hb).2.1
  unfold s_l1Carry
  rw [s_Open_eq (good_sm ha) (by omega) sa (by omega), s_Open_eq (good_sm hb) (by omega) sb (by omega), Option.bind_some, Option.bind_some]
  exact (s_carry_loop (first := first) (rows_good ha hb h)).bind fun z hz => Ok.mk hz
theorem i_CarryChange_eq {A B : Nat} {a b : List Prt} (ha : Sm A a) (hA : A ≤ 1099511627776) (hb : Sm B b) (hB : B ≤ 1099511627776) (first : Bool) : i_CarryChange a b first = some (carryOf a b first) := by
  unfold i_CarryChange carryOf
  rw [i_LengthsOf_eq hb hB, Option.bind_some]
  unfold lensOf
  cases gb : good b with
  | false => simp
  | true =>
    simp only [if_true, Bool.not_true, Bool.false_eq_true, if_false, i_fits_eq ha hA, Option.bind_some]
    cases ga : good a with
    | false => simp
    | true =>
      by_cases hs : src a = src b
      · simp only [hs, decide_true, Bool.and_true, Bool.not_true, Bool.false_eq_true, if_false, i_carry_eq first ga gb hs, Option.bind_some, true_and]
        cases hg : good (carried first a b) <;> simp [hg]
      · simp [hs]
theorem s_CarryChange_eq {A B : Nat} {a b : List Prt} (ha : Sm A a) (hA : A ≤ 1099511627776) (hb : Sm B b) (hB : B ≤ 1099511627776) (first : Bool) : s_CarryChange a b first = some (carryOf a b first) := by
  unfold s_CarryChange carryOf
  rw [s_Good_eq ha hA, Option.bind_some]
  cases ga : good a with
  | false => simp
  | true =>
    simp only [if_true, Bool.not_true, Bool.false_eq_true, if_false, s_Good_eq hb hB, Option.bind_some]
    cases gb : good b with
    | false => simp
    | true =>
      have sa := okk_some (good_spec ga).1
      have sb := okk_some (good_spec gb).1
      have := (good_spec ga).2.1
      have := (good_spec gb).2.1
      simp only [Bool.not_true, Bool.false_eq_true, if_false, s_Source_eq ha hA sa (by omega), s_Source_eq hb hB sb (by omega), Option.bind_some]
      by_cases hs : src a = src b
      · have hnn : ¬ ¬ src a = src b := fun h => h hs
        simp only [hs, not_true, decide_false, Bool.false_eq_true, if_false, true_and]
        refine Ok.eq ((s_carry_eq first ga gb hs).bind ?_)
        rintro _ ⟨rfl, sm⟩
        refine Ok.bind_eq (s_Good_eq sm (by omega)) ?_
        cases hg : good (carried first a b) with
        | false => exact Ok.yes (by simp) (Ok.mk (by simp))
        | true => exact Ok.no (by simp) (Ok.mk (by simp))
      · simp [hs]

/-! ### applied -/
def apply (t : List UInt8) (c : List Prt) : List UInt8 := ap (atoms c) t
theorem ap_append : ∀ (x y : List Atom) (t : List UInt8), nS x ≤ t.length → ap (x ++ y) t = ap x (t.take (nS x)) ++ ap y (t.drop (nS x))
  | [], y, t, _ => by cases t <;> simp [ap, nS]
  | .ins b :: x, y, t, h => by simp only [List.cons_append, ap, nS]; rw [ap_append x y t h]
  | .keep :: x, y, c :: t, h => by
    simp only [List.cons_append, ap, nS, List.take_succ_cons, List.drop_succ_cons]; rw [ap_append x y t (by simpa [nS] using h)]
  | .drop :: x, y, c :: t, h => by
    simp only [List.cons_append, ap, nS, List.take_succ_cons, List.drop_succ_cons]; rw [ap_append x y t (by simpa [nS] using h)]
  | .keep :: x, y, [], h => by simp [nS] at h
  | .drop :: x, y, [], h => by simp [nS] at h
theorem ap_map (s : List UInt8) : ap (s.map Atom.ins) [] = s := by
  induction s with
  | nil => rfl
  | cons b s ih => simp [ap, ih]
theorem ap_keep : ∀ (n : Nat) (t : List UInt8), t.length = n → ap (List.replicate n .keep) t = t
  | 0, [], _ => rfl
  | n + 1, c :: t, h => by rw [List.replicate_succ]; simp only [ap]; rw [ap_keep n t (by simpa using h)]
theorem ap_drop : ∀ (n : Nat) (t : List UInt8), t.length = n → ap (List.replicate n .drop) t = []
  | 0, [], _ => rfl
  | n + 1, c :: t, h => by rw [List.replicate_succ]; simp only [ap]; rw [ap_drop n t (by simpa using h)]
/-- one part applied -/
theorem ap_pa {p : Prt} (h : kd p ≠ 0) (t : List UInt8) (ht : t.length = (p.1 + p.2.1).toNat) : ap (pa p) t = t.take p.1.toNat ++ p.2.2 := by
  rcases kd_cases h with ⟨a, ha, rfl, _⟩ | ⟨a, ha, rfl, _⟩ | ⟨s, hs, rfl, _⟩
  · simp only [Int.add_zero] at ht
    rw [pa_keep (by omega), ap_keep _ t ht, List.append_nil, List.take_of_length_le (by dsimp only; omega)]
  · simp only [Int.zero_add] at ht
    rw [pa_drop (by omega), ap_drop _ t ht]; simp
  · have : t = [] := List.eq_nil_of_length_eq_zero (by simpa using ht)
    subst this
    rw [pa_put, ap_map]; simp

theorem i_apply_eq {c : List Prt} (hg : good c = true) {t : List UInt8} (ht : ((t.length : Nat) : Int) = src c) : i_apply t c = some (apply t c) := by
  have hs := okk_some (good_spec hg).1
  have sm := good_sm hg
  have sle := (good_spec hg).2.1
  have hlen : c.length ≤ 1099511627776 := by have := sm.len; omega
  unfold i_apply
  have : loopG i_apply_L1 (t, ([] : List UInt8), 0, c, ((List.length c : Nat) : Int), 0) = some (apply t c) := by
    have := loop_run i_apply_L1 (fun k => (t, ap (atoms (c.take k)) (t.take (nS (atoms (c.take k)))), src (c.take k), c, ((List.length c : Nat) : Int), ((k : Nat) : Int))) c.length (apply t c) (by
      intro i hlt
      have p1 := hs _ (List.getElem_mem hlt)
      have k0 := p1.k; have d0 := p1.d
      have a1 := src_at hlt
      have n1 := src_nonneg (l := c.take i) fun p h => hs p (mem_take h)
      have n3 := src_nonneg (l := c.drop (i + 1)) fun p h => hs p (mem_drop h)
      have psm := part_small hg (List.getElem_mem hlt)
      have e0 := src_nS (c := c.take i) fun p h => hs p (mem_take h)
      have hi : ((i : Nat) : Int) < ((List.length c : Nat) : Int) := by omega
      have w1 : IntKind.wrap .i64 (src (c.take i) + c[i].1) = src (c.take i) + c[i].1 := w64 (by omega) (by omega)
      have w2 : IntKind.wrap .i64 (c[i].1 + c[i].2.1) = c[i].1 + c[i].2.1 := w64 (by omega) (by omega)
      have w3 : IntKind.wrap .i64 (src (c.take i) + (c[i].1 + c[i].2.1)) = src (c.take i) + (c[i].1 + c[i].2.1) := w64 (by omega) (by omega)
      have g1 : src (c.take i) ≤ src (c.take i) + c[i].1 := by omega
      have g2 : src (c.take i) + c[i].1 ≤ ((List.length t : Nat) : Int) := by omega
      -- the text so far
      have hnt : nS (atoms (c.take i)) + (c[i].1 + c[i].2.1).toNat ≤ t.length := by omega
      have al := ap_len (atoms (c.take i)) (t.take (nS (atoms (c.take i)))) (by rw [List.length_take]; omega)
      have tn := tgt_nT (c := c.take i) fun p h => hs p (mem_take h)
      have t3 := tgt_at hlt
      have t4 := tgt_nonneg (l := c.drop (i + 1)) fun p h => hs p (mem_drop h)
      have tle := (good_spec hg).2.2
      have hout : ap (atoms (c.take (i + 1))) (t.take (nS (atoms (c.take (i + 1))))) = ap (atoms (c.take i)) (t.take (nS (atoms (c.take i)))) ++ (((t.drop (Int.toNat (src (c.take i)))).take (Int.toNat (src (c.take i) + c[i].1) - Int.toNat (src (c.take i)))) ++ c[i].2.2) := by
        have e1 : nS (atoms (c.take (i + 1))) = nS (atoms (c.take i)) + (c[i].1 + c[i].2.1).toNat := by
          rw [atoms_take hlt, nS_stays, stays_append, List.length_append, ← nS_stays, stays_pa, List.length_replicate]
        rw [e1, atoms_take hlt, ap_append _ _ _ (by rw [List.length_take]; omega), List.take_take, Nat.min_eq_left (by omega)]
        congr 1
        rw [List.drop_take, show nS (atoms (c.take i)) + (c[i].1 + c[i].2.1).toNat - nS (atoms (c.take i)) = (c[i].1 + c[i].2.1).toNat by omega,
          ap_pa p1.ne _ (by rw [List.length_take, List.length_drop]; omega), List.take_take, Nat.min_eq_left (by omega)]
        rw [show Int.toNat (src (c.take i)) = nS (atoms (c.take i)) by omega, show Int.toNat (src (c.take i) + c[i].1) - nS (atoms (c.take i)) = c[i].1.toNat by omega]
      have r1 : List.length ((t.drop (Int.toNat (src (c.take i)))).take (Int.toNat (src (c.take i) + c[i].1) - Int.toNat (src (c.take i)))) + List.length c[i].2.2 ≤ 9223372036854775807 := by
        rw [List.length_take, List.length_drop]; omega
      have r2 : List.length (ap (atoms (c.take i)) (t.take (nS (atoms (c.take i))))) + List.length ((((t : List UInt8).drop (Int.toNat (src (c.take i)))).take (Int.toNat (src (c.take i) + c[i].1) - Int.toNat (src (c.take i))) : List UInt8) ++ c[i].2.2) ≤ 9223372036854775807 := by
        rw [List.length_append, List.length_take, List.length_drop, al]; omega
      unfold i_apply_L1
      simp only [hi, show (0 : Int) ≤ ((i : Nat) : Int) from by omega, decide_true, if_true, Int.toNat_natCast, List.getElem?_eq_getElem hlt, Option.bind_some, w1, w2, w3, n1, g1, g2, Int.le_refl, r1, r2, idx_succ hlen hlt, hout, src_take hlt]) (by
      have e : nS (atoms c) = t.length := by have := src_nS hs; omega
      simp only [List.take_length]
      rw [e, List.take_length]
      simp [i_apply_L1, apply])
    simpa [atoms, ap, src, nS] using this
  rw [this]; rfl
def applyOf (t : List UInt8) (c : List Prt) : List UInt8 × Bool := if good c = true ∧ src c = ((t.length : Nat) : Int) then (apply t c, true) else ([], false)
theorem i_ApplyChange_eq {B : Nat} {c : List Prt} (h : Sm B c) (hB : B ≤ 1099511627776) (t : List UInt8) : i_ApplyChange t c = some (applyOf t c) := by
  unfold i_ApplyChange applyOf
  rw [i_fits_eq h hB, Option.bind_some]
  cases hg : good c with
  | false => simp
  | true =>
    by_cases hs : src c = ((t.length : Nat) : Int)
    · simp [hs, i_apply_eq hg hs.symm]
    · simp [hs]

/-! ### a text of some length -/
theorem fill_ok {n : Int} (h0 : 0 ≤ n) (h : n ≤ 1000000) : Ok (l_fill n) fun t => ((t.length : Nat) : Int) = n := by
  unfold l_fill
  refine Ok.yes (by simpa using h0) (Ok.yes (by simp) (Ok.yes (by simp [roomFor]; omega) ?_))
  refine Ok.bind (Q := fun v => List.length v = n.toNat) ?_ (fun v hv => Ok.mk ?_)
  · refine Ok.loop (fun y => List.length y.1 = n.toNat ∧ y.2.1 = n ∧ 0 ≤ y.2.2 ∧ y.2.2 ≤ n) (fun y => (n - y.2.2).toNat) ⟨by simp, by simp; omega, by simp, by simpa using h0⟩ ?_
    rintro ⟨l, m, i⟩ ⟨h1, h2, h3, h4⟩
    dsimp only at h1 h2 h3 h4
    subst h2
    unfold l_fill_L1
    dsimp only
    refine Ok.ite (fun hc => ?_) fun _ => Ok.mk h1
    have hc' : i < m := by simpa using hc
    have hl : i.toNat < l.length := by omega
    have e : IntKind.wrap .i64 (i + 1) = i + 1 := w64 (by omega) (by omega)
    refine Ok.yes (by simp) (Ok.yes (by simpa using h3) (Ok.yes (by simp; omega) (Ok.bind_eq (r := l[i.toNat]) (by rw [Nat.zero_add]; exact List.getElem?_eq_getElem hl) (Ok.bind_eq (r := l[i.toNat]) (by rw [Nat.zero_add]; exact List.getElem?_eq_getElem hl) (Ok.mk ?_)))))
    rw [e]
    exact ⟨⟨by simpa using h1, rfl, by dsimp only; omega, by dsimp only; omega⟩, by dsimp only; omega⟩
  · simp [textOf, hv]; omega
end Go.V.G
