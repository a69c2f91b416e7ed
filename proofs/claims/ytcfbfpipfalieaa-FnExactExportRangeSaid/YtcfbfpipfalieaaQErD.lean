import Derived.Test.YtcfbfpipfalieaaQErC
set_option linter.unusedVariables false
set_option linter.unusedSimpArgs false
set_option maxRecDepth 100000
namespace Go.V.G
open Go.V
def fit_RunS (xs : List (Int × Int)) : Prop := xs.length ≤ maxLen
def w_RunS (xs : List (Int × Int)) : Nat := xs.length
theorem w_RunS_len (xs : List (Int × Int)) : xs.length ≤ w_RunS xs := by unfold w_RunS; omega
theorem sz_RunS {xs : List (Int × Int)} (hf : fit_RunS xs) {l : Int} (h0 : 0 ≤ l) (h1 : l ≤ 1048576) : l_szRunS xs l = some (lft l (w_RunS xs)) := by
  have hl : xs.length ≤ maxLen := hf
  unfold maxLen at hl
  unfold l_szRunS lft w_RunS
  rw [w64 (by omega) (by omega)]
  by_cases h : l - ((xs.length : Nat) : Int) < 0
  · rw [if_pos (by simpa using h), if_neg (by omega)]
  · rw [if_neg (by simpa using h), if_pos (by omega)]
theorem to_RunS {xs : List (Int × Int)} (h : w_RunS xs ≤ 1048576) : l_toRunS xs = some xs := by
  have hl := w_RunS_len xs
  have hr : roomFor xs.length 16 = true := by simp only [roomFor, decide_eq_true_eq]; omega
  unfold l_toRunS
  simp only [Int.toNat_natCast, hr, if_true, Int.le_refl, decide_true, show (0 : Int) ≤ ((xs.length : Nat) : Int) from by omega]
  rw [to_loop l_toRunS_L1 xs _ (by
    intro ys i hi hy
    have hc : ((i : Nat) : Int) < ((xs.length : Nat) : Int) := by omega
    have hy' : i < ys.length := by omega
    have g1 : ∀ x, (ys.set i x)[i]? = some x := fun x => List.getElem?_set_self hy'
    skip
    unfold l_toRunS_L1
    simp only [hy, hc, decide_true, if_true, show (0 : Int) ≤ ((i : Nat) : Int) from by omega, Int.toNat_natCast, List.getElem?_eq_getElem hi, List.getElem?_eq_getElem hy', Option.bind_some, Nat.zero_add, List.set_set, g1, ixS (show xs.length ≤ 4611686018427387904 by omega) hi, l_toRun]) (by intro ys; simp [l_toRunS_L1])]
  rfl
theorem eq_Run (x : Int × Int) : l_eqRun x.1 x.2 x.1 x.2 = some true := by simp [l_eqRun]
theorem eq_RunS {xs : List (Int × Int)} (h : w_RunS xs ≤ 1099511627776) : l_eqRunS xs xs = some true := by
  have hl := w_RunS_len xs
  unfold l_eqRunS
  rw [if_neg (by simp), eq_loop l_eqRunS_L1 xs (by
    intro i hi
    have hc : ((i : Nat) : Int) < ((xs.length : Nat) : Int) := by omega
    skip
    unfold l_eqRunS_L1
    simp only [hc, decide_true, if_true, show (0 : Int) ≤ ((i : Nat) : Int) from by omega, Int.toNat_natCast, List.getElem?_eq_getElem hi, Option.bind_some, ixS (show xs.length ≤ 4611686018427387904 by omega) hi, eq_Run, Bool.not_true, Bool.false_eq_true, if_false, not_true_eq_false, decide_false]) (by simp [l_eqRunS_L1])]
  rfl
def fit_PartS (xs : List (Int × (Int × List UInt8))) : Prop := xs.length ≤ maxLen ∧ ∀ x ∈ xs, x.2.2.length ≤ maxLen
def w_Part (x : Int × (Int × List UInt8)) : Nat := x.2.2.length
def w_PartS (xs : List (Int × (Int × List UInt8))) : Nat := xs.length + wsum w_Part xs
theorem w_PartS_len (xs : List (Int × (Int × List UInt8))) : xs.length ≤ w_PartS xs := by unfold w_PartS; omega
theorem sz_Part {x : Int × (Int × List UInt8)} (hf : x.2.2.length ≤ maxLen) {l : Int} (h0 : 0 ≤ l) (h1 : l ≤ 1048576) : l_szPart x.1 x.2.1 x.2.2 l = some (lft l (w_Part x)) := by
  unfold maxLen at hf
  unfold l_szPart lft w_Part
  rw [w64 (by omega) (by omega)]
  by_cases h : l - ((x.2.2.length : Nat) : Int) < 0
  · rw [if_pos (by simpa using h), if_neg (by omega)]
  · rw [if_neg (by simpa using h), if_pos (by omega)]
theorem sz_PartS {xs : List (Int × (Int × List UInt8))} (hf : fit_PartS xs) {l : Int} (h0 : 0 ≤ l) (h1 : l ≤ 1048576) : l_szPartS xs l = some (lft l (w_PartS xs)) := by
  obtain ⟨hl, hx⟩ := hf
  unfold maxLen at hl
  unfold l_szPartS
  rw [w64 (by omega) (by omega)]
  by_cases h : l - ((xs.length : Nat) : Int) < 0
  · rw [if_pos (by simpa using h)]; unfold lft w_PartS; rw [if_neg (by omega)]
  · rw [if_neg (by simpa using h), sz_loop l_szPartS_L1 w_Part xs (by
      intro i hi l h0 h1
      have hc : ((i : Nat) : Int) < ((xs.length : Nat) : Int) := by omega
      have hx := hx _ (List.getElem_mem hi)
      unfold l_szPartS_L1
      simp only [hc, decide_true, if_true, show (0 : Int) ≤ ((i : Nat) : Int) from by omega, Int.toNat_natCast, List.getElem?_eq_getElem hi, Option.bind_some, sz_Part (hx) h0 h1, ixS (show xs.length ≤ 4611686018427387904 by omega) hi]
      unfold lft
      by_cases hw : ((w_Part xs[i] : Nat) : Int) ≤ l
      · have : ¬ l - ((w_Part xs[i] : Nat) : Int) < 0 := by omega
        simp [hw, this]
      · simp [hw]) (by intro l; simp [l_szPartS_L1]) (by omega) (by omega), Option.bind_some]
    unfold lft w_PartS
    by_cases hx : ((wsum w_Part xs : Nat) : Int) ≤ l - ((xs.length : Nat) : Int)
    · rw [if_pos hx, if_pos (by omega)]
      show some _ = some _
      congr 1; omega
    · rw [if_neg hx, if_neg (by omega)]
theorem to_PartS {xs : List (Int × (Int × List UInt8))} (h : w_PartS xs ≤ 1048576) : l_toPartS xs = some xs := by
  have hl := w_PartS_len xs
  have hr : roomFor xs.length 32 = true := by simp only [roomFor, decide_eq_true_eq]; omega
  unfold l_toPartS
  simp only [Int.toNat_natCast, hr, if_true, Int.le_refl, decide_true, show (0 : Int) ≤ ((xs.length : Nat) : Int) from by omega]
  rw [to_loop l_toPartS_L1 xs _ (by
    intro ys i hi hy
    have hc : ((i : Nat) : Int) < ((xs.length : Nat) : Int) := by omega
    have hy' : i < ys.length := by omega
    have g1 : ∀ x, (ys.set i x)[i]? = some x := fun x => List.getElem?_set_self hy'
    skip
    unfold l_toPartS_L1
    simp only [hy, hc, decide_true, if_true, show (0 : Int) ≤ ((i : Nat) : Int) from by omega, Int.toNat_natCast, List.getElem?_eq_getElem hi, List.getElem?_eq_getElem hy', Option.bind_some, Nat.zero_add, List.set_set, g1, ixS (show xs.length ≤ 4611686018427387904 by omega) hi, l_toPart]) (by intro ys; simp [l_toPartS_L1])]
  rfl
theorem eq_Part (x : Int × (Int × List UInt8)) : l_eqPart x.1 x.2.1 x.2.2 x.1 x.2.1 x.2.2 = some true := by simp [l_eqPart]
theorem eq_PartS {xs : List (Int × (Int × List UInt8))} (h : w_PartS xs ≤ 1099511627776) : l_eqPartS xs xs = some true := by
  have hl := w_PartS_len xs
  unfold l_eqPartS
  rw [if_neg (by simp), eq_loop l_eqPartS_L1 xs (by
    intro i hi
    have hc : ((i : Nat) : Int) < ((xs.length : Nat) : Int) := by omega
    skip
    unfold l_eqPartS_L1
    simp only [hc, decide_true, if_true, show (0 : Int) ≤ ((i : Nat) : Int) from by omega, Int.toNat_natCast, List.getElem?_eq_getElem hi, Option.bind_some, ixS (show xs.length ≤ 4611686018427387904 by omega) hi, eq_Part, Bool.not_true, Bool.false_eq_true, if_false, not_true_eq_false, decide_false]) (by simp [l_eqPartS_L1])]
  rfl
def fit_ChangeS (xs : List (List (Int × (Int × List UInt8)))) : Prop := xs.length ≤ maxLen ∧ ∀ x ∈ xs, fit_PartS x
def w_ChangeS (xs : List (List (Int × (Int × List UInt8)))) : Nat := xs.length + wsum w_PartS xs
theorem w_ChangeS_len (xs : List (List (Int × (Int × List UInt8)))) : xs.length ≤ w_ChangeS xs := by unfold w_ChangeS; omega
theorem sz_Change {x : List (Int × (Int × List UInt8))} (hf : fit_PartS x) {l : Int} (h0 : 0 ≤ l) (h1 : l ≤ 1048576) : l_szChange x l = some (lft l (w_PartS x)) := by
  unfold l_szChange
  rw [sz_PartS hf h0 h1, Option.bind_some]
  by_cases h : lft l (w_PartS x) < 0
  · rw [if_pos (by simpa using h)]; unfold lft at h ⊢; split at h
    · omega
    · rename_i hn; rw [if_neg hn]
  · rw [if_neg (by simpa using h)]
theorem sz_ChangeS {xs : List (List (Int × (Int × List UInt8)))} (hf : fit_ChangeS xs) {l : Int} (h0 : 0 ≤ l) (h1 : l ≤ 1048576) : l_szChangeS xs l = some (lft l (w_ChangeS xs)) := by
  obtain ⟨hl, hx⟩ := hf
  unfold maxLen at hl
  unfold l_szChangeS
  rw [w64 (by omega) (by omega)]
  by_cases h : l - ((xs.length : Nat) : Int) < 0
  · rw [if_pos (by simpa using h)]; unfold lft w_ChangeS; rw [if_neg (by omega)]
  · rw [if_neg (by simpa using h), sz_loop l_szChangeS_L1 w_PartS xs (by
      intro i hi l h0 h1
      have hc : ((i : Nat) : Int) < ((xs.length : Nat) : Int) := by omega
      have hx := hx _ (List.getElem_mem hi)
      unfold l_szChangeS_L1
      simp only [hc, decide_true, if_true, show (0 : Int) ≤ ((i : Nat) : Int) from by omega, Int.toNat_natCast, List.getElem?_eq_getElem hi, Option.bind_some, sz_Change (hx) h0 h1, ixS (show xs.length ≤ 4611686018427387904 by omega) hi]
      unfold lft
      by_cases hw : ((w_PartS xs[i] : Nat) : Int) ≤ l
      · have : ¬ l - ((w_PartS xs[i] : Nat) : Int) < 0 := by omega
        simp [hw, this]
      · simp [hw]) (by intro l; simp [l_szChangeS_L1]) (by omega) (by omega), Option.bind_some]
    unfold lft w_ChangeS
    by_cases hx : ((wsum w_PartS xs : Nat) : Int) ≤ l - ((xs.length : Nat) : Int)
    · rw [if_pos hx, if_pos (by omega)]
      show some _ = some _
      congr 1; omega
    · rw [if_neg hx, if_neg (by omega)]
theorem to_Change {x : List (Int × (Int × List UInt8))} (h : w_PartS x ≤ 1048576) : l_toChange x = some x := by
  unfold l_toChange; rw [to_PartS h]; rfl
theorem to_ChangeS {xs : List (List (Int × (Int × List UInt8)))} (h : w_ChangeS xs ≤ 1048576) : l_toChangeS xs = some xs := by
  have hl := w_ChangeS_len xs
  have hr : roomFor xs.length 24 = true := by simp only [roomFor, decide_eq_true_eq]; omega
  unfold l_toChangeS
  simp only [Int.toNat_natCast, hr, if_true, Int.le_refl, decide_true, show (0 : Int) ≤ ((xs.length : Nat) : Int) from by omega]
  rw [to_loop l_toChangeS_L1 xs _ (by
    intro ys i hi hy
    have hc : ((i : Nat) : Int) < ((xs.length : Nat) : Int) := by omega
    have hy' : i < ys.length := by omega
    have g1 : ∀ x, (ys.set i x)[i]? = some x := fun x => List.getElem?_set_self hy'
    have hb : w_PartS xs[i] ≤ 1048576 := by have := wsum_mem w_PartS (List.getElem_mem hi); unfold w_ChangeS at h; omega
    unfold l_toChangeS_L1
    simp only [hy, hc, decide_true, if_true, show (0 : Int) ≤ ((i : Nat) : Int) from by omega, Int.toNat_natCast, List.getElem?_eq_getElem hi, List.getElem?_eq_getElem hy', Option.bind_some, Nat.zero_add, List.set_set, g1, ixS (show xs.length ≤ 4611686018427387904 by omega) hi, to_Change (hb)]) (by intro ys; simp [l_toChangeS_L1])]
  rfl
theorem eq_Change {x : List (Int × (Int × List UInt8))} (h : w_PartS x ≤ 1099511627776) : l_eqChange x x = some true := by
  unfold l_eqChange; rw [eq_PartS h]; rfl
theorem eq_ChangeS {xs : List (List (Int × (Int × List UInt8)))} (h : w_ChangeS xs ≤ 1099511627776) : l_eqChangeS xs xs = some true := by
  have hl := w_ChangeS_len xs
  unfold l_eqChangeS
  rw [if_neg (by simp), eq_loop l_eqChangeS_L1 xs (by
    intro i hi
    have hc : ((i : Nat) : Int) < ((xs.length : Nat) : Int) := by omega
    have hb : w_PartS xs[i] ≤ 1099511627776 := by have := wsum_mem w_PartS (List.getElem_mem hi); unfold w_ChangeS at h; omega
    unfold l_eqChangeS_L1
    simp only [hc, decide_true, if_true, show (0 : Int) ≤ ((i : Nat) : Int) from by omega, Int.toNat_natCast, List.getElem?_eq_getElem hi, Option.bind_some, ixS (show xs.length ≤ 4611686018427387904 by omega) hi, eq_Change (hb), Bool.not_true, Bool.false_eq_true, if_false, not_true_eq_false, decide_false]) (by simp [l_eqChangeS_L1])]
  rfl
end Go.V.G

set_option linter.unusedVariables false
set_option linter.unusedSimpArgs false
set_option maxRecDepth 100000
namespace Go.V.G
open Go.V
theorem n2 : ((2 : Nat) : Int) = 2 := rfl
theorem n3 : ((3 : Nat) : Int) = 3 := rfl
noncomputable def mt (k : Int) : List UInt8 := (l_markText k).getD []
theorem mt_eq {k : Int} (h0 : 0 ≤ k) (h1 : k ≤ 4611686018427387904) : l_markText k = some (mt k) := by
  have : ∃ z, l_markText k = some z := by
    unfold l_markText
    by_cases h : k ≤ 0
    · exact ⟨_, by rw [if_pos (by simpa using h)]⟩
    · rw [if_neg (by simpa using h)]
      obtain ⟨z, hz, hl⟩ := loop_inv l_markText_L1 (fun y => 0 ≤ y.1 ∧ ((y.2.length : Nat) : Int) + y.1 ≤ 4611686018427387904) (fun y => y.1.toNat) (fun z => ((z.length : Nat) : Int) ≤ 4611686018427387904) (by
        rintro ⟨n, s⟩ ⟨q0, q1⟩
        dsimp only at q0 q1
        unfold l_markText_L1
        by_cases hp : 0 < n
        · left
          have d1 : Int.tdiv n 10 = n / 10 := Int.tdiv_eq_ediv_of_nonneg q0
          have w : IntKind.wrap .i64 (Int.tdiv n 10) = n / 10 := by rw [d1, w64 (by omega) (by omega)]
          have hlen : List.length (textOf [IntKind.wrap .u8 (IntKind.wrap .i64 (48 + (Int.tmod n 10)))]) = 1 := by simp [textOf]
          have hs : 1 + s.length ≤ 9223372036854775807 := by omega
          refine ⟨(n / 10, textOf [IntKind.wrap .u8 (IntKind.wrap .i64 (48 + (Int.tmod n 10)))] ++ s), ?_, ⟨by dsimp only; omega, ?_⟩, by dsimp only; omega⟩
          · simp only [hp, decide_true, if_true, hlen, hs, w, show decide (¬ (10 : Int) = 0) = true from rfl]
          · dsimp only
            rw [List.length_append, hlen]; omega
        · right
          refine ⟨s, by simp [hp], ?_⟩
          omega) (k, []) ⟨h0, by simpa using h1⟩
      rw [hz, Option.bind_some]
      exact ⟨_, by rw [if_pos]; simp; omega⟩
  obtain ⟨z, hz⟩ := this
  rw [mt, hz]; rfl
def c_RunS : Int × Int → Nat := fun _ => 2
def m_RunS : Int × Int → Int → Int × Int := fun _ k => (k, k + 1)
theorem cb_RunS : ∀ xs : List (Int × Int), wsum c_RunS xs = 2 * xs.length
  | [] => rfl
  | x :: xs => by simp only [wsum, cb_RunS xs, c_RunS, List.length_cons]; omega
theorem mark_RunS {xs : List (Int × Int)} (hl : xs.length ≤ 1099511627776) {k : Int} (h0 : 0 ≤ k) (h1 : k + wsum c_RunS xs ≤ 4611686018427387904) : l_markRunS_l xs k = some (mks m_RunS c_RunS xs k, k + wsum c_RunS xs) := by
  unfold l_markRunS_l
  rw [mark_loop l_markRunS_l_L1 m_RunS c_RunS xs (by
    intro ys i hi k hlen hmem h0 hk
    have hc : ((i : Nat) : Int) < ((ys.length : Nat) : Int) := by omega
    have g1 : ∀ x, (ys.set i x)[i]? = some x := fun x => List.getElem?_set_self hi
    simp only [c_RunS] at hk
    have w1 : IntKind.wrap .i64 (k + 1) = k + 1 := w64 (by omega) (by omega)
    have w2 : IntKind.wrap .i64 (k + 1 + 1) = k + 2 := by rw [w64 (by omega) (by omega)]; omega
    unfold l_markRunS_l_L1
    simp only [List.length_set, hc, decide_true, if_true, show (0 : Int) ≤ ((i : Nat) : Int) from by omega, Int.toNat_natCast, List.getElem?_eq_getElem hi, Option.bind_some, Nat.zero_add, List.set_set, g1, ixS (show ys.length ≤ 4611686018427387904 by omega) hi, w1, w2, m_RunS, c_RunS, n2]) (by intro ys k; simp [l_markRunS_l_L1]) h0 h1]
  rfl
def c_PartS : Int × (Int × List UInt8) → Nat := fun _ => 3
noncomputable def m_PartS : Int × (Int × List UInt8) → Int → Int × (Int × List UInt8) := fun _ k => (k, k + 1, mt (k + 2))
theorem cb_PartS : ∀ xs : List (Int × (Int × List UInt8)), wsum c_PartS xs = 3 * xs.length
  | [] => rfl
  | x :: xs => by simp only [wsum, cb_PartS xs, c_PartS, List.length_cons]; omega
theorem mark_PartS {xs : List (Int × (Int × List UInt8))} (hl : xs.length ≤ 1099511627776) {k : Int} (h0 : 0 ≤ k) (h1 : k + wsum c_PartS xs ≤ 4611686018427387904) : l_markPartS_l xs k = some (mks m_PartS c_PartS xs k, k + wsum c_PartS xs) := by
  unfold l_markPartS_l
  rw [mark_loop l_markPartS_l_L1 m_PartS c_PartS xs (by
    intro ys i hi k hlen hmem h0 hk
    have hc : ((i : Nat) : Int) < ((ys.length : Nat) : Int) := by omega
    have g1 : ∀ x, (ys.set i x)[i]? = some x := fun x => List.getElem?_set_self hi
    simp only [c_PartS] at hk
    have w1 : IntKind.wrap .i64 (k + 1) = k + 1 := w64 (by omega) (by omega)
    have w2 : IntKind.wrap .i64 (k + 1 + 1) = k + 2 := by rw [w64 (by omega) (by omega)]; omega
    have w3 : IntKind.wrap .i64 (k + 2 + 1) = k + 3 := by rw [w64 (by omega) (by omega)]; omega
    have hm := mt_eq (k := k + 2) (by omega) (by omega)
    unfold l_markPartS_l_L1
    simp only [List.length_set, hc, decide_true, if_true, show (0 : Int) ≤ ((i : Nat) : Int) from by omega, Int.toNat_natCast, List.getElem?_eq_getElem hi, Option.bind_some, Nat.zero_add, List.set_set, g1, ixS (show ys.length ≤ 4611686018427387904 by omega) hi, w1, w2, w3, hm, m_PartS, c_PartS, n3]) (by intro ys k; simp [l_markPartS_l_L1]) h0 h1]
  rfl
def c_ChangeS : List (Int × (Int × List UInt8)) → Nat := fun x => wsum c_PartS x
noncomputable def m_ChangeS : List (Int × (Int × List UInt8)) → Int → List (Int × (Int × List UInt8)) := fun x k => mks m_PartS c_PartS x k
theorem cb_ChangeS : ∀ xs : List (List (Int × (Int × List UInt8))), wsum c_ChangeS xs ≤ 3 * w_ChangeS xs
  | [] => Nat.zero_le _
  | x :: xs => by
    have ih := cb_ChangeS xs; have hx := cb_PartS x; have hy := w_PartS_len x
    simp only [w_ChangeS, wsum, List.length_cons, c_ChangeS] at ih ⊢
    omega
theorem parts_len {xs : List (List (Int × (Int × List UInt8)))} (h : w_ChangeS xs ≤ 1099511627776) {x : List (Int × (Int × List UInt8))} (hx : x ∈ xs) : x.length ≤ 1099511627776 := by
  have := wsum_mem w_PartS hx; have := w_PartS_len x; unfold w_ChangeS at h; omega
theorem mark_ChangeS {xs : List (List (Int × (Int × List UInt8)))} (h : w_ChangeS xs ≤ 1099511627776) {k : Int} (h0 : 0 ≤ k) (h1 : k + wsum c_ChangeS xs ≤ 4611686018427387904) : l_markChangeS_l xs k = some (mks m_ChangeS c_ChangeS xs k, k + wsum c_ChangeS xs) := by
  have hl := w_ChangeS_len xs
  unfold l_markChangeS_l
  rw [mark_loop l_markChangeS_l_L1 m_ChangeS c_ChangeS xs (by
    intro ys i hi k hlen hmem h0 hk
    have hc : ((i : Nat) : Int) < ((ys.length : Nat) : Int) := by omega
    have hm := mark_PartS (parts_len h hmem) h0 hk
    unfold l_markChangeS_l_L1
    simp only [hc, decide_true, if_true, show (0 : Int) ≤ ((i : Nat) : Int) from by omega, Int.toNat_natCast, List.getElem?_eq_getElem hi, Option.bind_some, Nat.zero_add, ixS (show ys.length ≤ 4611686018427387904 by omega) hi, hm, m_ChangeS, c_ChangeS]) (by intro ys k; simp [l_markChangeS_l_L1]) h0 h1]
  rfl
abbrev Hst := Int × (List UInt8 × (List (Int × Int) × List (List (Int × (Int × List UInt8)))))
def w_History (h : Hst) : Nat := h.2.1.length + w_RunS h.2.2.1 + w_ChangeS h.2.2.2
def fit_History (h : Hst) : Prop := h.2.1.length ≤ maxLen ∧ fit_RunS h.2.2.1 ∧ fit_ChangeS h.2.2.2
theorem lft_lft {l : Int} {n m : Nat} (h : ((n : Nat) : Int) ≤ l) : lft (l - n) m = lft l (n + m) := by
  unfold lft
  by_cases h1 : ((m : Nat) : Int) ≤ l - n
  · rw [if_pos h1, if_pos (by omega)]; omega
  · rw [if_neg h1, if_neg (by omega)]
theorem lft_no {l : Int} {n m : Nat} (h : ¬ ((n : Nat) : Int) ≤ l) : lft l (n + m) = -1 := by unfold lft; rw [if_neg (by omega)]
theorem sz_History {a : Int} {t : List UInt8} {r : List (Int × Int)} {c : List (List (Int × (Int × List UInt8)))} (hf : fit_History (a, t, r, c)) {l : Int} (h0 : 0 ≤ l) (h1 : l ≤ 1048576) : l_szHistory a t r c l = some (lft l (w_History (a, t, r, c))) := by
  obtain ⟨f1, f2, f3⟩ := hf
  unfold maxLen at f1
  dsimp only at f1 f2 f3
  unfold l_szHistory w_History
  dsimp only
  rw [w64 (by omega) (by omega)]
  by_cases h : ((t.length : Nat) : Int) ≤ l
  · rw [if_neg (by simp; omega), sz_RunS f2 (by omega) (by omega), Option.bind_some, lft_lft h]
    by_cases h2 : (((t.length + w_RunS r : Nat)) : Int) ≤ l
    · have e : lft l (t.length + w_RunS r) = l - ((t.length + w_RunS r : Nat) : Int) := by unfold lft; rw [if_pos h2]
      rw [e, if_neg (by simp; omega), sz_ChangeS f3 (by omega) (by omega), Option.bind_some, lft_lft h2]
      by_cases h3 : (((t.length + w_RunS r + w_ChangeS c : Nat)) : Int) ≤ l
      · have e : lft l (t.length + w_RunS r + w_ChangeS c) = l - ((t.length + w_RunS r + w_ChangeS c : Nat) : Int) := by unfold lft; rw [if_pos h3]
        rw [e, if_neg (by simp; omega)]
      · have e : lft l (t.length + w_RunS r + w_ChangeS c) = -1 := by unfold lft; rw [if_neg h3]
        rw [e]; rfl
    · have e : lft l (t.length + w_RunS r) = -1 := by unfold lft; rw [if_neg h2]
      rw [e, lft_no h2]; rfl
  · rw [if_pos (by simp; omega), Nat.add_assoc, lft_no h]
theorem to_History {a : Int} {t : List UInt8} {r : List (Int × Int)} {c : List (List (Int × (Int × List UInt8)))} (h : w_History (a, t, r, c) ≤ 1048576) : l_toHistory a t r c = some (a, t, r, c) := by
  unfold w_History at h
  dsimp only at h
  unfold l_toHistory
  rw [to_RunS (by omega), Option.bind_some, to_ChangeS (by omega)]; rfl
theorem eq_History {a : Int} {t : List UInt8} {r : List (Int × Int)} {c : List (List (Int × (Int × List UInt8)))} (h : w_History (a, t, r, c) ≤ 1099511627776) : l_eqHistory a t r c a t r c = some true := by
  unfold w_History at h
  dsimp only at h
  unfold l_eqHistory
  simp [eq_RunS (show w_RunS r ≤ 1099511627776 by omega), eq_ChangeS (show w_ChangeS c ≤ 1099511627776 by omega)]
noncomputable def mkR (r : List (Int × Int)) (k : Int) : List (Int × Int) := mks m_RunS c_RunS r k
noncomputable def mkC (r : List (Int × Int)) (c : List (List (Int × (Int × List UInt8)))) (k : Int) : List (List (Int × (Int × List UInt8))) := mks m_ChangeS c_ChangeS c (k + wsum c_RunS r)
def cHist (r : List (Int × Int)) (c : List (List (Int × (Int × List UInt8)))) : Nat := wsum c_RunS r + wsum c_ChangeS c
theorem mark_History {a : Int} {t : List UInt8} {r : List (Int × Int)} {c : List (List (Int × (Int × List UInt8)))} (h : w_History (a, t, r, c) ≤ 1099511627776) {k : Int} (h0 : 0 ≤ k) (h1 : k ≤ 1000000000000000) :
    l_markHistory_l a t r c k = some (a, t, mkR r k, mkC r c k, k + cHist r c) := by
  unfold w_History w_RunS at h
  dsimp only at h
  have q1 := cb_RunS r
  have q2 := cb_ChangeS c
  unfold l_markHistory_l
  rw [mark_RunS (by omega) h0 (by omega), Option.bind_some, mark_ChangeS (by omega) (by dsimp only; omega) (by dsimp only; omega), Option.bind_some]
  show some (_, _, _, _, _) = some (_, _, _, _, _)
  congr 5
  unfold cHist; dsimp only; omega
end Go.V.G

set_option linter.unusedVariables false
set_option linter.unusedSimpArgs false
set_option maxRecDepth 100000
namespace Go.V.G
open Go.V
theorem i64_of {n : Int} (h : Fits (.int .i64) n) : I64 n := by
  have h2 : (Lit.int .i64 n).wf = true := h
  simp [Lit.wf, IntKind.min, IntKind.max, IntKind.bits, IntKind.signed] at h2
  unfold I64; omega
structure FitP (c : List Prt) : Prop where
  l : fit_PartS c
  i : ∀ p ∈ c, I64 p.1 ∧ I64 p.2.1
structure FitH (t : List UInt8) (r : List Rn) (cs : List (List Prt)) : Prop where
  ht : t.length ≤ maxLen
  hr : fit_RunS r
  hc : fit_ChangeS cs
  hi : ∀ c ∈ cs, ∀ p ∈ c, I64 p.1 ∧ I64 p.2.1
theorem fitP_of {e : TypeId} {c : List Prt} (h : Fits (.sl false e (.pair (.int .i64) (.pair (.int .i64) .str))) c) : FitP c :=
  ⟨⟨h.1, fun p hp => (h.2 p hp).2.2⟩, fun p hp => ⟨i64_of (h.2 p hp).1, i64_of (h.2 p hp).2.1⟩⟩
theorem fitH_of {e1 e2 e3 : TypeId} {t : List UInt8} {r : List Rn} {cs : List (List Prt)} (h1 : Fits .str t) (h2 : Fits (.sl false e1 (.pair (.int .i64) (.int .i64))) r)
    (h3 : Fits (.sl false e2 (.sl false e3 (.pair (.int .i64) (.pair (.int .i64) .str)))) cs) : FitH t r cs :=
  ⟨h1, h2.1, ⟨h3.1, fun c hc => (fitP_of (h3.2 c hc)).l⟩, fun c hc => (fitP_of (h3.2 c hc)).i⟩
theorem psum_w : ∀ c : List Prt, w_PartS c = c.length + psum c
  | [] => rfl
  | p :: c => by
    have ih := psum_w c
    simp only [w_PartS, wsum, w_Part, psum, List.length_cons] at ih ⊢
    omega
theorem sm_of {c : List Prt} (h : FitP c) {B : Nat} (hw : w_PartS c ≤ B) : Sm B c := by
  rw [psum_w] at hw
  exact ⟨by omega, by omega, h.i⟩
theorem hb_of {f : Int} {t : List UInt8} {r : List Rn} {cs : List (List Prt)} (h : FitH t r cs) (hw : w_History (f, t, r, cs) ≤ 1048576) : HB t r cs := by
  unfold w_History w_RunS at hw
  dsimp only at hw
  have hl := w_ChangeS_len cs
  refine ⟨by omega, by omega, by omega, fun c hc => sm_of ⟨h.hc.2 c hc, h.hi c hc⟩ ?_⟩
  have := wsum_mem w_PartS hc
  unfold w_ChangeS at hw
  omega
theorem wsum_le {α : Type} {w : α → Nat} {B : Nat} : ∀ {xs : List α}, (∀ x ∈ xs, w x ≤ B) → wsum w xs ≤ xs.length * B
  | [], _ => by simp [wsum]
  | x :: xs, h => by
    have ih := wsum_le (xs := xs) fun y hy => h y (by simp [hy])
    have := h x (by simp)
    simp only [wsum, List.length_cons, Nat.succ_mul]; omega
theorem w_good {c : List Prt} (h : good c = true) : w_PartS c ≤ 480 := by
  have := good_sm h
  have := this.len; have := (good_sm h).put
  rw [psum_w]; omega
theorem w_goods {cs : List (List Prt)} (h : ∀ c ∈ cs, good c = true) (hn : cs.length ≤ 1000) : w_ChangeS cs ≤ 1000000 := by
  have := wsum_le (w := w_PartS) (B := 480) fun c hc => w_good (h c hc)
  unfold w_ChangeS
  omega
theorem w_runs {l : List Rn} {n m : Int} (h : goodRuns l n m = true) : w_RunS l ≤ 120 := by
  obtain ⟨h1, _, h6⟩ := goodRuns_iff.1 h
  have := rlen_le h6.pos
  rw [h6.sum] at this
  unfold w_RunS
  omega
theorem GH.w {f : Int} {t : List UInt8} {r : List Rn} {cs : List (List Prt)} (g : GH f t r cs) : w_History (f, t, r, cs) ≤ 2000000 := by
  have := g.ht; have := g.hn; have := g.hf
  have h1 := w_goods (chn_mem g.hc) (by omega)
  have h2 := w_runs g.hr
  unfold w_History
  dsimp only
  omega
theorem lft_neg {n : Nat} {l : Int} (h : ¬ lft l n < 0) : ((n : Nat) : Int) ≤ l := by
  unfold lft at h
  split at h <;> omega
theorem codeH_zero {f a b : Int} {t : List UInt8} {r : List Rn} {cs : List (List Prt)} (h : codeH f t r cs a b = 0) : GH f t r cs ∧ f ≤ a ∧ a ≤ b ∧ b ≤ f + cs.length := by
  unfold codeH at h
  split at h
  · rename_i hg
    split at h
    · rename_i hx; exact ⟨goodH_iff.1 hg, hx⟩
    · cases h
  · cases h
end Go.V.G

set_option linter.unusedVariables false
set_option linter.unusedSimpArgs false
set_option maxRecDepth 100000
namespace Go.V.G
open Go.V
section
variable {f : Int} {t : List UInt8} {r : List Rn} {cs : List (List Prt)}
def seg (cs : List (List Prt)) (a b : Int) : List (List Prt) := (cs.drop a.toNat).take (b.toNat - a.toNat)
end
end Go.V.G

set_option linter.unusedVariables false
set_option linter.unusedSimpArgs false
set_option maxRecDepth 100000
namespace Go.V.G
open Go.V
section
variable {f : Int} {t : List UInt8} {r : List Rn} {cs : List (List Prt)}
theorem codeH_cases (f a b : Int) (t : List UInt8) (r : List Rn) (cs : List (List Prt)) : codeH f t r cs a b = 0 ∨ codeH f t r cs a b = 1 ∨ codeH f t r cs a b = 2 := by
  unfold codeH
  split
  · split
    · exact .inl rfl
    · exact .inr (.inr rfl)
  · exact .inr (.inl rfl)
end
end Go.V.G

set_option linter.unusedVariables false
set_option linter.unusedSimpArgs false
set_option maxRecDepth 100000
namespace Go.V.G
open Go.V
def Byt (l : List Int) : Prop := ∀ x ∈ l, 0 ≤ x ∧ x ≤ 255
theorem u8_byt (n : Int) : 0 ≤ IntKind.wrap .u8 n ∧ IntKind.wrap .u8 n ≤ 255 := by rw [IntKind.wrap_u8]; omega
theorem Byt.append {a b : List Int} (h : Byt a) (k : Byt b) : Byt (a ++ b) := fun x hx => (List.mem_append.1 hx).elim (h x) (k x)
theorem bytesOf_byt (s : List UInt8) : Byt (bytesOf s) := fun x hx => by
  obtain ⟨b, _, rfl⟩ := List.mem_map.1 hx
  have := b.toNat_lt
  omega
theorem bytesOf_len (s : List UInt8) : (bytesOf s).length = s.length := by simp [bytesOf]
def encR (l : List Rn) : List Int := l.flatMap fun r => [IntKind.wrap .u8 r.1, IntKind.wrap .u8 r.2]
theorem encR_len : ∀ l : List Rn, (encR l).length = 2 * l.length
  | [] => rfl
  | r :: l => by
    have := encR_len l
    simp only [encR, List.flatMap_cons, List.length_append, List.length_cons, List.length_nil] at this ⊢
    omega
theorem encR_byt (l : List Rn) : Byt (encR l) := fun x hx => by
  obtain ⟨r, _, h⟩ := List.mem_flatMap.1 hx
  simp only [List.mem_cons, List.not_mem_nil, or_false] at h
  rcases h with rfl | rfl <;> exact u8_byt _
theorem encR_take {l : List Rn} {i : Nat} (h : i < l.length) : encR (l.take (i + 1)) = encR (l.take i) ++ [IntKind.wrap .u8 l[i].1, IntKind.wrap .u8 l[i].2] := by
  unfold encR; rw [List.take_succ_eq_append_getElem h, List.flatMap_append]; simp
theorem i_writeRuns_eq {l : List Rn} (hl : l.length ≤ 1000000) : i_writeRuns l = some (encR l) := by
  unfold i_writeRuns
  have := loop_run i_writeRuns_L1 (fun i => (encR (l.take i), l, ((l.length : Nat) : Int), ((i : Nat) : Int))) l.length (encR l) (by
    intro i hi
    have hlt : ((i : Nat) : Int) < ((l.length : Nat) : Int) := by omega
    have hr : ∀ x y : Int, roomFor (List.length (encR (l.take i)) + List.length ([x, y] : List Int)) 1 = true := fun x y => room8 (by rw [encR_len, List.length_take]; simp; omega) (by omega)
    unfold i_writeRuns_L1
    simp only [hlt, decide_true, if_true, show (0 : Int) ≤ ((i : Nat) : Int) from by omega, Int.toNat_natCast, List.getElem?_eq_getElem hi, Option.bind_some, hr, idx_succ (show l.length ≤ 1099511627776 by omega) hi, encR_take hi]) (by simp [i_writeRuns_L1])
  have e : loopG i_writeRuns_L1 ([], l, ((l.length : Nat) : Int), 0) = some (encR l) := by simpa [encR] using this
  rw [e]; rfl
theorem s_Write9_eq {l : List Rn} (hl : l.length ≤ 1000000) : s_l9Write l = some (encR l) := by
  unfold s_l9Write
  have := loop_run s_l9Write_L1 (fun i => (encR (l.take i), l, ((l.length : Nat) : Int), ((i : Nat) : Int))) l.length (encR l) (by
    intro i hi
    have hlt : ((i : Nat) : Int) < ((l.length : Nat) : Int) := by omega
    have hr : ∀ x y : Int, roomFor (List.length (encR (l.take i)) + List.length ([x, y] : List Int)) 1 = true := fun x y => room8 (by rw [encR_len, List.length_take]; simp; omega) (by omega)
    unfold s_l9Write_L1
    simp only [hlt, decide_true, if_true, show (0 : Int) ≤ ((i : Nat) : Int) from by omega, Int.toNat_natCast, List.getElem?_eq_getElem hi, Option.bind_some, hr, idx_succ (show l.length ≤ 1099511627776 by omega) hi, encR_take hi]) (by simp [s_l9Write_L1])
  have e : loopG s_l9Write_L1 ([], l, ((l.length : Nat) : Int), 0) = some (encR l) := by simpa [encR] using this
  rw [e]; rfl
def dig1 (h x : Int) : Int := IntKind.wrap .u32 ((IntKind.wrap .u32 (((BitVec.ofInt (IntKind.bits .u32) h ^^^ BitVec.ofInt (IntKind.bits .u32) (IntKind.wrap .u32 x)).toNat : Int))) * 16777619)
theorem dig1_in (h x : Int) : 0 ≤ dig1 h x ∧ dig1 h x < 4294967296 := by unfold dig1; rw [IntKind.wrap_u32]; omega
theorem dig1_64 {h x : Int} (h0 : 0 ≤ h) (h1 : h < 4294967296) (x0 : 0 ≤ x) (x1 : x ≤ 255) :
    Int.tmod (IntKind.wrap .u64 ((IntKind.wrap .u64 (((BitVec.ofInt (IntKind.bits .u64) h ^^^ BitVec.ofInt (IntKind.bits .u64) (IntKind.wrap .u64 x)).toNat : Int))) * 16777619)) 4294967296 = dig1 h x := by
  unfold dig1
  obtain ⟨a, rfl⟩ := Int.eq_ofNat_of_zero_le h0
  obtain ⟨b, rfl⟩ := Int.eq_ofNat_of_zero_le x0
  have ha : a < 4294967296 := by omega
  have hb : b < 4294967296 := by omega
  have hx := Nat.xor_lt_two_pow (n := 32) (show a < 2 ^ 32 by omega) (show b < 2 ^ 32 by omega)
  rw [wu64 (n := ((b : Nat) : Int)) (by omega) (by omega), IntKind.wrap_u32 ((b : Nat) : Int), show ((b : Nat) : Int) % 4294967296 = ((b : Nat) : Int) by omega]
  have e64 : ((BitVec.ofInt (IntKind.bits .u64) ((a : Nat) : Int) ^^^ BitVec.ofInt (IntKind.bits .u64) ((b : Nat) : Int)).toNat) = a ^^^ b := by
    rw [BitVec.toNat_xor, BitVec.ofInt_natCast, BitVec.ofInt_natCast, BitVec.toNat_ofNat, BitVec.toNat_ofNat, show IntKind.bits .u64 = 64 from rfl, Nat.mod_eq_of_lt (by omega), Nat.mod_eq_of_lt (by omega)]
  have e32 : ((BitVec.ofInt (IntKind.bits .u32) ((a : Nat) : Int) ^^^ BitVec.ofInt (IntKind.bits .u32) ((b : Nat) : Int)).toNat) = a ^^^ b := by
    rw [BitVec.toNat_xor, BitVec.ofInt_natCast, BitVec.ofInt_natCast, BitVec.toNat_ofNat, BitVec.toNat_ofNat, show IntKind.bits .u32 = 32 from rfl, Nat.mod_eq_of_lt (by omega), Nat.mod_eq_of_lt (by omega)]
  rw [e64, e32]
  generalize a ^^^ b = m at hx
  rw [wu64 (n := ((m : Nat) : Int)) (by omega) (by omega), IntKind.wrap_u32 ((m : Nat) : Int), show ((m : Nat) : Int) % 4294967296 = ((m : Nat) : Int) by omega, wu64 (by omega) (by omega), IntKind.wrap_u32, Int.tmod_eq_emod_of_nonneg (by omega)]
def dig (h : Int) (b : List Int) : Int := b.foldl dig1 h
theorem dig_take {b : List Int} {h : Int} {i : Nat} (hi : i < b.length) : dig h (b.take (i + 1)) = dig1 (dig h (b.take i)) b[i] := by
  unfold dig; rw [List.take_succ_eq_append_getElem hi, List.foldl_append]; rfl
theorem dig_in : ∀ (b : List Int) {h : Int}, 0 ≤ h ∧ h < 4294967296 → 0 ≤ dig h b ∧ dig h b < 4294967296
  | [], _, h => h
  | x :: b, h, _ => dig_in b (dig1_in h x)
theorem i_digest_eq {b : List Int} (hl : b.length ≤ 1099511627776) (h : Int) : i_digest h b = some (dig h b) := by
  unfold i_digest
  have := loop_run i_digest_L1 (fun i => (dig h (b.take i), b, ((b.length : Nat) : Int), ((i : Nat) : Int))) b.length (dig h b) (by
    intro i hi
    have hlt : ((i : Nat) : Int) < ((b.length : Nat) : Int) := by omega
    unfold i_digest_L1
    simp only [hlt, decide_true, if_true, show (0 : Int) ≤ ((i : Nat) : Int) from by omega, Int.toNat_natCast, List.getElem?_eq_getElem hi, Option.bind_some, idx_succ hl hi, dig_take hi]
    rfl) (by simp [i_digest_L1])
  have e : loopG i_digest_L1 (h, b, ((b.length : Nat) : Int), 0) = some (dig h b) := by simpa [dig] using this
  rw [e]; rfl
theorem i_DigestOf_eq {b : List Int} (hl : b.length ≤ 1099511627776) : i_DigestOf b = some (dig 2166136261 b) := by
  unfold i_DigestOf; rw [i_digest_eq hl]; rfl
theorem s_DigestOf_eq {b : List Int} (hl : b.length ≤ 1099511627776) (hb : Byt b) : s_DigestOf b = some (dig 2166136261 b) := by
  unfold s_DigestOf
  have := loop_run s_DigestOf_L1 (fun i => (dig 2166136261 (b.take i), b, ((b.length : Nat) : Int), ((i : Nat) : Int))) b.length (dig 2166136261 b) (by
    intro i hi
    have hlt : ((i : Nat) : Int) < ((b.length : Nat) : Int) := by omega
    have hd := dig_in (b.take i) (h := 2166136261) (by omega)
    have hx := hb _ (List.getElem_mem hi)
    unfold s_DigestOf_L1
    simp only [hlt, decide_true, if_true, show (0 : Int) ≤ ((i : Nat) : Int) from by omega, Int.toNat_natCast, List.getElem?_eq_getElem hi, Option.bind_some, show decide (¬ (4294967296 : Int) = 0) = true from rfl, idx_succ hl hi, dig_take hi, dig1_64 hd.1 hd.2 hx.1 hx.2]) (by simp [s_DigestOf_L1])
  have e : loopG s_DigestOf_L1 (2166136261, b, ((b.length : Nat) : Int), 0) = some (dig 2166136261 b) := by simpa [dig] using this
  have hd := dig_in b (h := 2166136261) (by omega)
  rw [e, Option.bind_some, IntKind.wrap_u32]
  congr 1; omega
def tw (n : Nat) : List Int := [IntKind.wrap .u8 (((n / 256 : Nat)) : Int), IntKind.wrap .u8 ((n : Nat) : Int)]
theorem tw_byt (n : Nat) : Byt (tw n) := fun x hx => by
  simp only [tw, List.mem_cons, List.not_mem_nil, or_false] at hx
  rcases hx with rfl | rfl <;> exact u8_byt _
theorem i_two_eq (n : Nat) : i_two ((n : Nat) : Int) = some (tw n) := by
  unfold i_two tw
  have e : Int.fdiv ((n : Nat) : Int) (2 ^ (min (Int.toNat 8) (IntKind.bits .i64))) = ((n / 256 : Nat) : Int) := by
    rw [show min (Int.toNat 8) (IntKind.bits .i64) = 8 from rfl, Int.fdiv_eq_ediv_of_nonneg _ (by decide)]
    omega
  rw [e]; rfl
theorem s_two_eq {n : Nat} (h : n ≤ 1099511627776) : ([IntKind.wrap .u8 (IntKind.wrap .i64 (Int.tdiv ((n : Nat) : Int) 256)), IntKind.wrap .u8 ((n : Nat) : Int)] : List Int) = tw n := by
  unfold tw
  rw [Int.tdiv_eq_ediv_of_nonneg (by omega), w64 (by omega) (by omega)]
  congr 2
def fourOf (d : Int) : List Int := [IntKind.wrap .u8 (Int.fdiv d (2 ^ (min (Int.toNat 24) (IntKind.bits .u32)))), IntKind.wrap .u8 (Int.fdiv d (2 ^ (min (Int.toNat 16) (IntKind.bits .u32)))), IntKind.wrap .u8 (Int.fdiv d (2 ^ (min (Int.toNat 8) (IntKind.bits .u32)))), IntKind.wrap .u8 d]
theorem i_four_eq (d : Int) : i_four d = some (fourOf d) := rfl
def encC (cs : List (List Prt)) : List Int := cs.flatMap fun c => tw (enc c).length ++ enc c
theorem encC_take {cs : List (List Prt)} {i : Nat} (h : i < cs.length) : encC (cs.take (i + 1)) = (encC (cs.take i) ++ tw (enc cs[i]).length) ++ enc cs[i] := by
  unfold encC; rw [List.take_succ_eq_append_getElem h, List.flatMap_append]; simp
theorem enc_small {c : List Prt} (h : good c = true) : (enc c).length ≤ 720 := by
  have := (good_sm h).len; have := (good_sm h).put
  rw [enc_len]; omega
theorem encC_len : ∀ {cs : List (List Prt)}, (∀ c ∈ cs, good c = true) → (encC cs).length ≤ 722 * cs.length
  | [], _ => Nat.zero_le _
  | c :: cs, h => by
    have := encC_len (cs := cs) fun x hx => h x (by simp [hx])
    have h2 := enc_small (h c (by simp))
    simp only [encC, List.flatMap_cons, List.length_append, List.length_cons] at this ⊢
    have : (tw (enc c).length).length = 2 := rfl
    omega
theorem enc_byt {c : List Prt} (hg : good c = true) : Byt (enc c) := fun x hx => by
  obtain ⟨p, hp, h⟩ := List.mem_flatMap.1 hx
  obtain ⟨q1, q2⟩ := part_small hg hp
  have hk := kd_range p
  simp only [enc1, List.mem_append, List.mem_cons, List.not_mem_nil, or_false] at h
  rcases h with (rfl | rfl) | h
  · omega
  · omega
  · exact bytesOf_byt _ x h
theorem encC_byt {cs : List (List Prt)} (h : ∀ c ∈ cs, good c = true) : Byt (encC cs) := fun x hx => by
  obtain ⟨c, hc, h2⟩ := List.mem_flatMap.1 hx
  exact (tw_byt _).append (enc_byt (h c hc)) x h2
def bun0 (a b : Int) (t : List UInt8) (l : List Rn) : List Int := (([66, 78, 68, 49, IntKind.wrap .u8 a, IntKind.wrap .u8 b, IntKind.wrap .u8 ((t.length : Nat) : Int)] ++ bytesOf t) ++ tw (encR l).length) ++ encR l
theorem bun0_byt (a b : Int) (t : List UInt8) (l : List Rn) : Byt (bun0 a b t l) := by
  refine Byt.append (Byt.append (Byt.append (fun x hx => ?_) (bytesOf_byt t)) (tw_byt _)) (encR_byt l)
  simp only [List.mem_cons, List.not_mem_nil, or_false] at hx
  rcases hx with rfl | rfl | rfl | rfl | rfl | rfl | rfl
  · omega
  · omega
  · omega
  · omega
  · exact u8_byt _
  · exact u8_byt _
  · exact u8_byt _
def bun (a b : Int) (t : List UInt8) (l : List Rn) (cs : List (List Prt)) : List Int := bun0 a b t l ++ encC cs
def bundleOf (a b : Int) (t : List UInt8) (l : List Rn) (cs : List (List Prt)) : List Int := bun a b t l cs ++ fourOf (dig 2166136261 (bun a b t l cs))
section
variable {f : Int} {t : List UInt8} {r : List Rn} {cs : List (List Prt)}
def bundleH (f : Int) (t : List UInt8) (r : List Rn) (cs : List (List Prt)) (a b : Int) : List Int :=
  bundleOf a b (txt t (cs.take (a - f).toNat)) (blm (f + 1) r (cs.take (a - f).toNat)) (seg cs (a - f) (b - f))
theorem seg_good (g : GH f t r cs) (a b : Int) : ∀ c ∈ seg cs a b, good c = true := fun c hc => chn_mem g.hc c (List.mem_of_mem_drop (List.mem_of_mem_take hc))
theorem seg_len (cs : List (List Prt)) (a b : Int) : (seg cs a b).length ≤ cs.length := by unfold seg; rw [List.length_take, List.length_drop]; omega
theorem bun0_len {a b : Int} {t : List UInt8} {l : List Rn} : (bun0 a b t l).length = 9 + t.length + 2 * l.length := by
  unfold bun0
  simp only [List.length_append, bytesOf_len, encR_len, List.length_cons, List.length_nil, tw]
  omega
theorem i_bundle_loop {b0 : List Int} {ds : List (List Prt)} (hb : b0.length ≤ 100000) (hn : ds.length ≤ 1000) (hg : ∀ c ∈ ds, good c = true) : loopG i_bundle_L1 (b0, ds, ((ds.length : Nat) : Int), 0) = some (b0 ++ encC ds) := by
  have := loop_run i_bundle_L1 (fun i => (b0 ++ encC (ds.take i), ds, ((ds.length : Nat) : Int), ((i : Nat) : Int))) ds.length (b0 ++ encC ds) (by
    intro i hi
    have hlt : ((i : Nat) : Int) < ((ds.length : Nat) : Int) := by omega
    have gi := hg _ (List.getElem_mem hi)
    have l1 := encC_len (cs := ds.take i) fun c hc => hg c (List.mem_of_mem_take hc)
    have l2 := enc_small gi
    rw [List.length_take] at l1
    have ht : (tw (enc ds[i]).length).length = 2 := rfl
    have r1 : roomFor (List.length (b0 ++ encC (ds.take i)) + List.length (tw (enc ds[i]).length)) 1 = true := room8 (by rw [List.length_append]; omega) (by omega)
    have r2 : roomFor (List.length ((b0 ++ encC (ds.take i)) ++ tw (enc ds[i]).length) + List.length (enc ds[i])) 1 = true := room8 (by rw [List.length_append, List.length_append]; omega) (by omega)
    unfold i_bundle_L1
    simp only [hlt, decide_true, if_true, show (0 : Int) ≤ ((i : Nat) : Int) from by omega, Int.toNat_natCast, List.getElem?_eq_getElem hi, Option.bind_some, i_write_eq (good_sm gi) (by omega) gi, i_two_eq, r1, r2, idx_succ (show ds.length ≤ 1099511627776 by omega) hi, encC_take hi]
    simp only [List.append_assoc]) (by simp [i_bundle_L1])
  simpa [encC] using this
theorem s_bundle_loop {b0 : List Int} {ds : List (List Prt)} (hb : b0.length ≤ 100000) (hn : ds.length ≤ 1000) (hg : ∀ c ∈ ds, good c = true) : loopG s_ExportRange_L1 (b0, ds, ((ds.length : Nat) : Int), 0) = some (b0 ++ encC ds) := by
  have := loop_run s_ExportRange_L1 (fun i => (b0 ++ encC (ds.take i), ds, ((ds.length : Nat) : Int), ((i : Nat) : Int))) ds.length (b0 ++ encC ds) (by
    intro i hi
    have hlt : ((i : Nat) : Int) < ((ds.length : Nat) : Int) := by omega
    have gi := hg _ (List.getElem_mem hi)
    have l1 := encC_len (cs := ds.take i) fun c hc => hg c (List.mem_of_mem_take hc)
    have l2 := enc_small gi
    rw [List.length_take] at l1
    have ht : (tw (enc ds[i]).length).length = 2 := rfl
    have r1 : roomFor (List.length (b0 ++ encC (ds.take i)) + List.length (tw (enc ds[i]).length)) 1 = true := room8 (by rw [List.length_append]; omega) (by omega)
    have r2 : roomFor (List.length ((b0 ++ encC (ds.take i)) ++ tw (enc ds[i]).length) + List.length (enc ds[i])) 1 = true := room8 (by rw [List.length_append, List.length_append]; omega) (by omega)
    unfold s_ExportRange_L1
    simp only [hlt, decide_true, if_true, show (0 : Int) ≤ ((i : Nat) : Int) from by omega, Int.toNat_natCast, List.getElem?_eq_getElem hi, Option.bind_some, s_write_eq (good_sm gi) (by omega) gi, s_two_eq (show (enc ds[i]).length ≤ 1099511627776 by omega), show decide (¬ (256 : Int) = 0) = true from rfl, r1, r2, idx_succ (show ds.length ≤ 1099511627776 by omega) hi, encC_take hi]
    simp only [List.append_assoc]) (by simp [s_ExportRange_L1])
  simpa [encC] using this
theorem bundle_facts (g : GH f t r cs) {a b : Int} (h1 : f ≤ a) (h2 : a ≤ b) (h3 : b ≤ f + cs.length) : (txt t (cs.take (a - f).toNat)).length ≤ 120 ∧ (blm (f + 1) r (cs.take (a - f).toNat)).length ≤ 120 := by
  have ht := text_in g (a - f).toNat
  have hb := w_runs (blm_good g (a - f).toNat)
  unfold w_RunS at hb
  omega
theorem i_bundle_eq (g : GH f t r cs) {a b : Int} (h1 : f ≤ a) (h2 : a ≤ b) (h3 : b ≤ f + cs.length) : i_bundle f t r cs a b = some (bundleH f t r cs a b) := by
  have := g.hf; have := g.hn
  have w1 : IntKind.wrap .i64 (a - f) = a - f := w64 (by omega) (by omega)
  have w2 : IntKind.wrap .i64 (b - f) = b - f := w64 (by omega) (by omega)
  obtain ⟨l1, l2⟩ := bundle_facts g h1 h2 h3
  unfold i_bundle bundleH
  rw [i_text_eq g h1 (by omega), Option.bind_some, i_blame_eq g h1 (by omega), Option.bind_some]
  generalize txt t (cs.take (a - f).toNat) = tx at l1
  generalize blm (f + 1) r (cs.take (a - f).toNat) = bl at l2
  have sl := seg_len cs (a - f) (b - f)
  have sg := seg_good g (a - f) (b - f)
  have lp := i_bundle_loop (b0 := bun0 a b tx bl) (by rw [bun0_len]; omega) (show (seg cs (a - f) (b - f)).length ≤ 1000 by omega) sg
  have el := encC_len sg
  have bl0 := bun0_len (a := a) (b := b) (t := tx) (l := bl)
  have bn : (bun a b tx bl (seg cs (a - f) (b - f))).length ≤ 1000000 := by unfold bun; rw [List.length_append]; omega
  rw [i_writeRuns_eq (by omega), Option.bind_some, i_two_eq, w1, w2]
  refine Ok.eq (Ok.yes (room8 (by simp only [List.length_cons, List.length_nil, bytesOf_len]; omega) (by omega)) (Ok.bind_eq rfl (Ok.yes (room8 (by simp only [List.length_append, List.length_cons, List.length_nil, bytesOf_len, tw]; omega) (by omega)) (Ok.yes (room8 (by simp only [List.length_append, List.length_cons, List.length_nil, bytesOf_len, encR_len, tw]; omega) (by omega))
    (Ok.yes (by simp; omega) (Ok.yes (by simp; omega) (Ok.yes (by simp; omega) (Ok.yes (by simp) (Ok.bind_eq lp (Ok.bind_eq (i_DigestOf_eq (show (bun a b tx bl (seg cs (a - f) (b - f))).length ≤ 1099511627776 by omega)) (Ok.bind_eq (i_four_eq _) (Ok.yes (room8 (show (bun a b tx bl (seg cs (a - f) (b - f))).length + 4 ≤ 1099511627776 by omega) (by omega)) (Ok.mk rfl)))))))))))))
def exportOf (f : Int) (t : List UInt8) (r : List Rn) (cs : List (List Prt)) (a b : Int) : List Int × Int :=
  if codeH f t r cs a b = 1 then ([], 1) else if codeH f t r cs a b = 2 then ([], 2) else if 20000 < (((bundleH f t r cs a b).length : Nat) : Int) then ([], 6) else (bundleH f t r cs a b, 0)
theorem i_export_eq (h : HB t r cs) (f a b : Int) : i_ExportRange f t r cs a b = some (exportOf f t r cs a b) := by
  unfold i_ExportRange exportOf
  rw [i_code_eq h, Option.bind_some]
  rcases codeH_cases f a b t r cs with h0 | h0 | h0
  · obtain ⟨g, h1, h2, h3⟩ := codeH_zero h0
    rw [h0, if_neg (by simp), if_neg (by simp), if_neg (by simp), if_neg (by simp), i_bundle_eq g h1 h2 h3, Option.bind_some]
    by_cases hl : 20000 < (((bundleH f t r cs a b).length : Nat) : Int)
    · rw [if_pos (by simpa using hl), if_pos hl]
    · rw [if_neg (by simpa using hl), if_neg hl]
  · rw [h0]; rfl
  · rw [h0]; rfl
theorem s_export_eq (h : HB t r cs) (f a b : Int) : s_ExportRange f t r cs a b = some (exportOf f t r cs a b) := by
  unfold s_ExportRange exportOf
  rw [s_range_eq h, Option.bind_some]
  rcases codeH_cases f a b t r cs with h0 | h0 | h0
  · obtain ⟨g, h1, h2, h3⟩ := codeH_zero h0
    have := g.hf; have := g.hn
    have w1 : IntKind.wrap .i64 (a - f) = a - f := w64 (by omega) (by omega)
    have w2 : IntKind.wrap .i64 (b - f) = b - f := w64 (by omega) (by omega)
    obtain ⟨l1, l2⟩ := bundle_facts g h1 h2 h3
    rw [h0, if_neg (by simp), if_neg (by simp), if_neg (by simp), if_neg (by simp), s_text_eq g h1 (by omega), Option.bind_some, s_blame_eq g h1 (by omega), Option.bind_some]
    unfold bundleH
    generalize txt t (cs.take (a - f).toNat) = tx at l1
    generalize blm (f + 1) r (cs.take (a - f).toNat) = bl at l2
    have sl := seg_len cs (a - f) (b - f)
    have sg := seg_good g (a - f) (b - f)
    have lp := s_bundle_loop (b0 := bun0 a b tx bl) (by rw [bun0_len]; omega) (show (seg cs (a - f) (b - f)).length ≤ 1000 by omega) sg
    have el := encC_len sg
    have bl0 := bun0_len (a := a) (b := b) (t := tx) (l := bl)
    have bn : (bun a b tx bl (seg cs (a - f) (b - f))).length ≤ 1000000 := by unfold bun; rw [List.length_append]; omega
    have bb : Byt (bun a b tx bl (seg cs (a - f) (b - f))) := (bun0_byt _ _ _ _).append (encC_byt sg)
    rw [s_Write9_eq (by omega), Option.bind_some, s_two_eq (show (encR bl).length ≤ 1099511627776 by rw [encR_len]; omega), w1, w2]
    refine Ok.eq (Ok.yes (room8 (by simp only [List.length_cons, List.length_nil, bytesOf_len]; omega) (by omega)) (Ok.yes rfl (Ok.yes (room8 (by simp only [List.length_append, List.length_cons, List.length_nil, bytesOf_len, tw]; omega) (by omega)) (Ok.yes (room8 (by simp only [List.length_append, List.length_cons, List.length_nil, bytesOf_len, encR_len, tw]; omega) (by omega))
      (Ok.yes (by simp; omega) (Ok.yes (by simp; omega) (Ok.yes (by simp; omega) (Ok.yes (by simp) (Ok.bind_eq lp (Ok.bind_eq (s_DigestOf_eq (show (bun a b tx bl (seg cs (a - f) (b - f))).length ≤ 1099511627776 by omega) bb) (Ok.yes rfl (Ok.yes rfl (Ok.yes rfl (Ok.yes (room8 (show (bun a b tx bl (seg cs (a - f) (b - f))).length + 4 ≤ 1099511627776 by omega) (by omega)) ?_))))))))))))))
    show Ok (if decide (20000 < (((bundleOf a b tx bl (seg cs (a - f) (b - f))).length : Nat) : Int)) = true then some ([], 6) else some (bundleOf a b tx bl (seg cs (a - f) (b - f)), 0)) _
    by_cases hl : 20000 < (((bundleOf a b tx bl (seg cs (a - f) (b - f))).length : Nat) : Int)
    · rw [if_pos (by simpa using hl), if_pos hl]; exact Ok.mk rfl
    · rw [if_neg (by simpa using hl), if_neg hl]; exact Ok.mk rfl
  · rw [h0]; rfl
  · rw [h0]; rfl
theorem exportOf_len (f a b : Int) (t : List UInt8) (r : List Rn) (cs : List (List Prt)) : (exportOf f t r cs a b).1.length ≤ 20000 := by
  unfold exportOf
  split
  · exact Nat.zero_le _
  · split
    · exact Nat.zero_le _
    · split
      · exact Nat.zero_le _
      · rename_i h; dsimp only; omega
end
end Go.V.G

set_option linter.unusedVariables false
set_option linter.unusedSimpArgs false
set_option maxRecDepth 100000
namespace Go.V.G
open Go.V
def w_ByteS (xs : List (Int)) : Nat := xs.length
theorem w_ByteS_len (xs : List (Int)) : xs.length ≤ w_ByteS xs := by unfold w_ByteS; omega
theorem eq_ByteS {xs : List (Int)} (h : w_ByteS xs ≤ 1099511627776) : l_eqByteS xs xs = some true := by
  have hl := w_ByteS_len xs
  unfold l_eqByteS
  rw [if_neg (by simp), eq_loop l_eqByteS_L1 xs (by
    intro i hi
    have hc : ((i : Nat) : Int) < ((xs.length : Nat) : Int) := by omega
    skip
    unfold l_eqByteS_L1
    simp only [hc, decide_true, if_true, show (0 : Int) ≤ ((i : Nat) : Int) from by omega, Int.toNat_natCast, List.getElem?_eq_getElem hi, Option.bind_some, ixS (show xs.length ≤ 4611686018427387904 by omega) hi, Bool.not_true, Bool.false_eq_true, if_false, not_true_eq_false, decide_false]) (by simp [l_eqByteS_L1])]
  rfl
end Go.V.G

set_option linter.unusedVariables false
set_option linter.unusedSimpArgs false
set_option maxRecDepth 100000
namespace Go.V.G
open Go.V
theorem n1 : ((1 : Nat) : Int) = 1 := rfl
theorem n4 : ((4 : Nat) : Int) = 4 := rfl
def c_ByteS : Int → Nat := fun _ => 1
def m_ByteS : Int → Int → Int := fun _ k => IntKind.wrap .u8 k
theorem cb_ByteS : ∀ xs : List Int, wsum c_ByteS xs = xs.length
  | [] => rfl
  | x :: xs => by simp only [wsum, cb_ByteS xs, c_ByteS, List.length_cons]; omega
theorem mark_ByteS {xs : List Int} (hl : xs.length ≤ 1099511627776) {k : Int} (h0 : 0 ≤ k) (h1 : k + wsum c_ByteS xs ≤ 4611686018427387904) : l_markByteS_l xs k = some (mks m_ByteS c_ByteS xs k, k + wsum c_ByteS xs) := by
  unfold l_markByteS_l
  rw [mark_loop l_markByteS_l_L1 m_ByteS c_ByteS xs (by
    intro ys i hi k hlen hmem h0 hk
    have hc : ((i : Nat) : Int) < ((ys.length : Nat) : Int) := by omega
    simp only [c_ByteS] at hk
    have w1 : IntKind.wrap .i64 (k + 1) = k + 1 := w64 (by omega) (by omega)
    unfold l_markByteS_l_L1
    simp only [hc, decide_true, if_true, show (0 : Int) ≤ ((i : Nat) : Int) from by omega, Int.toNat_natCast, List.getElem?_eq_getElem hi, Option.bind_some, Nat.zero_add, ixS (show ys.length ≤ 4611686018427387904 by omega) hi, w1, m_ByteS, c_ByteS, n1]) (by intro ys k; simp [l_markByteS_l_L1]) h0 h1]
  rfl
theorem held_ByteS {xs : List Int} (hl : xs.length ≤ 1099511627776) {k : Int} (h0 : 0 ≤ k) (h1 : k + wsum c_ByteS xs ≤ 4611686018427387904) : l_heldByteS (mks m_ByteS c_ByteS xs k) k = some (k + wsum c_ByteS xs) := by
  unfold l_heldByteS
  rw [held_loop l_heldByteS_L1 m_ByteS c_ByteS xs (by
    intro ys i hi x k hlen hmem hx h0 hk
    have hc : ((i : Nat) : Int) < ((ys.length : Nat) : Int) := by omega
    simp only [c_ByteS] at hk
    have w1 : IntKind.wrap .i64 (k + 1) = k + 1 := w64 (by omega) (by omega)
    unfold l_heldByteS_L1
    simp only [hc, decide_true, if_true, show (0 : Int) ≤ ((i : Nat) : Int) from by omega, Int.toNat_natCast, List.getElem?_eq_getElem hi, Option.bind_some, hx, ixS (show ys.length ≤ 4611686018427387904 by omega) hi, w1, m_ByteS, c_ByteS, n1, not_true_eq_false, decide_false, Bool.false_eq_true, if_false]) (by intro ys k; simp [l_heldByteS_L1]) h0 h1]
  rfl
end Go.V.G

set_option linter.unusedVariables false
set_option linter.unusedSimpArgs false
set_option maxRecDepth 100000
namespace Go.V.G
open Go.V
theorem exportRange_exact {t : List UInt8} {r : List Rn} {cs : List (List Prt)} (h : FitH t r cs) (f : Int) (a b : Int) : l_FnExactExportRange f t r cs a b = some true := by
  unfold l_FnExactExportRange
  rw [sz_History (a := f) ⟨h.ht, h.hr, h.hc⟩ (by omega) (by omega), Option.bind_some]
  by_cases hs : lft 1048576 (w_History (f, t, r, cs)) < 0
  · rw [if_pos (by simpa using hs)]
  · rw [if_neg (by simpa using hs)]
    have hw := lft_neg hs
    have hb := hb_of (f := f) h (by omega)
    have hz1 := s_export_eq hb f a b
    have hz2 := i_export_eq hb f a b
    have hzw : (exportOf f t r cs a b).1.length ≤ 20000 := exportOf_len f a b t r cs
    generalize exportOf f t r cs a b = z at hz1 hz2 hzw
    have hto : l_toHistory f t r cs = some (f, t, r, cs) := to_History (by omega)
    have heq : l_eqHistory f t r cs f t r cs = some true := eq_History (by omega)
    have hmk : l_markHistory_l f t r cs 1 = _ := mark_History (by omega) (by omega) (by omega)
    have hn : ¬ ((1 : Int) + ((cHist r cs : Nat) : Int) < 0) := by omega
    have hq : l_eqByteS z.1 z.1 = some true := eq_ByteS (by unfold w_ByteS; omega)
    have hcz := cb_ByteS z.1
    have hm : l_markByteS_l z.1 1 = _ := mark_ByteS (xs := z.1) (by omega) (by omega) (by omega)
    have hh : l_heldByteS (mks m_ByteS c_ByteS z.1 1) 1 = _ := held_ByteS (xs := z.1) (by omega) (by omega) (by omega)
    have hn2 : ¬ ((1 : Int) + ((wsum c_ByteS z.1 : Nat) : Int) < 0) := by omega
    simp only [hto, hz1, hz2, heq, hmk, hn, hq, hm, hh, hn2, Option.bind_some, Bool.not_true, Bool.false_eq_true, if_false, not_true_eq_false, decide_false]
end Go.V.G
namespace Go.Proofs.Ytcfbfpipfalieaa
open Go.V
theorem pure_FnExactExportRange {e1 e2 e3 : TypeId} (x0 : Int) (x1 : List UInt8) (x2 : List G.Rn) (x3 : List (List G.Prt)) (x4 : Int) (x5 : Int)
    (g0 : ∀ l ∈ ([⟨.int .i64, x0⟩, ⟨.str, x1⟩, ⟨.sl false e1 (.pair (.int .i64) (.int .i64)), x2⟩, ⟨.sl false e2 (.sl false e3 (.pair (.int .i64) (.pair (.int .i64) .str))), x3⟩] : List ALeaf), Fits l.1 l.2) (g1 : Fits (.int .i64) x4) (g2 : Fits (.int .i64) x5) : G.l_FnExactExportRange x0 x1 x2 x3 x4 x5 = some true := by
  have h1 := g0 ⟨.str, x1⟩ (by simp)
  have h2 := g0 ⟨.sl false e1 (.pair (.int .i64) (.int .i64)), x2⟩ (by simp)
  have h3 := g0 ⟨.sl false e2 (.sl false e3 (.pair (.int .i64) (.pair (.int .i64) .str))), x3⟩ (by simp)
  exact G.exportRange_exact (G.fitH_of h1 h2 h3) x0 x4 x5
end Go.Proofs.Ytcfbfpipfalieaa
