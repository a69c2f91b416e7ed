import Derived.Test.YtcfbfpipfalieaaQPtC
set_option linter.unusedVariables false
set_option linter.unusedSimpArgs false
set_option maxRecDepth 100000
namespace Go.V.G
open Go.V
theorem n2 : ((2 : Nat) : Int) = 2 := rfl
theorem n3 : ((3 : Nat) : Int) = 3 := rfl
noncomputable def mt (k : Int) : List UInt8 := (l_markText k).getD []
theorem mt_eq {k : Int} (h0 : 0 ≤ k) (h1 : k ≤ 4611686018427387904) : l_markText k = some (mt k) := by
  have : ∃ z, l_markText k = some z := by
    unfold l_markText
    by_cases h : k ≤ 0
    · exact ⟨_, by rw [if_pos (by simpa using h)]⟩
    · rw [if_neg (by simpa using h)]
      obtain ⟨z, hz, hl⟩ := loop_inv l_markText_L1 (fun y => 0 ≤ y.1 ∧ ((y.2.length : Nat) : Int) + y.1 ≤ 4611686018427387904) (fun y => y.1.toNat) (fun z => ((z.length : Nat) : Int) ≤ 4611686018427387904) (by
        rintro ⟨n, s⟩ ⟨q0, q1⟩
        dsimp only at q0 q1
        unfold l_markText_L1
        by_cases hp : 0 < n
        · left
          have d1 : Int.tdiv n 10 = n / 10 := Int.tdiv_eq_ediv_of_nonneg q0
          have w : IntKind.wrap .i64 (Int.tdiv n 10) = n / 10 := by rw [d1, w64 (by omega) (by omega)]
          have hlen : List.length (textOf [IntKind.wrap .u8 (IntKind.wrap .i64 (48 + (Int.tmod n 10)))]) = 1 := by simp [textOf]
          have hs : 1 + s.length ≤ 9223372036854775807 := by omega
          refine ⟨(n / 10, textOf [IntKind.wrap .u8 (IntKind.wrap .i64 (48 + (Int.tmod n 10)))] ++ s), ?_, ⟨by dsimp only; omega, ?_⟩, by dsimp only; omega⟩
          · simp only [hp, decide_true, if_true, hlen, hs, w, show decide (¬ (10 : Int) = 0) = true from rfl]
          · dsimp only
            rw [List.length_append, hlen]; omega
        · right
          refine ⟨s, by simp [hp], ?_⟩
          omega) (k, []) ⟨h0, by simpa using h1⟩
      rw [hz, Option.bind_some]
      exact ⟨_, by rw [if_pos]; simp; omega⟩
  obtain ⟨z, hz⟩ := this
  rw [mt, hz]; rfl
def c_RunS : Int × Int → Nat := fun _ => 2
def m_RunS : Int × Int → Int → Int × Int := fun _ k => (k, k + 1)
theorem cb_RunS : ∀ xs : List (Int × Int), wsum c_RunS xs = 2 * xs.length
  | [] => rfl
  | x :: xs => by simp only [wsum, cb_RunS xs, c_RunS, List.length_cons]; omega
theorem mark_RunS {xs : List (Int × Int)} (hl : xs.length ≤ 1099511627776) {k : Int} (h0 : 0 ≤ k) (h1 : k + wsum c_RunS xs ≤ 4611686018427387904) : l_markRunS_l xs k = some (mks m_RunS c_RunS xs k, k + wsum c_RunS xs) := by
  unfold l_markRunS_l
  rw [mark_loop l_markRunS_l_L1 m_RunS c_RunS xs (by
    intro ys i hi k hlen hmem h0 hk
    have hc : ((i : Nat) : Int) < ((ys.length : Nat) : Int) := by omega
    have g1 : ∀ x, (ys.set i x)[i]? = some x := fun x => List.getElem?_set_self hi
    simp only [c_RunS] at hk
    have w1 : IntKind.wrap .i64 (k + 1) = k + 1 := w64 (by omega) (by omega)
    have w2 : IntKind.wrap .i64 (k + 1 + 1) = k + 2 := by rw [w64 (by omega) (by omega)]; omega
    unfold l_markRunS_l_L1
    simp only [List.length_set, hc, decide_true, if_true, show (0 : Int) ≤ ((i : Nat) : Int) from by omega, Int.toNat_natCast, List.getElem?_eq_getElem hi, Option.bind_some, Nat.zero_add, List.set_set, g1, ixS (show ys.length ≤ 4611686018427387904 by omega) hi, w1, w2, m_RunS, c_RunS, n2]) (by intro ys k; simp [l_markRunS_l_L1]) h0 h1]
  rfl
theorem held_RunS {xs : List (Int × Int)} (hl : xs.length ≤ 1099511627776) {k : Int} (h0 : 0 ≤ k) (h1 : k + wsum c_RunS xs ≤ 4611686018427387904) : l_heldRunS (mks m_RunS c_RunS xs k) k = some (k + wsum c_RunS xs) := by
  unfold l_heldRunS
  rw [held_loop l_heldRunS_L1 m_RunS c_RunS xs (by
    intro ys i hi x k hlen hmem hx h0 hk
    have hc : ((i : Nat) : Int) < ((ys.length : Nat) : Int) := by omega
    simp only [c_RunS] at hk
    have w1 : IntKind.wrap .i64 (k + 1) = k + 1 := w64 (by omega) (by omega)
    have w2 : IntKind.wrap .i64 (k + 1 + 1) = k + 2 := by rw [w64 (by omega) (by omega)]; omega
    unfold l_heldRunS_L1
    simp only [hc, decide_true, if_true, show (0 : Int) ≤ ((i : Nat) : Int) from by omega, Int.toNat_natCast, List.getElem?_eq_getElem hi, Option.bind_some, hx, ixS (show ys.length ≤ 4611686018427387904 by omega) hi, w1, w2, m_RunS, c_RunS, n2, not_true_eq_false, decide_false, Bool.false_eq_true, if_false]) (by intro ys k; simp [l_heldRunS_L1]) h0 h1]
  rfl
def c_PartS : Int × (Int × List UInt8) → Nat := fun _ => 3
noncomputable def m_PartS : Int × (Int × List UInt8) → Int → Int × (Int × List UInt8) := fun _ k => (k, k + 1, mt (k + 2))
theorem cb_PartS : ∀ xs : List (Int × (Int × List UInt8)), wsum c_PartS xs = 3 * xs.length
  | [] => rfl
  | x :: xs => by simp only [wsum, cb_PartS xs, c_PartS, List.length_cons]; omega
theorem mark_PartS {xs : List (Int × (Int × List UInt8))} (hl : xs.length ≤ 1099511627776) {k : Int} (h0 : 0 ≤ k) (h1 : k + wsum c_PartS xs ≤ 4611686018427387904) : l_markPartS_l xs k = some (mks m_PartS c_PartS xs k, k + wsum c_PartS xs) := by
  unfold l_markPartS_l
  rw [mark_loop l_markPartS_l_L1 m_PartS c_PartS xs (by
    intro ys i hi k hlen hmem h0 hk
    have hc : ((i : Nat) : Int) < ((ys.length : Nat) : Int) := by omega
    have g1 : ∀ x, (ys.set i x)[i]? = some x := fun x => List.getElem?_set_self hi
    simp only [c_PartS] at hk
    have w1 : IntKind.wrap .i64 (k + 1) = k + 1 := w64 (by omega) (by omega)
    have w2 : IntKind.wrap .i64 (k + 1 + 1) = k + 2 := by rw [w64 (by omega) (by omega)]; omega
    have w3 : IntKind.wrap .i64 (k + 2 + 1) = k + 3 := by rw [w64 (by omega) (by omega)]; omega
    have hm := mt_eq (k := k + 2) (by omega) (by omega)
    unfold l_markPartS_l_L1
    simp only [List.length_set, hc, decide_true, if_true, show (0 : Int) ≤ ((i : Nat) : Int) from by omega, Int.toNat_natCast, List.getElem?_eq_getElem hi, Option.bind_some, Nat.zero_add, List.set_set, g1, ixS (show ys.length ≤ 4611686018427387904 by omega) hi, w1, w2, w3, hm, m_PartS, c_PartS, n3]) (by intro ys k; simp [l_markPartS_l_L1]) h0 h1]
  rfl
theorem held_PartS {xs : List (Int × (Int × List UInt8))} (hl : xs.length ≤ 1099511627776) {k : Int} (h0 : 0 ≤ k) (h1 : k + wsum c_PartS xs ≤ 4611686018427387904) : l_heldPartS (mks m_PartS c_PartS xs k) k = some (k + wsum c_PartS xs) := by
  unfold l_heldPartS
  rw [held_loop l_heldPartS_L1 m_PartS c_PartS xs (by
    intro ys i hi x k hlen hmem hx h0 hk
    have hc : ((i : Nat) : Int) < ((ys.length : Nat) : Int) := by omega
    simp only [c_PartS] at hk
    have w1 : IntKind.wrap .i64 (k + 1) = k + 1 := w64 (by omega) (by omega)
    have w2 : IntKind.wrap .i64 (k + 1 + 1) = k + 2 := by rw [w64 (by omega) (by omega)]; omega
    have w3 : IntKind.wrap .i64 (k + 2 + 1) = k + 3 := by rw [w64 (by omega) (by omega)]; omega
    have hm := mt_eq (k := k + 2) (by omega) (by omega)
    unfold l_heldPartS_L1
    simp only [hc, decide_true, if_true, show (0 : Int) ≤ ((i : Nat) : Int) from by omega, Int.toNat_natCast, List.getElem?_eq_getElem hi, Option.bind_some, hx, ixS (show ys.length ≤ 4611686018427387904 by omega) hi, w1, w2, w3, hm, m_PartS, c_PartS, n3, not_true_eq_false, decide_false, Bool.false_eq_true, if_false, beq_self_eq_true, Bool.not_true]) (by intro ys k; simp [l_heldPartS_L1]) h0 h1]
  rfl
def c_ChangeS : List (Int × (Int × List UInt8)) → Nat := fun x => wsum c_PartS x
noncomputable def m_ChangeS : List (Int × (Int × List UInt8)) → Int → List (Int × (Int × List UInt8)) := fun x k => mks m_PartS c_PartS x k
theorem cb_ChangeS : ∀ xs : List (List (Int × (Int × List UInt8))), wsum c_ChangeS xs ≤ 3 * w_ChangeS xs
  | [] => Nat.zero_le _
  | x :: xs => by
    have ih := cb_ChangeS xs; have hx := cb_PartS x; have hy := w_PartS_len x
    simp only [w_ChangeS, wsum, List.length_cons, c_ChangeS] at ih ⊢
    omega
theorem parts_len {xs : List (List (Int × (Int × List UInt8)))} (h : w_ChangeS xs ≤ 1099511627776) {x : List (Int × (Int × List UInt8))} (hx : x ∈ xs) : x.length ≤ 1099511627776 := by
  have := wsum_mem w_PartS hx; have := w_PartS_len x; unfold w_ChangeS at h; omega
theorem mark_ChangeS {xs : List (List (Int × (Int × List UInt8)))} (h : w_ChangeS xs ≤ 1099511627776) {k : Int} (h0 : 0 ≤ k) (h1 : k + wsum c_ChangeS xs ≤ 4611686018427387904) : l_markChangeS_l xs k = some (mks m_ChangeS c_ChangeS xs k, k + wsum c_ChangeS xs) := by
  have hl := w_ChangeS_len xs
  unfold l_markChangeS_l
  rw [mark_loop l_markChangeS_l_L1 m_ChangeS c_ChangeS xs (by
    intro ys i hi k hlen hmem h0 hk
    have hc : ((i : Nat) : Int) < ((ys.length : Nat) : Int) := by omega
    have hm := mark_PartS (parts_len h hmem) h0 hk
    unfold l_markChangeS_l_L1
    simp only [hc, decide_true, if_true, show (0 : Int) ≤ ((i : Nat) : Int) from by omega, Int.toNat_natCast, List.getElem?_eq_getElem hi, Option.bind_some, Nat.zero_add, ixS (show ys.length ≤ 4611686018427387904 by omega) hi, hm, m_ChangeS, c_ChangeS]) (by intro ys k; simp [l_markChangeS_l_L1]) h0 h1]
  rfl
theorem held_ChangeS {xs : List (List (Int × (Int × List UInt8)))} (h : w_ChangeS xs ≤ 1099511627776) {k : Int} (h0 : 0 ≤ k) (h1 : k + wsum c_ChangeS xs ≤ 4611686018427387904) : l_heldChangeS (mks m_ChangeS c_ChangeS xs k) k = some (k + wsum c_ChangeS xs) := by
  have hl := w_ChangeS_len xs
  unfold l_heldChangeS
  rw [held_loop l_heldChangeS_L1 m_ChangeS c_ChangeS xs (by
    intro ys i hi x k hlen hmem hx h0 hk
    have hc : ((i : Nat) : Int) < ((ys.length : Nat) : Int) := by omega
    have hm := held_PartS (parts_len h hmem) h0 hk
    have w5 : ¬ (k + ((wsum c_PartS x : Nat) : Int) < 0) := by omega
    unfold l_heldChangeS_L1
    simp only [hc, decide_true, if_true, show (0 : Int) ≤ ((i : Nat) : Int) from by omega, Int.toNat_natCast, List.getElem?_eq_getElem hi, Option.bind_some, hx, ixS (show ys.length ≤ 4611686018427387904 by omega) hi, hm, w5, m_ChangeS, c_ChangeS, decide_false, Bool.false_eq_true, if_false]) (by intro ys k; simp [l_heldChangeS_L1]) h0 h1]
  rfl
abbrev Hst := Int × (List UInt8 × (List (Int × Int) × List (List (Int × (Int × List UInt8)))))
def w_History (h : Hst) : Nat := h.2.1.length + w_RunS h.2.2.1 + w_ChangeS h.2.2.2
def fit_History (h : Hst) : Prop := h.2.1.length ≤ maxLen ∧ fit_RunS h.2.2.1 ∧ fit_ChangeS h.2.2.2
theorem lft_lft {l : Int} {n m : Nat} (h : ((n : Nat) : Int) ≤ l) : lft (l - n) m = lft l (n + m) := by
  unfold lft
  by_cases h1 : ((m : Nat) : Int) ≤ l - n
  · rw [if_pos h1, if_pos (by omega)]; omega
  · rw [if_neg h1, if_neg (by omega)]
theorem lft_no {l : Int} {n m : Nat} (h : ¬ ((n : Nat) : Int) ≤ l) : lft l (n + m) = -1 := by unfold lft; rw [if_neg (by omega)]
theorem sz_History {a : Int} {t : List UInt8} {r : List (Int × Int)} {c : List (List (Int × (Int × List UInt8)))} (hf : fit_History (a, t, r, c)) {l : Int} (h0 : 0 ≤ l) (h1 : l ≤ 1048576) : l_szHistory a t r c l = some (lft l (w_History (a, t, r, c))) := by
  obtain ⟨f1, f2, f3⟩ := hf
  unfold maxLen at f1
  dsimp only at f1 f2 f3
  unfold l_szHistory w_History
  dsimp only
  rw [w64 (by omega) (by omega)]
  by_cases h : ((t.length : Nat) : Int) ≤ l
  · rw [if_neg (by simp; omega), sz_RunS f2 (by omega) (by omega), Option.bind_some, lft_lft h]
    by_cases h2 : (((t.length + w_RunS r : Nat)) : Int) ≤ l
    · have e : lft l (t.length + w_RunS r) = l - ((t.length + w_RunS r : Nat) : Int) := by unfold lft; rw [if_pos h2]
      rw [e, if_neg (by simp; omega), sz_ChangeS f3 (by omega) (by omega), Option.bind_some, lft_lft h2]
      by_cases h3 : (((t.length + w_RunS r + w_ChangeS c : Nat)) : Int) ≤ l
      · have e : lft l (t.length + w_RunS r + w_ChangeS c) = l - ((t.length + w_RunS r + w_ChangeS c : Nat) : Int) := by unfold lft; rw [if_pos h3]
        rw [e, if_neg (by simp; omega)]
      · have e : lft l (t.length + w_RunS r + w_ChangeS c) = -1 := by unfold lft; rw [if_neg h3]
        rw [e]; rfl
    · have e : lft l (t.length + w_RunS r) = -1 := by unfold lft; rw [if_neg h2]
      rw [e, lft_no h2]; rfl
  · rw [if_pos (by simp; omega), Nat.add_assoc, lft_no h]
theorem to_History {a : Int} {t : List UInt8} {r : List (Int × Int)} {c : List (List (Int × (Int × List UInt8)))} (h : w_History (a, t, r, c) ≤ 1048576) : l_toHistory a t r c = some (a, t, r, c) := by
  unfold w_History at h
  dsimp only at h
  unfold l_toHistory
  rw [to_RunS (by omega), Option.bind_some, to_ChangeS (by omega)]; rfl
theorem eq_History {a : Int} {t : List UInt8} {r : List (Int × Int)} {c : List (List (Int × (Int × List UInt8)))} (h : w_History (a, t, r, c) ≤ 1099511627776) : l_eqHistory a t r c a t r c = some true := by
  unfold w_History at h
  dsimp only at h
  unfold l_eqHistory
  simp [eq_RunS (show w_RunS r ≤ 1099511627776 by omega), eq_ChangeS (show w_ChangeS c ≤ 1099511627776 by omega)]
noncomputable def mkR (r : List (Int × Int)) (k : Int) : List (Int × Int) := mks m_RunS c_RunS r k
noncomputable def mkC (r : List (Int × Int)) (c : List (List (Int × (Int × List UInt8)))) (k : Int) : List (List (Int × (Int × List UInt8))) := mks m_ChangeS c_ChangeS c (k + wsum c_RunS r)
def cHist (r : List (Int × Int)) (c : List (List (Int × (Int × List UInt8)))) : Nat := wsum c_RunS r + wsum c_ChangeS c
theorem mark_History {a : Int} {t : List UInt8} {r : List (Int × Int)} {c : List (List (Int × (Int × List UInt8)))} (h : w_History (a, t, r, c) ≤ 1099511627776) {k : Int} (h0 : 0 ≤ k) (h1 : k ≤ 1000000000000000) :
    l_markHistory_l a t r c k = some (a, t, mkR r k, mkC r c k, k + cHist r c) := by
  unfold w_History w_RunS at h
  dsimp only at h
  have q1 := cb_RunS r
  have q2 := cb_ChangeS c
  unfold l_markHistory_l
  rw [mark_RunS (by omega) h0 (by omega), Option.bind_some, mark_ChangeS (by omega) (by dsimp only; omega) (by dsimp only; omega), Option.bind_some]
  show some (_, _, _, _, _) = some (_, _, _, _, _)
  congr 5
  unfold cHist; dsimp only; omega
theorem held_History {a : Int} {t : List UInt8} {r : List (Int × Int)} {c : List (List (Int × (Int × List UInt8)))} (h : w_History (a, t, r, c) ≤ 1099511627776) {k : Int} (h0 : 0 ≤ k) (h1 : k ≤ 1000000000000000) :
    l_heldHistory a t (mkR r k) (mkC r c k) k = some (k + cHist r c) := by
  unfold w_History w_RunS at h
  dsimp only at h
  have q1 := cb_RunS r
  have q2 := cb_ChangeS c
  unfold l_heldHistory mkR mkC
  rw [held_RunS (by omega) h0 (by omega), Option.bind_some, if_neg (by simp; omega), held_ChangeS (by omega) (by omega) (by omega), Option.bind_some, if_neg (by simp; omega)]
  unfold cHist
  congr 1; omega
end Go.V.G

set_option linter.unusedVariables false
set_option linter.unusedSimpArgs false
set_option maxRecDepth 100000
namespace Go.V.G
open Go.V
theorem i64_of {n : Int} (h : Fits (.int .i64) n) : I64 n := by
  have h2 : (Lit.int .i64 n).wf = true := h
  simp [Lit.wf, IntKind.min, IntKind.max, IntKind.bits, IntKind.signed] at h2
  unfold I64; omega
structure FitP (c : List Prt) : Prop where
  l : fit_PartS c
  i : ∀ p ∈ c, I64 p.1 ∧ I64 p.2.1
structure FitH (t : List UInt8) (r : List Rn) (cs : List (List Prt)) : Prop where
  ht : t.length ≤ maxLen
  hr : fit_RunS r
  hc : fit_ChangeS cs
  hi : ∀ c ∈ cs, ∀ p ∈ c, I64 p.1 ∧ I64 p.2.1
theorem fitP_of {e : TypeId} {c : List Prt} (h : Fits (.sl false e (.pair (.int .i64) (.pair (.int .i64) .str))) c) : FitP c :=
  ⟨⟨h.1, fun p hp => (h.2 p hp).2.2⟩, fun p hp => ⟨i64_of (h.2 p hp).1, i64_of (h.2 p hp).2.1⟩⟩
theorem fitH_of {e1 e2 e3 : TypeId} {t : List UInt8} {r : List Rn} {cs : List (List Prt)} (h1 : Fits .str t) (h2 : Fits (.sl false e1 (.pair (.int .i64) (.int .i64))) r)
    (h3 : Fits (.sl false e2 (.sl false e3 (.pair (.int .i64) (.pair (.int .i64) .str)))) cs) : FitH t r cs :=
  ⟨h1, h2.1, ⟨h3.1, fun c hc => (fitP_of (h3.2 c hc)).l⟩, fun c hc => (fitP_of (h3.2 c hc)).i⟩
theorem psum_w : ∀ c : List Prt, w_PartS c = c.length + psum c
  | [] => rfl
  | p :: c => by
    have ih := psum_w c
    simp only [w_PartS, wsum, w_Part, psum, List.length_cons] at ih ⊢
    omega
theorem sm_of {c : List Prt} (h : FitP c) {B : Nat} (hw : w_PartS c ≤ B) : Sm B c := by
  rw [psum_w] at hw
  exact ⟨by omega, by omega, h.i⟩
theorem hb_of {f : Int} {t : List UInt8} {r : List Rn} {cs : List (List Prt)} (h : FitH t r cs) (hw : w_History (f, t, r, cs) ≤ 1048576) : HB t r cs := by
  unfold w_History w_RunS at hw
  dsimp only at hw
  have hl := w_ChangeS_len cs
  refine ⟨by omega, by omega, by omega, fun c hc => sm_of ⟨h.hc.2 c hc, h.hi c hc⟩ ?_⟩
  have := wsum_mem w_PartS hc
  unfold w_ChangeS at hw
  omega
theorem wsum_le {α : Type} {w : α → Nat} {B : Nat} : ∀ {xs : List α}, (∀ x ∈ xs, w x ≤ B) → wsum w xs ≤ xs.length * B
  | [], _ => by simp [wsum]
  | x :: xs, h => by
    have ih := wsum_le (xs := xs) fun y hy => h y (by simp [hy])
    have := h x (by simp)
    simp only [wsum, List.length_cons, Nat.succ_mul]; omega
theorem w_good {c : List Prt} (h : good c = true) : w_PartS c ≤ 480 := by
  have := good_sm h
  have := this.len; have := (good_sm h).put
  rw [psum_w]; omega
theorem w_goods {cs : List (List Prt)} (h : ∀ c ∈ cs, good c = true) (hn : cs.length ≤ 1000) : w_ChangeS cs ≤ 1000000 := by
  have := wsum_le (w := w_PartS) (B := 480) fun c hc => w_good (h c hc)
  unfold w_ChangeS
  omega
theorem w_runs {l : List Rn} {n m : Int} (h : goodRuns l n m = true) : w_RunS l ≤ 120 := by
  obtain ⟨h1, _, h6⟩ := goodRuns_iff.1 h
  have := rlen_le h6.pos
  rw [h6.sum] at this
  unfold w_RunS
  omega
theorem GH.w {f : Int} {t : List UInt8} {r : List Rn} {cs : List (List Prt)} (g : GH f t r cs) : w_History (f, t, r, cs) ≤ 2000000 := by
  have := g.ht; have := g.hn; have := g.hf
  have h1 := w_goods (chn_mem g.hc) (by omega)
  have h2 := w_runs g.hr
  unfold w_History
  dsimp only
  omega
theorem lft_neg {n : Nat} {l : Int} (h : ¬ lft l n < 0) : ((n : Nat) : Int) ≤ l := by
  unfold lft at h
  split at h <;> omega
theorem codeH_zero {f a b : Int} {t : List UInt8} {r : List Rn} {cs : List (List Prt)} (h : codeH f t r cs a b = 0) : GH f t r cs ∧ f ≤ a ∧ a ≤ b ∧ b ≤ f + cs.length := by
  unfold codeH at h
  split at h
  · rename_i hg
    split at h
    · rename_i hx; exact ⟨goodH_iff.1 hg, hx⟩
    · cases h
  · cases h
end Go.V.G

set_option linter.unusedVariables false
set_option linter.unusedSimpArgs false
set_option maxRecDepth 100000
namespace Go.V.G
open Go.V
section
variable {f : Int} {t : List UInt8} {r : List Rn} {cs : List (List Prt)}
theorem i_copied_eq (h : HB t r cs) (f : Int) : i_History_copied f t r cs = some (f, t, r, cs) := by
  have hn := h.hn
  unfold i_History_copied
  rw [clone_run h.hr, Option.bind_some]
  have := loop_run i_History_copied_L1 (fun i => (cs, ((cs.length : Nat) : Int), ((i : Nat) : Int), 0, [], f, t, r, cs.take i)) cs.length (0, [], f, t, r, cs) (by
    intro i hi
    have hlt : ((i : Nat) : Int) < ((cs.length : Nat) : Int) := by omega
    have hr : roomFor (List.length (cs.take i) + List.length ([cs[i]] : List (List Prt))) 24 = true := room8 (by rw [List.length_take]; simp; omega) (by omega)
    unfold i_History_copied_L1
    simp only [hlt, decide_true, if_true, show (0 : Int) ≤ ((i : Nat) : Int) from by omega, Int.toNat_natCast, List.getElem?_eq_getElem hi, Option.bind_some, clone_part (h.hc _ (List.getElem_mem hi)).len, hr, idx_succ hn hi]
    rw [List.take_succ_eq_append_getElem hi]) (by simp [i_History_copied_L1])
  have e : loopG i_History_copied_L1 (cs, ((cs.length : Nat) : Int), 0, 0, [], f, t, r, []) = some (0, [], f, t, r, cs) := by simpa using this
  rw [e]; rfl
theorem s_own_hist (h : HB t r cs) (f : Int) : s_l10Own f t r cs = some (f, t, r, cs) := by
  have hn := h.hn
  have hrr : roomFor (List.length ([] : List Rn) + List.length r) 16 = true := room8 (by have := h.hr; simpa using this) (by omega)
  unfold s_l10Own
  have := loop_run s_l10Own_L1 (fun i => (cs.take i, cs, ((cs.length : Nat) : Int), ((i : Nat) : Int), f, t, r, cs, 0, [])) cs.length (cs, f, t, r, cs, 0, []) (by
    intro i hi
    have hlt : ((i : Nat) : Int) < ((cs.length : Nat) : Int) := by omega
    have hr : roomFor (List.length (cs.take i) + List.length ([cs[i]] : List (List Prt))) 24 = true := room8 (by rw [List.length_take]; simp; omega) (by omega)
    have hr2 : roomFor (List.length ([] : List Prt) + List.length cs[i]) 32 = true := room8 (by have := (h.hc _ (List.getElem_mem hi)).len; simpa using this) (by omega)
    unfold s_l10Own_L1
    simp only [hlt, decide_true, if_true, show (0 : Int) ≤ ((i : Nat) : Int) from by omega, Int.toNat_natCast, List.getElem?_eq_getElem hi, Option.bind_some, List.nil_append, hr, hr2, idx_succ hn hi]
    rw [List.take_succ_eq_append_getElem hi]) (by simp [s_l10Own_L1])
  have e : loopG s_l10Own_L1 ([], cs, ((cs.length : Nat) : Int), 0, f, t, r, cs, 0, []) = some (cs, f, t, r, cs, 0, []) := by simpa using this
  rw [e, Option.bind_some, if_pos hrr]; rfl
theorem seg_tail (cs : List (List Prt)) (k : Int) : (cs.drop k.toNat).take (cs.length - k.toNat) = cs.drop k.toNat := by
  rw [List.take_of_length_le (by rw [List.length_drop]; omega)]
end
end Go.V.G

set_option linter.unusedVariables false
set_option linter.unusedSimpArgs false
set_option maxRecDepth 100000
namespace Go.V.G
open Go.V
section
variable {f : Int} {t : List UInt8} {r : List Rn} {cs : List (List Prt)}
def prunedOf (f : Int) (t : List UInt8) (r : List Rn) (cs : List (List Prt)) (x : Int) : Int × Hst :=
  if codeH f t r cs x x = 0 then (0, x, txt t (cs.take (x - f).toNat), blm (f + 1) r (cs.take (x - f).toNat), cs.drop (x - f).toNat)
  else if codeH f t r cs x x = 1 then (1, 0, [], [], []) else (codeH f t r cs x x, f, t, r, cs)
theorem i_pruneTo_eq (h : HB t r cs) (f x : Int) : i_PruneTo f t r cs x = some (prunedOf f t r cs x) := by
  unfold i_PruneTo prunedOf
  rw [i_code_eq h, Option.bind_some]
  by_cases h0 : codeH f t r cs x x = 0
  · obtain ⟨g, h1, _, h3⟩ := codeH_zero h0
    have := g.hf; have := g.hn
    have w : IntKind.wrap .i64 (x - f) = x - f := w64 (by omega) (by omega)
    rw [if_pos (by simpa using h0), if_pos h0]
    unfold i_History_pruned
    rw [i_copied_eq h, Option.bind_some, i_text_eq g h1 h3, Option.bind_some, i_blame_eq g h1 h3, Option.bind_some]
    simp only [w, Int.toNat_natCast, seg_tail, Int.le_refl, decide_true, if_true, show (0 : Int) ≤ x - f from by omega, show x - f ≤ ((cs.length : Nat) : Int) from by omega, Option.bind_some]
  · rw [if_neg (by simpa using h0), if_neg h0]
    by_cases h1 : codeH f t r cs x x = 1
    · rw [if_pos (by simpa using h1), if_pos h1]
    · rw [if_neg (by simpa using h1), if_neg h1, i_copied_eq h]; rfl
theorem s_pruneTo_eq (h : HB t r cs) (f x : Int) : s_PruneTo f t r cs x = some (prunedOf f t r cs x) := by
  unfold s_PruneTo prunedOf
  rw [s_range_eq h, Option.bind_some]
  by_cases h0 : codeH f t r cs x x = 0
  · obtain ⟨g, h1, _, h3⟩ := codeH_zero h0
    have := g.hf; have := g.hn
    have w : IntKind.wrap .i64 (x - f) = x - f := w64 (by omega) (by omega)
    rw [if_neg (by simp [h0]), if_neg (by simpa using h0), if_pos h0, s_text_eq g h1 h3, Option.bind_some, s_blame_eq g h1 h3, Option.bind_some, s_own_hist h, Option.bind_some]
    simp only [w, Int.toNat_natCast, seg_tail, Int.le_refl, decide_true, if_true, show (0 : Int) ≤ x - f from by omega, show x - f ≤ ((cs.length : Nat) : Int) from by omega]
  · rw [if_neg h0]
    by_cases h1 : codeH f t r cs x x = 1
    · rw [if_pos (by simpa using h1), if_pos h1, h1]
    · rw [if_neg (by simpa using h1), if_neg h1, if_pos (by simpa using h0), s_own_hist h]; rfl
theorem pruned_good (g : GH f t r cs) {x : Int} (h1 : f ≤ x) (h2 : x ≤ f + cs.length) : GH x (txt t (cs.take (x - f).toNat)) (blm (f + 1) r (cs.take (x - f).toNat)) (cs.drop (x - f).toNat) := by
  have := g.hf; have := g.hn
  have ht := text_in g (x - f).toNat
  have hb := blm_good g (x - f).toNat
  rw [show f + (((cs.take (x - f).toNat).length : Nat) : Int) = x by rw [List.length_take]; omega] at hb
  refine ⟨by omega, by omega, by rw [ht.1]; exact hb, by rw [List.length_drop]; omega, ?_⟩
  rw [ht.1]; exact (chn_take g.hc _).2
theorem prunedOf_w {f x : Int} (hw : w_History (f, t, r, cs) ≤ 1048576) : w_History (prunedOf f t r cs x).2 ≤ 2000000 := by
  unfold prunedOf
  split
  · rename_i h0
    obtain ⟨g, h1, _, h3⟩ := codeH_zero h0
    exact (pruned_good g h1 h3).w
  · split
    · exact Nat.zero_le _
    · dsimp only; omega
end
end Go.V.G

set_option linter.unusedVariables false
set_option linter.unusedSimpArgs false
set_option maxRecDepth 100000
namespace Go.V.G
open Go.V
theorem pruneTo_exact {t : List UInt8} {r : List Rn} {cs : List (List Prt)} (h : FitH t r cs) (f : Int) (a : Int) : l_FnExactPruneTo f t r cs a = some true := by
  unfold l_FnExactPruneTo
  rw [sz_History (a := f) ⟨h.ht, h.hr, h.hc⟩ (by omega) (by omega), Option.bind_some]
  by_cases hs : lft 1048576 (w_History (f, t, r, cs)) < 0
  · rw [if_pos (by simpa using hs)]
  · rw [if_neg (by simpa using hs)]
    have hw := lft_neg hs
    have hb := hb_of (f := f) h (by omega)
    have hz1 := s_pruneTo_eq hb f a
    have hz2 := i_pruneTo_eq hb f a
    have hzw : w_History (prunedOf f t r cs a).2 ≤ 2000000 := prunedOf_w (by omega)
    generalize prunedOf f t r cs a = z at hz1 hz2 hzw
    have hto : l_toHistory f t r cs = some (f, t, r, cs) := to_History (by omega)
    have heq : l_eqHistory f t r cs f t r cs = some true := eq_History (by omega)
    have hmk : l_markHistory_l f t r cs 1 = _ := mark_History (by omega) (by omega) (by omega)
    have hn : ¬ ((1 : Int) + ((cHist r cs : Nat) : Int) < 0) := by omega
    have hw' : w_History (z.2.1, z.2.2.1, z.2.2.2.1, z.2.2.2.2) ≤ 2000000 := hzw
    have hq : l_eqHistory z.2.1 z.2.2.1 z.2.2.2.1 z.2.2.2.2 z.2.1 z.2.2.1 z.2.2.2.1 z.2.2.2.2 = some true := eq_History (by omega)
    have hm : l_markHistory_l z.2.1 z.2.2.1 z.2.2.2.1 z.2.2.2.2 1 = _ := mark_History (by omega) (by omega) (by omega)
    have hh : l_heldHistory z.2.1 z.2.2.1 (mkR z.2.2.2.1 1) (mkC z.2.2.2.1 z.2.2.2.2 1) 1 = _ := held_History (by omega) (by omega) (by omega)
    have hn2 : ¬ ((1 : Int) + ((cHist z.2.2.2.1 z.2.2.2.2 : Nat) : Int) < 0) := by omega
    simp only [hto, hz1, hz2, heq, hmk, hn, hq, hm, hh, hn2, Option.bind_some, Bool.not_true, Bool.false_eq_true, if_false, not_true_eq_false, decide_false]
end Go.V.G
namespace Go.Proofs.Ytcfbfpipfalieaa
open Go.V
theorem pure_FnExactPruneTo {e1 e2 e3 : TypeId} (x0 : Int) (x1 : List UInt8) (x2 : List G.Rn) (x3 : List (List G.Prt)) (x4 : Int)
    (g0 : ∀ l ∈ ([⟨.int .i64, x0⟩, ⟨.str, x1⟩, ⟨.sl false e1 (.pair (.int .i64) (.int .i64)), x2⟩, ⟨.sl false e2 (.sl false e3 (.pair (.int .i64) (.pair (.int .i64) .str))), x3⟩] : List ALeaf), Fits l.1 l.2) (g1 : Fits (.int .i64) x4) : G.l_FnExactPruneTo x0 x1 x2 x3 x4 = some true := by
  have h1 := g0 ⟨.str, x1⟩ (by simp)
  have h2 := g0 ⟨.sl false e1 (.pair (.int .i64) (.int .i64)), x2⟩ (by simp)
  have h3 := g0 ⟨.sl false e2 (.sl false e3 (.pair (.int .i64) (.pair (.int .i64) .str))), x3⟩ (by simp)
  exact G.pruneTo_exact (G.fitH_of h1 h2 h3) x0 x4
end Go.Proofs.Ytcfbfpipfalieaa
