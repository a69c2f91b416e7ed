import Derived.Test.YtijemcbcchnnjaaDoorQRtC
set_option linter.unusedVariables false
set_option linter.unusedSimpArgs false
set_option maxRecDepth 100000
namespace Go.V.G
open Go.V
section
variable {α : Type}
theorem ixS {n i : Nat} (hn : n ≤ 4611686018427387904) (h : i < n) : IntKind.wrap .i64 (((i : Nat) : Int) + 1) = ((i + 1 : Nat) : Int) := by rw [w64 (by omega) (by omega)]; omega
def wsum (w : α → Nat) : List α → Nat
  | [] => 0
  | x :: xs => w x + wsum w xs
theorem wsum_append (w : α → Nat) : ∀ (a b : List α), wsum w (a ++ b) = wsum w a + wsum w b
  | [], b => by simp [wsum]
  | x :: a, b => by simp only [List.cons_append, wsum, wsum_append w a b]; omega
theorem eq_loop (f : List α × (List α × Int) → Option ((List α × (List α × Int)) ⊕ (Unit ⊕ Bool))) (xs : List α) (step : ∀ (i : Nat) (h : i < xs.length), f (xs, xs, ((i : Nat) : Int)) = some (.inl (xs, xs, ((i + 1 : Nat) : Int))))
    (last : f (xs, xs, ((xs.length : Nat) : Int)) = some (.inr (.inl ()))) : loopG f (xs, xs, 0) = some (.inl ()) := by
  have := loop_run f (fun k => (xs, xs, ((k : Nat) : Int))) xs.length (.inl ()) (fun k hk => step k hk) last
  simpa using this
def mks (m : α → Int → α) (c : α → Nat) : List α → Int → List α
  | [], _ => []
  | x :: xs, k => m x k :: mks m c xs (k + c x)
theorem mks_len (m : α → Int → α) (c : α → Nat) : ∀ (xs : List α) (k : Int), (mks m c xs k).length = xs.length
  | [], _ => rfl
  | x :: xs, k => by simp only [mks, List.length_cons, mks_len m c xs]
theorem mks_append (m : α → Int → α) (c : α → Nat) : ∀ (a b : List α) (k : Int), mks m c (a ++ b) k = mks m c a k ++ mks m c b (k + wsum c a)
  | [], b, k => by simp [mks, wsum]
  | x :: a, b, k => by
    simp only [List.cons_append, mks, mks_append m c a b, wsum]
    congr 3; omega
theorem mks_get (m : α → Int → α) (c : α → Nat) {xs : List α} {k : Int} {i : Nat} (h : i < xs.length) : (mks m c xs k)[i]'(by rw [mks_len]; exact h) = m xs[i] (k + wsum c (xs.take i)) := by
  have e : xs = xs.take i ++ xs[i] :: xs.drop (i + 1) := by rw [← List.drop_eq_getElem_cons h, List.take_append_drop]
  have hl : (mks m c (xs.take i) k).length = i := by rw [mks_len, List.length_take]; omega
  have h2 : (mks m c xs k)[i]? = some (m xs[i] (k + wsum c (xs.take i))) := by
    conv => lhs; rw [e]
    rw [mks_append, List.getElem?_append_right (by omega), hl, Nat.sub_self]; rfl
  rw [List.getElem?_eq_getElem (by rw [mks_len]; exact h)] at h2
  exact Option.some.inj h2
theorem wsum_take (c : α → Nat) {xs : List α} {i : Nat} (h : i < xs.length) : wsum c (xs.take (i + 1)) = wsum c (xs.take i) + c xs[i] := by
  rw [List.take_succ_eq_append_getElem h, wsum_append]; simp [wsum]
theorem wsum_take_le (c : α → Nat) (xs : List α) (i : Nat) : wsum c (xs.take i) ≤ wsum c xs := by
  conv => rhs; rw [← List.take_append_drop i xs]
  rw [wsum_append]; omega
theorem mark_loop (f : List α × (Int × Int) → Option ((List α × (Int × Int)) ⊕ (List α × Int))) (m : α → Int → α) (c : α → Nat) (xs : List α)
    (step : ∀ (ys : List α) (i : Nat) (h : i < ys.length) (k : Int), ys.length = xs.length → ys[i] ∈ xs → 0 ≤ k → k + c ys[i] ≤ 4611686018427387904 → f (ys, k, ((i : Nat) : Int)) = some (.inl (ys.set i (m ys[i] k), k + c ys[i], ((i + 1 : Nat) : Int))))
    (last : ∀ (ys : List α) (k : Int), f (ys, k, ((ys.length : Nat) : Int)) = some (.inr (ys, k))) {k : Int} (h0 : 0 ≤ k) (h1 : k + wsum c xs ≤ 4611686018427387904) :
    loopG f (xs, k, 0) = some (mks m c xs k, k + wsum c xs) := by
  have := loop_run f (fun i => (mks m c (xs.take i) k ++ xs.drop i, k + wsum c (xs.take i), ((i : Nat) : Int))) xs.length (mks m c xs k, k + wsum c xs) (fun i hi => by
    have hl : (mks m c (xs.take i) k).length = i := by rw [mks_len, List.length_take]; omega
    have hlen : (mks m c (xs.take i) k ++ xs.drop i).length = xs.length := by rw [List.length_append, hl, List.length_drop]; omega
    have hget : (mks m c (xs.take i) k ++ xs.drop i)[i]'(by rw [hlen]; exact hi) = xs[i] := by
      rw [List.getElem_append_right (by omega)]
      simp [hl]
    have ht := wsum_take c hi
    have hle := wsum_take_le c xs (i + 1)
    rw [step _ i (by rw [hlen]; exact hi) _ hlen (by rw [hget]; exact List.getElem_mem hi) (by omega) (by rw [hget]; omega), hget]
    have e1 : (mks m c (xs.take i) k ++ xs.drop i).set i (m xs[i] (k + wsum c (xs.take i))) = mks m c (xs.take (i + 1)) k ++ xs.drop (i + 1) := by
      rw [List.set_append_right _ _ (by omega), hl, Nat.sub_self, List.drop_eq_getElem_cons hi, List.set_cons_zero, List.take_succ_eq_append_getElem hi, mks_append, List.append_assoc]; rfl
    rw [e1, ht]
    congr 4; omega) (by
      have hl : (mks m c (xs.take xs.length) k ++ xs.drop xs.length).length = xs.length := by rw [List.length_append, mks_len]; simp
      have := last (mks m c (xs.take xs.length) k ++ xs.drop xs.length) (k + wsum c (xs.take xs.length))
      rw [hl] at this
      rw [this]; simp)
  simpa [mks, wsum] using this
theorem held_loop (g : List α × (Int × Int) → Option ((List α × (Int × Int)) ⊕ (Int ⊕ Int))) (m : α → Int → α) (c : α → Nat) (xs : List α)
    (step : ∀ (ys : List α) (i : Nat) (h : i < ys.length) (x : α) (k : Int), ys.length = xs.length → x ∈ xs → ys[i] = m x k → 0 ≤ k → k + c x ≤ 4611686018427387904 → g (ys, k, ((i : Nat) : Int)) = some (.inl (ys, k + c x, ((i + 1 : Nat) : Int))))
    (last : ∀ (ys : List α) (k : Int), g (ys, k, ((ys.length : Nat) : Int)) = some (.inr (.inl k))) {k : Int} (h0 : 0 ≤ k) (h1 : k + wsum c xs ≤ 4611686018427387904) :
    loopG g (mks m c xs k, k, 0) = some (.inl (k + wsum c xs)) := by
  have := loop_run g (fun i => (mks m c xs k, k + wsum c (xs.take i), ((i : Nat) : Int))) xs.length (.inl (k + wsum c xs)) (fun i hi => by
    have ht := wsum_take c hi
    have hle := wsum_take_le c xs (i + 1)
    rw [step _ i (by rw [mks_len]; exact hi) xs[i] _ (mks_len ..) (List.getElem_mem hi) (mks_get m c hi) (by omega) (by omega), ht]
    congr 4; omega) (by
      have := last (mks m c xs k) (k + wsum c (xs.take xs.length))
      rw [mks_len] at this
      rw [this]; simp)
  simpa [wsum] using this
end
end Go.V.G

set_option linter.unusedVariables false
set_option linter.unusedSimpArgs false
set_option maxRecDepth 100000
namespace Go.V.G
open Go.V
def fit_RunS (xs : List (Int × Int)) : Prop := xs.length ≤ maxLen
def w_RunS (xs : List (Int × Int)) : Nat := xs.length
def fit_PartS (xs : List (Int × (Int × List UInt8))) : Prop := xs.length ≤ maxLen ∧ ∀ x ∈ xs, x.2.2.length ≤ maxLen
def w_Part (x : Int × (Int × List UInt8)) : Nat := x.2.2.length
def w_PartS (xs : List (Int × (Int × List UInt8))) : Nat := xs.length + wsum w_Part xs
theorem w_PartS_len (xs : List (Int × (Int × List UInt8))) : xs.length ≤ w_PartS xs := by unfold w_PartS; omega
theorem eq_Part (x : Int × (Int × List UInt8)) : l_eqPart x.1 x.2.1 x.2.2 x.1 x.2.1 x.2.2 = some true := by simp [l_eqPart]
theorem eq_PartS {xs : List (Int × (Int × List UInt8))} (h : w_PartS xs ≤ 1099511627776) : l_eqPartS xs xs = some true := by
  have hl := w_PartS_len xs
  unfold l_eqPartS
  rw [if_neg (by simp), eq_loop l_eqPartS_L1 xs (by
    intro i hi
    have hc : ((i : Nat) : Int) < ((xs.length : Nat) : Int) := by omega
    skip
    unfold l_eqPartS_L1
    simp only [hc, decide_true, if_true, show (0 : Int) ≤ ((i : Nat) : Int) from by omega, Int.toNat_natCast, List.getElem?_eq_getElem hi, Option.bind_some, ixS (show xs.length ≤ 4611686018427387904 by omega) hi, eq_Part, Bool.not_true, Bool.false_eq_true, if_false, not_true_eq_false, decide_false]) (by simp [l_eqPartS_L1])]
  rfl
def fit_ChangeS (xs : List (List (Int × (Int × List UInt8)))) : Prop := xs.length ≤ maxLen ∧ ∀ x ∈ xs, fit_PartS x
def w_ChangeS (xs : List (List (Int × (Int × List UInt8)))) : Nat := xs.length + wsum w_PartS xs
end Go.V.G

set_option linter.unusedVariables false
set_option linter.unusedSimpArgs false
set_option maxRecDepth 100000
namespace Go.V.G
open Go.V
theorem n2 : ((2 : Nat) : Int) = 2 := rfl
theorem n3 : ((3 : Nat) : Int) = 3 := rfl
noncomputable def mt (k : Int) : List UInt8 := (l_markText k).getD []
theorem mt_eq {k : Int} (h0 : 0 ≤ k) (h1 : k ≤ 4611686018427387904) : l_markText k = some (mt k) := by
  have : ∃ z, l_markText k = some z := by
    unfold l_markText
    by_cases h : k ≤ 0
    · exact ⟨_, by rw [if_pos (by simpa using h)]⟩
    · rw [if_neg (by simpa using h)]
      obtain ⟨z, hz, hl⟩ := loop_inv l_markText_L1 (fun y => 0 ≤ y.1 ∧ ((y.2.length : Nat) : Int) + y.1 ≤ 4611686018427387904) (fun y => y.1.toNat) (fun z => ((z.length : Nat) : Int) ≤ 4611686018427387904) (by
        rintro ⟨n, s⟩ ⟨q0, q1⟩
        dsimp only at q0 q1
        unfold l_markText_L1
        by_cases hp : 0 < n
        · left
          have d1 : Int.tdiv n 10 = n / 10 := Int.tdiv_eq_ediv_of_nonneg q0
          have w : IntKind.wrap .i64 (Int.tdiv n 10) = n / 10 := by rw [d1, w64 (by omega) (by omega)]
          have hlen : List.length (textOf [IntKind.wrap .u8 (IntKind.wrap .i64 (48 + (Int.tmod n 10)))]) = 1 := by simp [textOf]
          have hs : 1 + s.length ≤ 9223372036854775807 := by omega
          refine ⟨(n / 10, textOf [IntKind.wrap .u8 (IntKind.wrap .i64 (48 + (Int.tmod n 10)))] ++ s), ?_, ⟨by dsimp only; omega, ?_⟩, by dsimp only; omega⟩
          · simp only [hp, decide_true, if_true, hlen, hs, w, show decide (¬ (10 : Int) = 0) = true from rfl]
          · dsimp only
            rw [List.length_append, hlen]; omega
        · right
          refine ⟨s, by simp [hp], ?_⟩
          omega) (k, []) ⟨h0, by simpa using h1⟩
      rw [hz, Option.bind_some]
      exact ⟨_, by rw [if_pos]; simp; omega⟩
  obtain ⟨z, hz⟩ := this
  rw [mt, hz]; rfl
def c_PartS : Int × (Int × List UInt8) → Nat := fun _ => 3
noncomputable def m_PartS : Int × (Int × List UInt8) → Int → Int × (Int × List UInt8) := fun _ k => (k, k + 1, mt (k + 2))
theorem cb_PartS : ∀ xs : List (Int × (Int × List UInt8)), wsum c_PartS xs = 3 * xs.length
  | [] => rfl
  | x :: xs => by simp only [wsum, cb_PartS xs, c_PartS, List.length_cons]; omega
theorem mark_PartS {xs : List (Int × (Int × List UInt8))} (hl : xs.length ≤ 1099511627776) {k : Int} (h0 : 0 ≤ k) (h1 : k + wsum c_PartS xs ≤ 4611686018427387904) : l_markPartS_l xs k = some (mks m_PartS c_PartS xs k, k + wsum c_PartS xs) := by
  unfold l_markPartS_l
  rw [mark_loop l_markPartS_l_L1 m_PartS c_PartS xs (by
    intro ys i hi k hlen hmem h0 hk
    have hc : ((i : Nat) : Int) < ((ys.length : Nat) : Int) := by omega
    have g1 : ∀ x, (ys.set i x)[i]? = some x := fun x => List.getElem?_set_self hi
    simp only [c_PartS] at hk
    have w1 : IntKind.wrap .i64 (k + 1) = k + 1 := w64 (by omega) (by omega)
    have w2 : IntKind.wrap .i64 (k + 1 + 1) = k + 2 := by rw [w64 (by omega) (by omega)]; omega
    have w3 : IntKind.wrap .i64 (k + 2 + 1) = k + 3 := by rw [w64 (by omega) (by omega)]; omega
    have hm := mt_eq (k := k + 2) (by omega) (by omega)
    unfold l_markPartS_l_L1
    simp only [List.length_set, hc, decide_true, if_true, show (0 : Int) ≤ ((i : Nat) : Int) from by omega, Int.toNat_natCast, List.getElem?_eq_getElem hi, Option.bind_some, Nat.zero_add, List.set_set, g1, ixS (show ys.length ≤ 4611686018427387904 by omega) hi, w1, w2, w3, hm, m_PartS, c_PartS, n3]) (by intro ys k; simp [l_markPartS_l_L1]) h0 h1]
  rfl
theorem held_PartS {xs : List (Int × (Int × List UInt8))} (hl : xs.length ≤ 1099511627776) {k : Int} (h0 : 0 ≤ k) (h1 : k + wsum c_PartS xs ≤ 4611686018427387904) : l_heldPartS (mks m_PartS c_PartS xs k) k = some (k + wsum c_PartS xs) := by
  unfold l_heldPartS
  rw [held_loop l_heldPartS_L1 m_PartS c_PartS xs (by
    intro ys i hi x k hlen hmem hx h0 hk
    have hc : ((i : Nat) : Int) < ((ys.length : Nat) : Int) := by omega
    simp only [c_PartS] at hk
    have w1 : IntKind.wrap .i64 (k + 1) = k + 1 := w64 (by omega) (by omega)
    have w2 : IntKind.wrap .i64 (k + 1 + 1) = k + 2 := by rw [w64 (by omega) (by omega)]; omega
    have w3 : IntKind.wrap .i64 (k + 2 + 1) = k + 3 := by rw [w64 (by omega) (by omega)]; omega
    have hm := mt_eq (k := k + 2) (by omega) (by omega)
    unfold l_heldPartS_L1
    simp only [hc, decide_true, if_true, show (0 : Int) ≤ ((i : Nat) : Int) from by omega, Int.toNat_natCast, List.getElem?_eq_getElem hi, Option.bind_some, hx, ixS (show ys.length ≤ 4611686018427387904 by omega) hi, w1, w2, w3, hm, m_PartS, c_PartS, n3, not_true_eq_false, decide_false, Bool.false_eq_true, if_false, beq_self_eq_true, Bool.not_true]) (by intro ys k; simp [l_heldPartS_L1]) h0 h1]
  rfl
abbrev Hst := Int × (List UInt8 × (List (Int × Int) × List (List (Int × (Int × List UInt8)))))
def w_History (h : Hst) : Nat := h.2.1.length + w_RunS h.2.2.1 + w_ChangeS h.2.2.2
end Go.V.G

set_option linter.unusedVariables false
set_option linter.unusedSimpArgs false
set_option maxRecDepth 100000
namespace Go.V.G
open Go.V
structure FitP (c : List Prt) : Prop where
  l : fit_PartS c
  i : ∀ p ∈ c, I64 p.1 ∧ I64 p.2.1
structure FitH (t : List UInt8) (r : List Rn) (cs : List (List Prt)) : Prop where
  ht : t.length ≤ maxLen
  hr : fit_RunS r
  hc : fit_ChangeS cs
  hi : ∀ c ∈ cs, ∀ p ∈ c, I64 p.1 ∧ I64 p.2.1
theorem psum_w : ∀ c : List Prt, w_PartS c = c.length + psum c
  | [] => rfl
  | p :: c => by
    have ih := psum_w c
    simp only [w_PartS, wsum, w_Part, psum, List.length_cons] at ih ⊢
    omega
theorem wsum_le {α : Type} {w : α → Nat} {B : Nat} : ∀ {xs : List α}, (∀ x ∈ xs, w x ≤ B) → wsum w xs ≤ xs.length * B
  | [], _ => by simp [wsum]
  | x :: xs, h => by
    have ih := wsum_le (xs := xs) fun y hy => h y (by simp [hy])
    have := h x (by simp)
    simp only [wsum, List.length_cons, Nat.succ_mul]; omega
theorem w_good {c : List Prt} (h : good c = true) : w_PartS c ≤ 480 := by
  have := good_sm h
  have := this.len; have := (good_sm h).put
  rw [psum_w]; omega
theorem w_goods {cs : List (List Prt)} (h : ∀ c ∈ cs, good c = true) (hn : cs.length ≤ 1000) : w_ChangeS cs ≤ 1000000 := by
  have := wsum_le (w := w_PartS) (B := 480) fun c hc => w_good (h c hc)
  unfold w_ChangeS
  omega
theorem w_runs {l : List Rn} {n m : Int} (h : goodRuns l n m = true) : w_RunS l ≤ 120 := by
  obtain ⟨h1, _, h6⟩ := goodRuns_iff.1 h
  have := rlen_le h6.pos
  rw [h6.sum] at this
  unfold w_RunS
  omega
theorem GH.w {f : Int} {t : List UInt8} {r : List Rn} {cs : List (List Prt)} (g : GH f t r cs) : w_History (f, t, r, cs) ≤ 2000000 := by
  have := g.ht; have := g.hn; have := g.hf
  have h1 := w_goods (chn_mem g.hc) (by omega)
  have h2 := w_runs g.hr
  unfold w_History
  dsimp only
  omega
end Go.V.G

set_option linter.unusedVariables false
set_option linter.unusedSimpArgs false
set_option maxRecDepth 100000
namespace Go.V.G
open Go.V
structure Gp (p : Prt) : Prop where
  k0 : 0 ≤ p.1
  k1 : p.1 ≤ 120
  d0 : 0 ≤ p.2.1
  d1 : p.2.1 ≤ 120
  s1 : p.2.2.length ≤ 120
  ne : kd p ≠ 0
end Go.V.G

set_option linter.unusedVariables false
set_option linter.unusedSimpArgs false
set_option maxRecDepth 100000
namespace Go.V.G
open Go.V
def sW : List UInt8 → Option Prt
  | c :: d :: r => if c = 61 then some (numF (d :: r), 0, []) else if c = 45 then some (0, numF (d :: r), []) else if c = 43 then (unt (d :: r)).map fun t => (0, 0, t) else none
  | _ => none
def iW : List UInt8 → Option Prt
  | [] => none
  | c :: r => if c = 61 ∧ 0 < numF r then some (numF r, 0, []) else if c = 45 ∧ 0 < numF r then some (0, numF r, []) else if c = 43 then (unt r).map fun t => (0, 0, t) else none
theorem iW_cons (c : UInt8) (r : List UInt8) : iW (c :: r) = if c = 61 ∧ 0 < numF r then some (numF r, 0, []) else if c = 45 ∧ 0 < numF r then some (0, numF r, []) else if c = 43 then (unt r).map fun t => (0, 0, t) else none := rfl
theorem sW_cons (c d : UInt8) (r : List UInt8) : sW (c :: d :: r) = if c = 61 then some (numF (d :: r), 0, []) else if c = 45 then some (0, numF (d :: r), []) else if c = 43 then (unt (d :: r)).map fun t => (0, 0, t) else none := rfl
def mapO (f : List UInt8 → Option Prt) : List (List UInt8) → Option (List Prt)
  | [] => some []
  | w :: ws => match f w, mapO f ws with
    | some p, some ps => some (p :: ps)
    | _, _ => none
def resW (f : List UInt8 → Option Prt) (ws : List (List UInt8)) : List Prt × Bool := match mapO f ws with
  | none => ([], false)
  | some ps => if good ps = true then (ps, true) else ([], false)
def readT (x : List UInt8) : List Prt × Bool := if x = [46] then ([], true) else resW iW (splitF 32 x)
def Bad (o : Option Prt) : Prop := ∀ p, o = some p → kd p = 0
theorem bad_none : Bad none := fun p h => by cases h
theorem num_le (r : List UInt8) : -1 ≤ numF r ∧ numF r ≤ 9999 := by
  rcases num_cases r with h | ⟨m, h1, h2, _⟩
  · rw [h]; omega
  · rw [h2]; omega
theorem words_like (w : List UInt8) : iW w = sW w ∨ (Bad (iW w) ∧ Bad (sW w)) := by
  match w with
  | [] => exact .inl rfl
  | [c] =>
    right
    have hn : numF [] = -1 := rfl
    refine ⟨?_, bad_none⟩
    intro p hp
    rw [iW_cons, hn, if_neg (by omega), if_neg (by omega)] at hp
    split at hp
    · simp only [unt, Option.map_some, Option.some.injEq] at hp
      subst hp
      simp [kd]
    · cases hp
  | c :: d :: r =>
    rw [iW_cons, sW_cons]
    by_cases h1 : c = 61
    · subst h1
      by_cases h2 : 0 < numF (d :: r)
      · left; rw [if_pos ⟨rfl, h2⟩, if_pos rfl]
      · right
        rw [if_neg (fun h => h2 h.2), if_neg (fun h => absurd h.1 (by decide)), if_neg (by decide), if_pos rfl]
        refine ⟨bad_none, fun p hp => ?_⟩
        obtain rfl := Option.some.inj hp
        simp [kd]; omega
    · by_cases h3 : c = 45
      · subst h3
        by_cases h2 : 0 < numF (d :: r)
        · left; rw [if_neg (fun h => h1 h.1), if_pos ⟨rfl, h2⟩, if_neg h1, if_pos rfl]
        · right
          rw [if_neg (fun h => h1 h.1), if_neg (fun h => h2 h.2), if_neg (by decide), if_neg h1, if_pos rfl]
          refine ⟨bad_none, fun p hp => ?_⟩
          obtain rfl := Option.some.inj hp
          simp [kd]; omega
      · left
        rw [if_neg (fun h => h1 h.1), if_neg (fun h => h3 h.1), if_neg h1, if_neg h3]
theorem mapO_mem {f : List UInt8 → Option Prt} : ∀ {ws : List (List UInt8)} {ps : List Prt}, mapO f ws = some ps → ∀ w ∈ ws, ∃ p ∈ ps, f w = some p
  | [], _, _, w, hw => by cases hw
  | v :: ws, ps, h, w, hw => by
    rw [mapO] at h
    split at h
    · rename_i p qs h1 h2
      injection h with h
      subst h
      rcases List.mem_cons.1 hw with rfl | hw
      · exact ⟨p, by simp, h1⟩
      · obtain ⟨q, k1, k2⟩ := mapO_mem h2 w hw
        exact ⟨q, by simp [k1], k2⟩
    · cases h
theorem res_bad {f : List UInt8 → Option Prt} {ws : List (List UInt8)} {w : List UInt8} (hw : w ∈ ws) (hb : Bad (f w)) : resW f ws = ([], false) := by
  unfold resW
  cases h : mapO f ws with
  | none => rfl
  | some ps =>
    obtain ⟨p, h1, h2⟩ := mapO_mem h w hw
    dsimp only
    rw [if_neg]
    intro hg
    exact (okk_some (good_spec hg).1 p h1).ne (hb p h2)
theorem res_like (ws : List (List UInt8)) : resW sW ws = resW iW ws := by
  by_cases h : ∀ w ∈ ws, iW w = sW w
  · have : ∀ vs : List (List UInt8), (∀ w ∈ vs, iW w = sW w) → mapO sW vs = mapO iW vs := by
      intro vs
      induction vs with
      | nil => intro _; rfl
      | cons v vs ih => intro hv; rw [mapO, mapO, ih fun w hw => hv w (by simp [hw]), hv v (by simp)]
    unfold resW
    rw [this ws h]
  · have h2 : ∃ w, w ∈ ws ∧ ¬ iW w = sW w := by
      apply Classical.byContradiction
      intro hc
      exact h fun w hw => Classical.byContradiction fun hn => hc ⟨w, hw, hn⟩
    obtain ⟨w, hw, hne⟩ := h2
    obtain ⟨b1, b2⟩ := (words_like w).resolve_left hne
    rw [res_bad hw b1, res_bad hw b2]
structure Wp (w : List UInt8) (p : Prt) : Prop where
  i1 : I64 p.1
  i2 : I64 p.2.1
  l : p.2.2.length ≤ w.length
theorem iW_p {w : List UInt8} {p : Prt} (h : iW w = some p) : Wp w p := by
  cases w with
  | nil => cases h
  | cons c r =>
    have hn := num_le r
    rw [iW_cons] at h
    split at h
    · obtain rfl := Option.some.inj h; exact ⟨by unfold I64; dsimp only; omega, by unfold I64; dsimp only; omega, by simp⟩
    · split at h
      · obtain rfl := Option.some.inj h; exact ⟨by unfold I64; dsimp only; omega, by unfold I64; dsimp only; omega, by simp⟩
      · split at h
        · obtain ⟨t, h1, rfl⟩ := Option.map_eq_some_iff.1 h
          have := unt_len _ r t (Nat.le_refl _) h1
          exact ⟨by unfold I64; dsimp only; omega, by unfold I64; dsimp only; omega, by simp only [List.length_cons]; omega⟩
        · cases h
theorem sW_p {w : List UInt8} {p : Prt} (h : sW w = some p) : Wp w p := by
  match w, h with
  | [], h => cases h
  | [_], h => cases h
  | c :: d :: r, h =>
    have hn := num_le (d :: r)
    rw [sW_cons] at h
    split at h
    · obtain rfl := Option.some.inj h; exact ⟨by unfold I64; dsimp only; omega, by unfold I64; dsimp only; omega, by simp⟩
    · split at h
      · obtain rfl := Option.some.inj h; exact ⟨by unfold I64; dsimp only; omega, by unfold I64; dsimp only; omega, by simp⟩
      · split at h
        · obtain ⟨t, h1, rfl⟩ := Option.map_eq_some_iff.1 h
          have := unt_len _ (d :: r) t (Nat.le_refl _) h1
          simp only [List.length_cons] at this
          exact ⟨by unfold I64; dsimp only; omega, by unfold I64; dsimp only; omega, by simp only [List.length_cons]; omega⟩
        · cases h
theorem mapO_sm {f : List UInt8 → Option Prt} (hf : ∀ w p, f w = some p → Wp w p) : ∀ {ws : List (List UInt8)} {ps : List Prt}, mapO f ws = some ps → ps.length = ws.length ∧ psum ps ≤ (ws.map List.length).sum ∧ ∀ p ∈ ps, I64 p.1 ∧ I64 p.2.1
  | [], ps, h => by rw [mapO] at h; obtain rfl := Option.some.inj h; exact ⟨rfl, by simp [psum], fun p hp => by cases hp⟩
  | w :: ws, ps, h => by
    rw [mapO] at h
    split at h
    · rename_i p qs h1 h2
      injection h with h
      subst h
      obtain ⟨k1, k2, k3⟩ := mapO_sm hf h2
      have hw := hf w p h1
      refine ⟨by simp [k1], ?_, ?_⟩
      · have := hw.l
        simp only [psum, List.map_cons, List.sum_cons]; omega
      · intro q hq
        rcases List.mem_cons.1 hq with rfl | hq
        · exact ⟨hw.i1, hw.i2⟩
        · exact k3 q hq
    · cases h
theorem mapO_drop {f : List UInt8 → Option Prt} {ws : List (List UInt8)} {k : Nat} (h : k < ws.length) : mapO f (ws.drop k) = match f ws[k], mapO f (ws.drop (k + 1)) with
    | some p, some ps => some (p :: ps)
    | _, _ => none := by rw [List.drop_eq_getElem_cons h, mapO]
theorem rest_of (c : UInt8) (r : List UInt8) : (((c :: r) : List UInt8).drop (Int.toNat 1)).take (Int.toNat ((List.length (c :: r) : Nat) : Int) - Int.toNat 1) = r := by
  rw [Int.toNat_natCast, show Int.toNat 1 = 1 from rfl, List.drop_succ_cons, List.drop_zero]
  exact List.take_of_length_le (by simp)
theorem s_read_step {ws : List (List UInt8)} {out : List Prt} {k : Nat} (hl : ws.length ≤ 1099511627776) (ho : out.length ≤ k) (hk : k < ws.length) (hlen : ws[k].length ≤ 1099511627776) :
    s_ReadChangeText_L1 (out, ws, ((List.length ws : Nat) : Int), ((k : Nat) : Int)) = match sW ws[k] with
      | some p => some (.inl (out ++ [p], ws, ((List.length ws : Nat) : Int), ((k + 1 : Nat) : Int)))
      | none => some (.inr (.inr false)) := by
  have i1 : (((k : Nat) : Int) < ((List.length ws : Nat) : Int)) := by omega
  have i0 : (0 : Int) ≤ ((k : Nat) : Int) := by omega
  have i3 : IntKind.wrap .i64 (((k : Nat) : Int) + 1) = ((k + 1 : Nat) : Int) := idx_succ hl hk
  have hr : ∀ x : Prt, roomFor (List.length out + List.length ([x] : List Prt)) 32 = true := by intro x; unfold roomFor; simp only [List.length_singleton, decide_eq_true_eq]; omega
  have hget : ws[0 + Int.toNat ((k : Nat) : Int)]? = some ws[k] := by rw [Int.toNat_natCast, Nat.zero_add]; exact List.getElem?_eq_getElem hk
  unfold s_ReadChangeText_L1
  dsimp only
  generalize ws[k] = w at hget hlen
  match w, hget, hlen with
  | [], hget, _ =>
    have q : (((List.length ([] : List UInt8) : Nat) : Int) < 2) := by simp
    simp only [i1, i0, hget, q, decide_true, if_true, Option.bind_some, sW]
  | [c], hget, _ =>
    have q : (((List.length [c] : Nat) : Int) < 2) := by simp
    simp only [i1, i0, hget, q, decide_true, if_true, Option.bind_some, sW]
  | c :: d :: r, hget, hlen =>
    have q : ¬ (((List.length (c :: d :: r) : Nat) : Int) < 2) := by simp only [List.length_cons]; omega
    have q1 : (1 : Int) ≤ ((List.length (c :: d :: r) : Nat) : Int) := by simp only [List.length_cons]; omega
    have h0 : (c :: d :: r)[Int.toNat 0]? = some c := rfl
    have hrest := rest_of c (d :: r)
    have hu := s_untold_eq (xs := d :: r) (by simp only [List.length_cons] at hlen ⊢; omega)
    have hnum := s_number_eq (d :: r)
    have o1 : (0 : Int) ≤ 1 := by decide
    have e61 : (61 : UInt8).toNat = 61 := rfl
    have e45 : (45 : UInt8).toNat = 45 := rfl
    have e43 : (43 : UInt8).toNat = 43 := rfl
    rw [sW_cons]
    generalize hw : c :: d :: r = w at hget q q1 h0 hrest
    by_cases h1 : c = 61
    · have n1 : ((c.toNat : Nat) : Int) = 61 := by rw [h1, e61]; rfl
      rw [if_pos h1]
      simp only [i1, i0, hget, q, q1, h0, hrest, hnum, o1, n1, hr, i3, Int.le_refl, decide_true, decide_false, Bool.false_eq_true, if_true, if_false, Option.bind_some]
    · have n1 : ¬ ((c.toNat : Nat) : Int) = 61 := fun e => h1 (UInt8.toNat_inj.1 (by omega))
      rw [if_neg h1]
      by_cases h2 : c = 45
      · have n2 : ((c.toNat : Nat) : Int) = 45 := by rw [h2, e45]; rfl
        rw [if_pos h2]
        simp only [i1, i0, hget, q, q1, h0, hrest, hnum, o1, n2, (by decide : ¬ (45 : Int) = 61), hr, i3, Int.le_refl, decide_true, decide_false, Bool.false_eq_true, if_true, if_false, Option.bind_some]
      · have n2 : ¬ ((c.toNat : Nat) : Int) = 45 := fun e => h2 (UInt8.toNat_inj.1 (by omega))
        rw [if_neg h2]
        by_cases h3 : c = 43
        · have n3 : ((c.toNat : Nat) : Int) = 43 := by rw [h3, e43]; rfl
          rw [if_pos h3]
          cases hx : unt (d :: r) with
          | none =>
            rw [hx] at hu
            simp only [i1, i0, hget, q, q1, h0, hrest, hu, o1, n3, (by decide : ¬ (43 : Int) = 61), (by decide : ¬ (43 : Int) = 45), hr, i3, Int.le_refl, decide_true, decide_false, Bool.not_false, Bool.false_eq_true, if_true, if_false, Option.bind_some, Option.map_none]
          | some t =>
            rw [hx] at hu
            simp only [i1, i0, hget, q, q1, h0, hrest, hu, o1, n3, (by decide : ¬ (43 : Int) = 61), (by decide : ¬ (43 : Int) = 45), hr, i3, Int.le_refl, decide_true, decide_false, Bool.not_true, Bool.false_eq_true, if_true, if_false, Option.bind_some, Option.map_some]
        · have n3 : ¬ ((c.toNat : Nat) : Int) = 43 := fun e => h3 (UInt8.toNat_inj.1 (by omega))
          rw [if_neg h3]
          simp only [i1, i0, hget, q, q1, h0, o1, n1, n2, n3, Int.le_refl, decide_true, decide_false, Bool.false_eq_true, if_true, if_false, Option.bind_some]
theorem i_read_step {ws : List (List UInt8)} {out : List Prt} {k : Nat} (hl : ws.length ≤ 1099511627776) (ho : out.length ≤ k) (hk : k < ws.length) (hlen : ws[k].length ≤ 1099511627776) :
    i_ReadChangeText_L1 (out, ws, ((List.length ws : Nat) : Int), ((k : Nat) : Int)) = match iW ws[k] with
      | some p => some (.inl (out ++ [p], ws, ((List.length ws : Nat) : Int), ((k + 1 : Nat) : Int)))
      | none => some (.inr (.inr false)) := by
  have i1 : (((k : Nat) : Int) < ((List.length ws : Nat) : Int)) := by omega
  have i0 : (0 : Int) ≤ ((k : Nat) : Int) := by omega
  have i3 : IntKind.wrap .i64 (((k : Nat) : Int) + 1) = ((k + 1 : Nat) : Int) := idx_succ hl hk
  have hr : ∀ x : Prt, roomFor (List.length out + List.length ([x] : List Prt)) 32 = true := by intro x; unfold roomFor; simp only [List.length_singleton, decide_eq_true_eq]; omega
  have hget : ws[0 + Int.toNat ((k : Nat) : Int)]? = some ws[k] := by rw [Int.toNat_natCast, Nat.zero_add]; exact List.getElem?_eq_getElem hk
  unfold i_ReadChangeText_L1
  dsimp only
  generalize ws[k] = w at hget hlen
  match w, hget, hlen with
  | [], hget, _ =>
    simp only [i1, i0, hget, decide_true, if_true, Option.bind_some, beq_self_eq_true, iW]
  | c :: r, hget, hlen =>
    have q : ((c :: r : List UInt8) == []) = false := rfl
    have q1 : (1 : Int) ≤ ((List.length (c :: r) : Nat) : Int) := by simp only [List.length_cons]; omega
    have h0 : (c :: r)[Int.toNat 0]? = some c := rfl
    have hrest := rest_of c r
    have hrl : r.length ≤ 1099511627776 := by simp only [List.length_cons] at hlen; omega
    obtain ⟨t, b, hu, hx⟩ := i_decoded_eq (xs := r) hrl
    have hnum := i_num_eq (r := r) (by omega)
    have o1 : (0 : Int) ≤ 1 := by decide
    have e61 : (61 : UInt8).toNat = 61 := rfl
    have e45 : (45 : UInt8).toNat = 45 := rfl
    have e43 : (43 : UInt8).toNat = 43 := rfl
    rw [iW_cons]
    generalize numF r = m at hnum
    generalize hw : c :: r = w at hget q q1 h0 hrest
    by_cases h1 : c = 61
    · have n1 : ((c.toNat : Nat) : Int) = 61 := by rw [h1, e61]; rfl
      have c2 : ¬ c = 45 := by rw [h1]; decide
      have c3 : ¬ c = 43 := by rw [h1]; decide
      by_cases hm : 0 < m
      · rw [if_pos (show c = 61 ∧ 0 < m from ⟨h1, hm⟩)]
        simp only [i1, i0, hget, q, q1, h0, hrest, hnum, hm, o1, n1, hr, i3, Int.le_refl, decide_true, decide_false, Bool.false_eq_true, if_true, if_false, Option.bind_some]
      · rw [if_neg (show ¬ (c = 61 ∧ 0 < m) from fun h => hm h.2), if_neg (show ¬ (c = 45 ∧ 0 < m) from fun h => hm h.2), if_neg c3]
        simp only [i1, i0, hget, q, q1, h0, hrest, hnum, hm, o1, n1, (by decide : ¬ (61 : Int) = 45), (by decide : ¬ (61 : Int) = 43), hr, i3, Int.le_refl, decide_true, decide_false, Bool.false_eq_true, if_true, if_false, Option.bind_some]
    · have n1 : ¬ ((c.toNat : Nat) : Int) = 61 := fun e => h1 (UInt8.toNat_inj.1 (by omega))
      rw [if_neg (show ¬ (c = 61 ∧ 0 < m) from fun h => h1 h.1)]
      by_cases h2 : c = 45
      · have n2 : ((c.toNat : Nat) : Int) = 45 := by rw [h2, e45]; rfl
        have c3 : ¬ c = 43 := by rw [h2]; decide
        by_cases hm : 0 < m
        · rw [if_pos (show c = 45 ∧ 0 < m from ⟨h2, hm⟩)]
          simp only [i1, i0, hget, q, q1, h0, hrest, hnum, hm, o1, n2, (by decide : ¬ (45 : Int) = 61), hr, i3, Int.le_refl, decide_true, decide_false, Bool.false_eq_true, if_true, if_false, Option.bind_some]
        · rw [if_neg (show ¬ (c = 45 ∧ 0 < m) from fun h => hm h.2), if_neg c3]
          simp only [i1, i0, hget, q, q1, h0, hrest, hnum, hm, o1, n2, (by decide : ¬ (45 : Int) = 61), (by decide : ¬ (45 : Int) = 43), hr, i3, Int.le_refl, decide_true, decide_false, Bool.false_eq_true, if_true, if_false, Option.bind_some]
      · have n2 : ¬ ((c.toNat : Nat) : Int) = 45 := fun e => h2 (UInt8.toNat_inj.1 (by omega))
        rw [if_neg (show ¬ (c = 45 ∧ 0 < m) from fun h => h2 h.1)]
        by_cases h3 : c = 43
        · have n3 : ((c.toNat : Nat) : Int) = 43 := by rw [h3, e43]; rfl
          rw [if_pos h3]
          cases hy : unt r with
          | none =>
            rw [hy] at hx
            dsimp only at hx
            subst hx
            simp only [i1, i0, hget, q, q1, h0, hrest, hnum, hu, o1, n3, (by decide : ¬ (43 : Int) = 61), (by decide : ¬ (43 : Int) = 45), hr, i3, Int.le_refl, decide_true, decide_false, Bool.not_false, Bool.false_eq_true, if_true, if_false, Option.bind_some, Option.map_none]
          | some u =>
            rw [hy] at hx
            obtain ⟨rfl, rfl⟩ := hx
            simp only [i1, i0, hget, q, q1, h0, hrest, hnum, hu, o1, n3, (by decide : ¬ (43 : Int) = 61), (by decide : ¬ (43 : Int) = 45), hr, i3, Int.le_refl, decide_true, decide_false, Bool.not_true, Bool.false_eq_true, if_true, if_false, Option.bind_some, Option.map_some]
        · have n3 : ¬ ((c.toNat : Nat) : Int) = 43 := fun e => h3 (UInt8.toNat_inj.1 (by omega))
          rw [if_neg h3]
          simp only [i1, i0, hget, q, q1, h0, hrest, hnum, o1, n1, n2, n3, Int.le_refl, decide_true, decide_false, Bool.false_eq_true, if_true, if_false, Option.bind_some]
end Go.V.G

set_option linter.unusedVariables false
set_option linter.unusedSimpArgs false
set_option maxRecDepth 100000
namespace Go.V.G
open Go.V
theorem len_sum : ∀ {ws : List (List UInt8)} {w : List UInt8}, w ∈ ws → w.length ≤ (ws.map List.length).sum
  | v :: ws, w, h => by
    rcases List.mem_cons.1 h with rfl | h
    · simp
    · have := len_sum h
      simp only [List.map_cons, List.sum_cons]; omega
def loopE (f : List UInt8 → Option Prt) (ws : List (List UInt8)) (out : List Prt) (k : Nat) : List Prt ⊕ Bool := match mapO f (ws.drop k) with
  | some ps => .inl (out ++ ps)
  | none => .inr false
theorem read_loop (g : List Prt × (List (List UInt8) × (Int × Int)) → Option ((List Prt × (List (List UInt8) × (Int × Int))) ⊕ (List Prt ⊕ Bool))) (f : List UInt8 → Option Prt) {ws : List (List UInt8)}
    (step : ∀ (out : List Prt) (k : Nat), out.length ≤ k → (hk : k < ws.length) → g (out, ws, ((List.length ws : Nat) : Int), ((k : Nat) : Int)) = match f ws[k] with
      | some p => some (.inl (out ++ [p], ws, ((List.length ws : Nat) : Int), ((k + 1 : Nat) : Int)))
      | none => some (.inr (.inr false)))
    (last : ∀ out : List Prt, g (out, ws, ((List.length ws : Nat) : Int), ((ws.length : Nat) : Int)) = some (.inr (.inl out))) :
    loopG g ([], ws, ((List.length ws : Nat) : Int), 0) = some (match mapO f ws with
      | some ps => .inl ps
      | none => .inr false) := by
  have hl := loop_fn g (fun y => ∃ (out : List Prt) (k : Nat), y = (out, ws, ((List.length ws : Nat) : Int), ((k : Nat) : Int)) ∧ out.length ≤ k ∧ k ≤ ws.length) (fun y => ws.length - y.2.2.2.toNat) (fun y => loopE f ws y.1 y.2.2.2.toNat) (by
    rintro _ ⟨out, k, rfl, ho, hk⟩
    dsimp only
    rw [Int.toNat_natCast]
    by_cases hkn : k < ws.length
    · rw [step out k ho hkn]
      cases hf : f ws[k] with
      | none =>
        right
        unfold loopE
        rw [mapO_drop hkn, hf]
      | some p =>
        left
        refine ⟨_, rfl, ⟨_, _, rfl, by rw [List.length_append, List.length_singleton]; omega, by omega⟩, ?_, ?_⟩
        · dsimp only; rw [Int.toNat_natCast]; omega
        · dsimp only
          rw [Int.toNat_natCast]
          unfold loopE
          rw [mapO_drop hkn, hf]
          cases mapO f (ws.drop (k + 1)) with
          | none => rfl
          | some ps => simp
    · right
      obtain rfl : k = ws.length := by omega
      rw [last]
      unfold loopE
      rw [List.drop_eq_nil_of_le (Nat.le_refl _), mapO]
      simp) ([], ws, ((List.length ws : Nat) : Int), 0) ⟨[], 0, rfl, by simp, by omega⟩
  rw [hl]
  unfold loopE
  dsimp only
  rw [show Int.toNat 0 = 0 from rfl, List.drop_zero]
  cases mapO f ws <;> simp
theorem split_len (b : UInt8) (x : List UInt8) : (splitF b x).length ≤ x.length + 1 ∧ ((splitF b x).map List.length).sum ≤ x.length := by
  have := split_sum b x
  have : 1 ≤ (splitF b x).length := by
    cases h : splitF b x with
    | nil => rw [h] at this; simp at this
    | cons a l => simp
  omega
theorem s_read_eq {x : List UInt8} (hx : x.length ≤ 1048576) : s_ReadChangeText x = some (readT x) := by
  unfold s_ReadChangeText readT
  by_cases h : x = [46]
  · rw [if_pos (by simpa using h), if_pos h]
  · rw [if_neg (by simpa using h), if_neg h]
    obtain ⟨l1, l2⟩ := split_len 32 x
    have hs := s_split_eq x 32 (by omega)
    rw [show (((32 : UInt8).toNat : Nat) : Int) = 32 from rfl] at hs
    rw [hs, Option.bind_some]
    generalize splitF 32 x = ws at l1 l2
    rw [read_loop s_ReadChangeText_L1 sW (ws := ws) (fun out k ho hk => s_read_step (by omega) ho hk (by have := len_sum (List.getElem_mem hk); omega)) (fun out => by
      unfold s_ReadChangeText_L1
      dsimp only
      rw [if_neg (by simp)]), Option.bind_some, ← res_like]
    unfold resW
    cases hm : mapO sW ws with
    | none => rfl
    | some ps =>
      obtain ⟨k1, k2, k3⟩ := mapO_sm (fun w p => sW_p) hm
      dsimp only
      have hsm : Sm 1048577 ps := ⟨by omega, by omega, k3⟩
      rw [s_Good_eq hsm (by omega), Option.bind_some]
      by_cases hg : good ps = true
      · rw [if_neg (by simp [hg]), if_pos hg]
      · rw [if_pos (by simpa using hg), if_neg hg]
theorem i_read_eq {x : List UInt8} (hx : x.length ≤ 1048576) : i_ReadChangeText x = some (readT x) := by
  unfold i_ReadChangeText readT
  by_cases h : x = [46]
  · rw [if_pos (by simpa using h), if_pos h]
  · rw [if_neg (by simpa using h), if_neg h]
    obtain ⟨l1, l2⟩ := split_len 32 x
    have hs : strings_Split x [32] = some (splitF 32 x) := by
      unfold strings_Split
      dsimp only
      rw [if_pos (by omega)]
    rw [hs, Option.bind_some]
    generalize splitF 32 x = ws at l1 l2
    rw [read_loop i_ReadChangeText_L1 iW (ws := ws) (fun out k ho hk => i_read_step (by omega) ho hk (by have := len_sum (List.getElem_mem hk); omega)) (fun out => by
      unfold i_ReadChangeText_L1
      dsimp only
      rw [if_neg (by simp)]), Option.bind_some]
    unfold resW
    cases hm : mapO iW ws with
    | none => rfl
    | some ps =>
      obtain ⟨k1, k2, k3⟩ := mapO_sm (fun w p => iW_p) hm
      dsimp only
      have hsm : Sm 1048577 ps := ⟨by omega, by omega, k3⟩
      rw [i_Good_eq hsm (by omega), Option.bind_some]
      by_cases hg : good ps = true
      · rw [if_neg (by simp [hg]), if_pos hg]
      · rw [if_pos (by simpa using hg), if_neg hg]
theorem readT_w (x : List UInt8) : w_PartS (readT x).1 ≤ 480 := by
  unfold readT
  split
  · simp [w_PartS, wsum]
  · unfold resW
    split
    · simp [w_PartS, wsum]
    · split
      · rename_i h; exact w_good h
      · simp [w_PartS, wsum]
end Go.V.G

set_option linter.unusedVariables false
set_option linter.unusedSimpArgs false
set_option maxRecDepth 100000
namespace Go.V.G
open Go.V
theorem readText_exact (x : List UInt8) : l_FnExactReadChangeText x = some true := by
  unfold l_FnExactReadChangeText
  by_cases hx : 1048576 < x.length
  · rw [if_pos (by simp; omega)]
  · rw [if_neg (by simp; omega)]
    have h1 := s_read_eq (x := x) (by omega)
    have h2 := i_read_eq (x := x) (by omega)
    have hzw := readT_w x
    generalize readT x = z at h1 h2 hzw
    have hq : l_eqPartS z.1 z.1 = some true := eq_PartS (by omega)
    have hlz := w_PartS_len z.1
    have hcz := cb_PartS z.1
    have hm : l_markPartS_l z.1 1 = _ := mark_PartS (xs := z.1) (by omega) (by omega) (by omega)
    have hh : l_heldPartS (mks m_PartS c_PartS z.1 1) 1 = _ := held_PartS (xs := z.1) (by omega) (by omega) (by omega)
    have hn2 : ¬ ((1 : Int) + ((wsum c_PartS z.1 : Nat) : Int) < 0) := by omega
    simp only [h1, h2, hq, hm, hh, hn2, Option.bind_some, Bool.not_true, Bool.false_eq_true, if_false, not_true_eq_false, decide_false, bne_self_eq_false]
end Go.V.G
namespace Go.Proofs.YtijemcbcchnnjaaDoor
open Go.V
theorem pure_FnExactReadChangeText (x0 : List UInt8) (g0 : Fits .str x0) : G.l_FnExactReadChangeText x0 = some true := G.readText_exact x0
end Go.Proofs.YtijemcbcchnnjaaDoor
