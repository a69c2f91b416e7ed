/-
  The pure law of FnExactGoodCall.
-/
import Derived.Test.YtdicgiljgelkfaaF1
import Derived.Test.YtdicgiljgelkfaaP0
import Derived.Test.YtdicgiljgelkfaaS25
set_option linter.unusedVariables false
set_option linter.unusedSimpArgs false
set_option maxRecDepth 100000
namespace Go.V.G
abbrev Prt := Int × (Int × List UInt8)

theorem szPartS_ok (xs : List Prt) (hl : List.length xs ≤ maxLen) (hs : ∀ x ∈ xs, List.length x.2.2 ≤ maxLen) : ∃ r, l_szPartS xs 1048576 = some r ∧ (0 ≤ r → xs.length ≤ 1048576) := by
  unfold maxLen at hl hs
  unfold l_szPartS
  rw [w64 (by omega) (by omega)]
  by_cases h : (1048576 - ((List.length xs : Nat) : Int)) < 0
  · exact ⟨-1, by simp [h], by omega⟩
  · obtain ⟨z, hz, hq⟩ := loop_inv l_szPartS_L1 (fun y => y.1 = xs ∧ 0 ≤ y.2.1 ∧ y.2.1 ≤ 1048576 ∧ 0 ≤ y.2.2 ∧ y.2.2 ≤ xs.length) (fun y => (xs.length - y.2.2).toNat) (fun _ => True) (by
      rintro ⟨ys, l, i⟩ ⟨rfl, h1, h2, h3, h4⟩
      simp only at h1 h2 h3 h4 hl hs
      unfold l_szPartS_L1
      by_cases hi : i < ys.length
      · have hit : i.toNat < ys.length := by omega
        have hx := hs _ (List.getElem_mem hit)
        simp only [hi, h3, decide_true, if_true, List.getElem?_eq_getElem hit, Option.bind_some, l_szPart]
        rw [w64 (by omega) (by omega)]
        by_cases hn : l - ((List.length (ys[i.toNat]).2.2 : Nat) : Int) < 0
        · right; exact ⟨.inr (-1), by simp [hn], trivial⟩
        · left
          refine ⟨(ys, l - ((List.length (ys[i.toNat]).2.2 : Nat) : Int), i + 1), ?_, ⟨rfl, by simp only; omega, by simp only; omega, by simp only; omega, by simp only; omega⟩, by simp only; omega⟩
          have e : IntKind.wrap .i64 (i + 1) = i + 1 := w64 (by omega) (by omega)
          simp [hn, e]
      · right; exact ⟨.inl l, by simp [hi], trivial⟩) (xs, 1048576 - ((List.length xs : Nat) : Int), 0) ⟨rfl, by simp only; omega, by simp only; omega, Int.le_refl _, by simp⟩
    have hd : (decide (1048576 - ((List.length xs : Nat) : Int) < 0)) = false := by simpa using h
    simp only [hd, hz, Option.bind_some]
    cases z with
    | inl y => exact ⟨y, by simp, by omega⟩
    | inr y => exact ⟨y, by simp, by omega⟩

theorem toPartS_eq (xs : List Prt) (hl : List.length xs ≤ 1048576) : l_toPartS xs = some xs := by
  unfold l_toPartS
  have h1 : roomFor (Int.toNat ((List.length xs : Nat) : Int)) 32 = true := by simp [roomFor]; omega
  have hz : loopG l_toPartS_L1 (xs, List.replicate (Int.toNat ((List.length xs : Nat) : Int)) (((0, (0, [])) : Prt)), 0) = some xs := by
    have := loop_run l_toPartS_L1 (fun k => (xs, xs.take k ++ List.replicate (xs.length - k) (((0, (0, [])) : Prt)), (k : Int))) xs.length xs (by
      intro k hk
      have hlen : (xs.take k ++ List.replicate (xs.length - k) (((0, (0, [])) : Prt))).length = xs.length := by simp; omega
      have e : IntKind.wrap .i64 ((k : Int) + 1) = ((k + 1 : Nat) : Int) := by rw [w64 (by omega) (by omega)]; omega
      have hki : (k : Int) < ((List.length xs : Nat) : Int) := by omega
      have hk0 : (0 : Int) ≤ (k : Int) := by omega
      unfold l_toPartS_L1
      simp only [hki, hk0, decide_true, if_true, Int.toNat_natCast, List.getElem?_eq_getElem hk, Option.bind_some, l_toPart, hlen, Nat.zero_add, e]
      rw [List.getElem?_eq_getElem (show k < (xs.take k ++ List.replicate (xs.length - k) (((0, (0, [])) : Prt))).length by rw [hlen]; exact hk)]
      generalize hL : xs.take k ++ List.replicate (xs.length - k) (((0, (0, [])) : Prt)) = L at hlen
      have g1 : ∀ x : Prt, (L.set k x)[k]? = some x := fun x => List.getElem?_set_self (by omega)
      simp only [Option.bind_some, g1, List.set_set]
      subst hL
      rw [show xs.length - k = (xs.length - (k + 1)) + 1 by omega, List.replicate_succ, List.take_succ_eq_append_getElem hk, List.set_append_right _ _ (by simp; omega)]
      rw [List.length_take, Nat.min_eq_left (Nat.le_of_lt hk), Nat.sub_self, List.set_cons_zero, List.append_assoc]
      rfl) (by simp [l_toPartS_L1])
    simpa using this
  simp only [h1, hz]
  simp

theorem eqPart_self (x : Prt) : l_eqPart x.1 x.2.1 x.2.2 x.1 x.2.1 x.2.2 = some true := by simp [l_eqPart]
theorem eqPartS_self (xs : List Prt) (hl : List.length xs ≤ 1048576) : l_eqPartS xs xs = some true := by
  unfold l_eqPartS
  have hz : loopG l_eqPartS_L1 (xs, xs, 0) = some (.inl ()) := by
    have := loop_run l_eqPartS_L1 (fun k => (xs, xs, (k : Int))) xs.length (.inl ()) (by
      intro k hk
      have e : IntKind.wrap .i64 ((k : Int) + 1) = ((k + 1 : Nat) : Int) := by rw [w64 (by omega) (by omega)]; omega
      have hki : (k : Int) < ((List.length xs : Nat) : Int) := by omega
      unfold l_eqPartS_L1
      simp [hki, List.getElem?_eq_getElem hk, eqPart_self, e]) (by simp [l_eqPartS_L1])
    simpa using this
  simp [hz]

theorem goodCall_same (a b : Int) (xs : List Prt) : i_GoodCall a b xs = s_GoodCall a b xs := rfl
theorem goodCall_some (a b : Int) (xs : List Prt) : ∃ r, s_GoodCall a b xs = some r := by
  unfold s_GoodCall
  by_cases h1 : a = 1 <;> by_cases h2 : a = 2 <;> simp [h1, h2]

theorem exactGoodCall (a b : Int) (xs : List Prt) (hl : List.length xs ≤ maxLen) (hs : ∀ x ∈ xs, List.length x.2.2 ≤ maxLen) : l_FnExactGoodCall a b xs = some true := by
  obtain ⟨r, hr, hr0⟩ := szPartS_ok xs hl hs
  unfold l_FnExactGoodCall
  have hsz : ∃ c, l_szCall a b xs 1048576 = some c ∧ (0 ≤ c → xs.length ≤ 1048576) := by
    unfold l_szCall
    rw [hr]
    by_cases h : r < 0
    · exact ⟨-1, by simp [h], by omega⟩
    · exact ⟨r, by simp [h], hr0⟩
  obtain ⟨c, hc, hc0⟩ := hsz
  rw [hc]
  simp only [Option.bind_some]
  by_cases h : c < 0
  · simp [h]
  · have hle := hc0 (by omega)
    obtain ⟨q, hq⟩ := goodCall_some a b xs
    have hto : l_toCall a b xs = some (a, b, xs) := by simp [l_toCall, toPartS_eq xs hle]
    have heq : l_eqCall a b xs a b xs = some true := by simp [l_eqCall, eqPartS_self xs hle]
    simp [h, hto, goodCall_same, hq, heq]
end Go.V.G
namespace Go.Proofs.Ytdicgiljgelkfaa
open Go.V
theorem pure_FnExactGoodCall (x0 x1 : Int) (x2 : List G.Prt) (g0 : ∀ l ∈ ([⟨.int .i64, x0⟩, ⟨.int .i64, x1⟩, ⟨.sl false 119 (.pair (.int .i64) (.pair (.int .i64) .str)), x2⟩] : List ALeaf), Fits l.1 l.2) : G.l_FnExactGoodCall x0 x1 x2 = some true := by
  have h := g0 ⟨.sl false 119 (.pair (.int .i64) (.pair (.int .i64) .str)), x2⟩ (by simp)
  exact G.exactGoodCall x0 x1 x2 h.1 fun x hx => (h.2 x hx).2.2
end Go.Proofs.Ytdicgiljgelkfaa
