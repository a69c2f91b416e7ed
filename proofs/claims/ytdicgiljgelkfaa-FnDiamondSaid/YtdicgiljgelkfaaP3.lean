/-
  P3: good changes, their lengths.
-/
import Derived.Test.YtdicgiljgelkfaaP2
set_option linter.unusedVariables false
set_option linter.unusedSimpArgs false
set_option maxRecDepth 100000
namespace Go.V.G
open Go.V

def src : List Prt → Int
  | [] => 0
  | p :: l => p.1 + p.2.1 + src l
def tgt : List Prt → Int
  | [] => 0
  | p :: l => p.1 + p.2.2.length + tgt l
theorem src_append : ∀ a b : List Prt, src (a ++ b) = src a + src b
  | [], b => by simp [src]
  | p :: a, b => by simp only [List.cons_append, src, src_append a b]; omega
theorem tgt_append : ∀ a b : List Prt, tgt (a ++ b) = tgt a + tgt b
  | [], b => by simp [tgt]
  | p :: a, b => by simp only [List.cons_append, tgt, tgt_append a b]; omega
/-- behind a part of kind k: kinds that are some, and never twice the same -/
def okk : Int → List Prt → Bool
  | _, [] => true
  | k, p :: l => !(decide (kd p = 0)) && !(decide (kd p = k)) && okk (kd p) l
def good (c : List Prt) : Bool := okk 0 c && decide (src c ≤ 120) && decide (tgt c ≤ 120)

/-- a part of some kind -/
structure Some1 (p : Prt) : Prop where
  k : 0 ≤ p.1
  d : 0 ≤ p.2.1
  ne : kd p ≠ 0
theorem some1_of {p : Prt} (h : kd p ≠ 0) : Some1 p := by
  refine ⟨?_, ?_, h⟩ <;> (unfold kd at h; split at h; omega; split at h; omega; split at h; omega; exact absurd rfl h)
theorem okk_some : ∀ {k : Int} {l : List Prt}, okk k l = true → ∀ p ∈ l, Some1 p
  | k, q :: l, h, p, hp => by
    simp only [okk, Bool.and_eq_true, Bool.not_eq_true', decide_eq_false_iff_not] at h
    rcases List.mem_cons.1 hp with rfl | hp
    · exact some1_of h.1.1
    · exact okk_some h.2 p hp
theorem src_nonneg : ∀ {l : List Prt}, (∀ p ∈ l, Some1 p) → 0 ≤ src l
  | [], _ => Int.le_refl _
  | p :: l, h => by
    have h1 := h p (by simp)
    have h2 := src_nonneg (l := l) (fun q hq => h q (by simp [hq]))
    have := h1.k; have := h1.d
    simp only [src]; omega
theorem tgt_nonneg : ∀ {l : List Prt}, (∀ p ∈ l, Some1 p) → 0 ≤ tgt l
  | [], _ => Int.le_refl _
  | p :: l, h => by
    have h1 := h p (by simp)
    have h2 := tgt_nonneg (l := l) (fun q hq => h q (by simp [hq]))
    have := h1.k
    simp only [tgt]; omega

theorem cut_at {l : List Prt} {i : Nat} (h : i < l.length) : l = l.take i ++ l[i] :: l.drop (i + 1) := by
  rw [← List.drop_eq_getElem_cons h, List.take_append_drop]
theorem src_at {l : List Prt} {i : Nat} (h : i < l.length) : src l = src (l.take i) + (l[i].1 + l[i].2.1 + src (l.drop (i + 1))) := by
  conv => lhs; rw [cut_at h]
  rw [src_append]; rfl
theorem tgt_at {l : List Prt} {i : Nat} (h : i < l.length) : tgt l = tgt (l.take i) + (l[i].1 + l[i].2.2.length + tgt (l.drop (i + 1))) := by
  conv => lhs; rw [cut_at h]
  rw [tgt_append]; rfl
theorem src_take {l : List Prt} {i : Nat} (h : i < l.length) : src (l.take (i + 1)) = src (l.take i) + (l[i].1 + l[i].2.1) := by
  rw [List.take_succ_eq_append_getElem h, src_append]; simp [src]
theorem tgt_take {l : List Prt} {i : Nat} (h : i < l.length) : tgt (l.take (i + 1)) = tgt (l.take i) + (l[i].1 + l[i].2.2.length) := by
  rw [List.take_succ_eq_append_getElem h, tgt_append]; simp [tgt]
/-- the kind ahead of place i -/
def before (l : List Prt) (i : Nat) : Int := if i = 0 then 0 else match l[i - 1]? with
  | some p => kd p
  | none => 0
theorem before_succ {l : List Prt} {i : Nat} (h : i < l.length) : before l (i + 1) = kd l[i] := by simp [before, List.getElem?_eq_getElem h]
theorem okk_drop {l : List Prt} {i : Nat} (h : i < l.length) (k : Int) : okk k (l.drop i) = (!(decide (kd l[i] = 0)) && !(decide (kd l[i] = k)) && okk (kd l[i]) (l.drop (i + 1))) := by
  rw [List.drop_eq_getElem_cons h]; rfl
theorem mem_drop {l : List Prt} {i : Nat} {p : Prt} (h : p ∈ l.drop i) : p ∈ l := List.mem_of_mem_drop h
theorem mem_take {l : List Prt} {i : Nat} {p : Prt} (h : p ∈ l.take i) : p ∈ l := List.mem_of_mem_take h

/-- loops over the places of a list: so far so good -/
theorem idx_succ {i : Nat} {n : Nat} (hn : n ≤ 1099511627776) (h : i < n) : IntKind.wrap .i64 ((i : Int) + 1) = ((i + 1 : Nat) : Int) := by
  rw [w64 (by omega) (by omega)]; omega

theorem i_good_loop {c : List Prt} (hlen : c.length ≤ 1099511627776) : Ok (loopG i_GoodChange_L1 (c, c, ((List.length c : Nat) : Int), 0)) fun r => match r with
    | .inl y => y = c ∧ okk 0 c = true
    | .inr b => b = false ∧ okk 0 c = false := by
  refine Ok.loop (fun y => y.1 = c ∧ y.2.1 = c ∧ y.2.2.1 = ((List.length c : Nat) : Int) ∧ ∃ i : Nat, y.2.2.2 = ((i : Nat) : Int) ∧ i ≤ c.length ∧ okk 0 c = okk (before c i) (c.drop i)) (fun y => (((List.length c : Nat) : Int) - y.2.2.2).toNat)
    ⟨rfl, rfl, rfl, 0, rfl, Nat.zero_le _, by simp [before]⟩ ?_
  rintro ⟨a, b, n, i'⟩ ⟨e1, e2, e3, i, e4, hi, hk⟩
  dsimp only at e1 e2 e3 e4
  subst e1 e2 e3 e4
  unfold i_GoodChange_L1
  dsimp only
  refine Ok.ite (fun hc => ?_) fun hc => ?_
  · have hlt : i < b.length := by simpa using hc
    refine Ok.yes (by simp) (Ok.bind_eq (r := b[i]) (by simp [List.getElem?_eq_getElem hlt]) (Ok.bind_eq (i_kind_eq _ _ _) ?_))
    have hb : before b i = before b i := rfl
    refine Ok.bind (Q := fun v => v = (b, b, ((List.length b : Nat) : Int), ((i : Nat) : Int), decide (kd b[i] = 0) || decide (kd b[i] = before b i))) ?_ ?_
    · refine Ok.ite (fun h0 => ?_) fun h0 => ?_
      · exact Ok.mk (by have : kd b[i] = 0 := by simpa using h0
                        simp [this])
      · have h0' : ¬ kd b[i] = 0 := by simpa using h0
        refine Ok.ite (fun hp => ?_) fun hp => ?_
        · have hp' : 0 < i := by simpa using hp
          have e : IntKind.wrap .i64 ((i : Int) - 1) = ((i - 1 : Nat) : Int) := by rw [w64 (by omega) (by omega)]; omega
          have hl1 : i - 1 < b.length := by omega
          refine Ok.yes (by simp [e]) (Ok.bind_eq (r := b[i - 1]) (by simp [e, List.getElem?_eq_getElem hl1]) (Ok.bind_eq (i_kind_eq _ _ _) (Ok.mk ?_)))
          have hne : ¬ i = 0 := by omega
          have hb : before b i = kd b[i - 1] := by simp [before, hne, List.getElem?_eq_getElem hl1]
          rw [hb]
          have e0 : decide (kd b[i] = 0) = false := by simpa using h0'
          rw [e0, Bool.false_or]
          show (_, _, _, _, decide (kd b[i - 1] = kd b[i])) = _
          congr 4
          exact decide_eq_decide.2 eq_comm
        · have hi0 : i = 0 := by
            have : ¬ (0 : Int) < (i : Int) := by simpa using hp
            omega
          subst hi0
          have e0 : decide (kd b[0] = 0) = false := by simpa using h0'
          exact Ok.mk (by simp [before, e0])
    · rintro _ rfl
      dsimp only
      rw [okk_drop hlt] at hk
      refine Ok.ite (fun hbad => Ok.mk ⟨rfl, ?_⟩) fun hfine => Ok.mk ⟨⟨rfl, rfl, rfl, i + 1, idx_succ hlen hlt, by omega, ?_⟩, ?_⟩
      · rw [hk]
        rcases Bool.or_eq_true_iff.1 hbad with h | h <;> simp [h]
      · rw [hk, before_succ hlt]
        have : (decide (kd b[i] = 0) || decide (kd b[i] = before b i)) = false := by simpa using hfine
        obtain ⟨h1, h2⟩ := Bool.or_eq_false_iff.1 this
        simp [h1, h2]
      · rw [idx_succ hlen hlt]; dsimp only; omega
  · have : i = b.length := by
      have : ¬ ((i : Int) < ((List.length b : Nat) : Int)) := by simpa using hc
      omega
    subst this
    exact Ok.mk ⟨rfl, by rw [hk]; simp [okk]⟩

def lens (c : List Prt) : Int × (Int × Bool) := if src c ≤ 120 ∧ tgt c ≤ 120 then (src c, tgt c, true) else (0, 0, false)
theorem i_lengths_eq {c : List Prt} (hlen : c.length ≤ 1099511627776) (hput : psum c ≤ 1099511627776) (hs : ∀ p ∈ c, Some1 p) (hf : ∀ p ∈ c, I64 p.1 ∧ I64 p.2.1) : i_lengths c = some (lens c) := by
  unfold i_lengths
  refine Ok.eq ?_
  refine Ok.bind (Q := fun r => match r with
    | .inl y => src c ≤ 120 ∧ tgt c ≤ 120 ∧ y = (src c, tgt c)
    | .inr y => ¬ (src c ≤ 120 ∧ tgt c ≤ 120) ∧ y = (0, 0, false)) ?_ ?_
  · refine Ok.loop (fun y => y.2.2.1 = c ∧ y.2.2.2.1 = ((List.length c : Nat) : Int) ∧ ∃ i : Nat, y.2.2.2.2 = ((i : Nat) : Int) ∧ i ≤ c.length ∧ y.1 = src (c.take i) ∧ y.2.1 = tgt (c.take i) ∧ y.1 ≤ 120 ∧ y.2.1 ≤ 120) (fun y => (((List.length c : Nat) : Int) - y.2.2.2.2).toNat)
      ⟨rfl, rfl, 0, rfl, Nat.zero_le _, by simp [src], by simp [tgt], by simp, by simp⟩ ?_
    rintro ⟨s, t, c', n, i'⟩ ⟨e1, e2, i, e3, hi, e4, e5, h1, h2⟩
    dsimp only at e1 e2 e3 e4 e5 h1 h2
    subst e1 e2 e3
    unfold i_lengths_L1
    dsimp only
    refine Ok.ite (fun hc => ?_) fun hc => ?_
    · have hlt : i < c'.length := by simpa using hc
      have hmem : c'[i] ∈ c' := List.getElem_mem hlt
      have hp := hs _ hmem
      have hpf := hf _ hmem
      have hpp := psum_mem hmem
      have k0 := hp.k
      have d0 := hp.d
      have n1 := src_nonneg (l := c'.take i) fun p h => hs p (mem_take h)
      have n2 := tgt_nonneg (l := c'.take i) fun p h => hs p (mem_take h)
      have n3 := src_nonneg (l := c'.drop (i + 1)) fun p h => hs p (mem_drop h)
      have n4 := tgt_nonneg (l := c'.drop (i + 1)) fun p h => hs p (mem_drop h)
      have a1 := src_at hlt
      have a2 := tgt_at hlt
      refine Ok.yes (by simp) (Ok.bind_eq (r := c'[i]) (by simp [List.getElem?_eq_getElem hlt]) ?_)
      refine Ok.bind (Q := fun v => v = (s, t, c', ((List.length c' : Nat) : Int), ((i : Nat) : Int), decide (120 < c'[i].1 ∨ 120 < c'[i].2.1), c'[i].1, c'[i].2.1, c'[i].2.2)) ?_ ?_
      · refine Ok.ite (fun h => Ok.mk ?_) fun h => Ok.mk ?_
        · have : 120 < c'[i].1 := by simpa using h
          simp [this]
        · have : ¬ 120 < c'[i].1 := by simpa using h
          simp [this]
      rintro _ rfl
      dsimp only
      refine Ok.ite (fun hb => Ok.mk ⟨?_, rfl⟩) fun hb => ?_
      · have : 120 < c'[i].1 ∨ 120 < c'[i].2.1 := by simpa using hb
        omega
      · have hb' : ¬ (120 < c'[i].1 ∨ 120 < c'[i].2.1) := by simpa using hb
        have w1 : IntKind.wrap .i64 (c'[i].1 + c'[i].2.1) = c'[i].1 + c'[i].2.1 := w64 (by omega) (by omega)
        have w2 : IntKind.wrap .i64 (s + (c'[i].1 + c'[i].2.1)) = s + (c'[i].1 + c'[i].2.1) := w64 (by omega) (by omega)
        have w3 : IntKind.wrap .i64 (c'[i].1 + ((List.length c'[i].2.2 : Nat) : Int)) = c'[i].1 + ((List.length c'[i].2.2 : Nat) : Int) := w64 (by omega) (by omega)
        have w4 : IntKind.wrap .i64 (t + (c'[i].1 + ((List.length c'[i].2.2 : Nat) : Int))) = t + (c'[i].1 + ((List.length c'[i].2.2 : Nat) : Int)) := w64 (by omega) (by omega)
        rw [w1, w2, w3, w4]
        refine Ok.bind (Q := fun v => v = (s + (c'[i].1 + c'[i].2.1), t + (c'[i].1 + ((List.length c'[i].2.2 : Nat) : Int)), c', ((List.length c' : Nat) : Int), ((i : Nat) : Int), decide (120 < s + (c'[i].1 + c'[i].2.1) ∨ 120 < t + (c'[i].1 + ((List.length c'[i].2.2 : Nat) : Int))))) ?_ ?_
        · refine Ok.ite (fun h => Ok.mk ?_) fun h => Ok.mk ?_
          · have : 120 < s + (c'[i].1 + c'[i].2.1) := by simpa using h
            simp [this]
          · have : ¬ 120 < s + (c'[i].1 + c'[i].2.1) := by simpa using h
            simp [this]
        rintro _ rfl
        dsimp only
        refine Ok.ite (fun hb => Ok.mk ⟨?_, rfl⟩) fun hb => Ok.mk ⟨⟨rfl, rfl, i + 1, idx_succ hlen hlt, by omega, ?_, ?_, ?_, ?_⟩, ?_⟩
        · have : 120 < s + (c'[i].1 + c'[i].2.1) ∨ 120 < t + (c'[i].1 + ((List.length c'[i].2.2 : Nat) : Int)) := by simpa using hb
          omega
        · rw [src_take hlt, e4]
        · rw [tgt_take hlt, e5]
        · have : ¬ (120 < s + (c'[i].1 + c'[i].2.1) ∨ 120 < t + (c'[i].1 + ((List.length c'[i].2.2 : Nat) : Int))) := by simpa using hb
          dsimp only; omega
        · have : ¬ (120 < s + (c'[i].1 + c'[i].2.1) ∨ 120 < t + (c'[i].1 + ((List.length c'[i].2.2 : Nat) : Int))) := by simpa using hb
          dsimp only; omega
        · rw [idx_succ hlen hlt]; dsimp only; omega
    · have : i = c'.length := by
        have : ¬ ((i : Int) < ((List.length c' : Nat) : Int)) := by simpa using hc
        omega
      subst this
      rw [List.take_length] at e4 e5
      exact Ok.mk ⟨by omega, by omega, by rw [e4, e5]⟩
  · rintro (y | y) h
    · obtain ⟨h1, h2, rfl⟩ := h
      exact Ok.mk (by simp [lens, h1, h2])
    · obtain ⟨h1, rfl⟩ := h
      exact Ok.mk (by simp [lens, h1])

theorem i_Good_eq {B : Nat} {c : List Prt} (h : Sm B c) (hB : B ≤ 1099511627776) : i_GoodChange c = some (good c) := by
  unfold i_GoodChange
  refine Ok.eq (Ok.bind (i_good_loop (Nat.le_trans h.len hB)) ?_)
  rintro (y | b) hr
  · obtain ⟨rfl, hk⟩ := hr
    refine Ok.bind_eq (i_lengths_eq (Nat.le_trans h.len hB) (Nat.le_trans h.put hB) (okk_some hk) h.fit) (Ok.mk ?_)
    unfold good lens
    rw [hk]
    by_cases h1 : src y ≤ 120 <;> by_cases h2 : tgt y ≤ 120 <;> simp [h1, h2]
  · obtain ⟨rfl, hk⟩ := hr
    exact Ok.mk (by simp [good, hk])

def lensOf (c : List Prt) : Int × (Int × Bool) := if good c = true then (src c, tgt c, true) else (0, 0, false)
theorem good_spec {c : List Prt} (h : good c = true) : okk 0 c = true ∧ src c ≤ 120 ∧ tgt c ≤ 120 := by
  simp only [good, Bool.and_eq_true, decide_eq_true_eq] at h
  exact ⟨h.1.1, h.1.2, h.2⟩
theorem i_LengthsOf_eq {B : Nat} {c : List Prt} (h : Sm B c) (hB : B ≤ 1099511627776) : i_LengthsOf c = some (lensOf c) := by
  unfold i_LengthsOf lensOf
  rw [i_Good_eq h hB, Option.bind_some]
  cases hg : good c with
  | false => simp
  | true =>
    obtain ⟨h1, h2, h3⟩ := good_spec hg
    simp [i_lengths_eq (Nat.le_trans h.len hB) (Nat.le_trans h.put hB) (okk_some h1) h.fit, lens, h2, h3]
end Go.V.G
