import Derived.Test.YtdicgiljgelkfaaQA
import Derived.IntWalk
import Derived.Test.YtdicgiljgelkfaaQF1
import Derived.Test.YtdicgiljgelkfaaQC
/-
  P0: words for the pure laws: wraps, loops.
-/
set_option linter.unusedVariables false
set_option linter.unusedSimpArgs false
namespace Go.V.G
open Go.V

theorem w64 {n : Int} (h1 : -9223372036854775808 ≤ n) (h2 : n ≤ 9223372036854775807) : IntKind.wrap .i64 n = n := IntWalk.i64_in n ⟨h1, h2⟩
theorem wu8 {n : Int} (h1 : 0 ≤ n) (h2 : n ≤ 255) : IntKind.wrap .u8 n = n := IntWalk.u8_in n ⟨h1, h2⟩
theorem wu64 {n : Int} (h1 : 0 ≤ n) (h2 : n ≤ 18446744073709551615) : IntKind.wrap .u64 n = n := IntWalk.u64_in n ⟨h1, h2⟩

section
variable {σ τ : Type}
/-- a loop whose rounds are told one by one -/
theorem loop_run (f : σ → Option (σ ⊕ τ)) (st : Nat → σ) (n : Nat) (z : τ) (h : ∀ k, k < n → f (st k) = some (.inl (st (k + 1)))) (hz : f (st n) = some (.inr z)) : loopG f (st 0) = some z := by
  have : ∀ j, j ≤ n → loopG f (st (n - j)) = some z := by
    intro j
    induction j with
    | zero => intro _; rw [loopG_eq, Nat.sub_zero, hz]
    | succ j ih =>
      intro hj
      rw [loopG_eq, h _ (by omega), show n - (j + 1) + 1 = n - j by omega]
      exact ih (by omega)
  have := this n (Nat.le_refl _)
  rwa [Nat.sub_self] at this
/-- a loop with an invariant and a measure -/
theorem loop_inv (f : σ → Option (σ ⊕ τ)) (I : σ → Prop) (m : σ → Nat) (Q : τ → Prop) (step : ∀ x, I x → (∃ y, f x = some (.inl y) ∧ I y ∧ m y < m x) ∨ ∃ z, f x = some (.inr z) ∧ Q z) :
    ∀ x, I x → ∃ z, loopG f x = some z ∧ Q z := by
  intro x
  induction hm : m x using Nat.strongRecOn generalizing x with
  | ind k ih =>
    intro hx
    rcases step x hx with ⟨y, h1, h2, h3⟩ | ⟨z, h1, h2⟩
    · obtain ⟨z, h4, h5⟩ := ih (m y) (by omega) y rfl h2
      exact ⟨z, by rw [loopG_eq, h1]; exact h4, h5⟩
    · exact ⟨z, by rw [loopG_eq, h1], h2⟩
/-- a loop's answer by a function of the state that each round keeps -/
theorem loop_fn (f : σ → Option (σ ⊕ τ)) (I : σ → Prop) (m : σ → Nat) (F : σ → τ) (step : ∀ x, I x → (∃ y, f x = some (.inl y) ∧ I y ∧ m y < m x ∧ F y = F x) ∨ f x = some (.inr (F x))) :
    ∀ x, I x → loopG f x = some (F x) := by
  intro x
  induction hm : m x using Nat.strongRecOn generalizing x with
  | ind k ih =>
    intro hx
    rcases step x hx with ⟨y, h1, h2, h3, h4⟩ | h1
    · rw [loopG_eq, h1, ← h4]; exact ih (m y) (by omega) y rfl h2
    · rw [loopG_eq, h1]
end
end Go.V.G

/-
  P1: parts and how they are added; the drawing cursor: what each draw may be.
-/
set_option linter.unusedVariables false
set_option linter.unusedSimpArgs false
set_option maxRecDepth 100000
namespace Go.V.G
open Go.V

/-! ### answers that are there -/
def Ok {α : Type} (o : Option α) (Q : α → Prop) : Prop := ∃ r, o = some r ∧ Q r
section
variable {α β σ τ : Type} {Q : α → Prop}
theorem Ok.mk {r : α} (h : Q r) : Ok (some r) Q := ⟨r, rfl, h⟩
theorem Ok.of {o : Option α} {r : α} (h : o = some r) (hq : Q r) : Ok o Q := ⟨r, h, hq⟩
theorem Ok.eq {o : Option α} {r : α} (h : Ok o fun x => x = r) : o = some r := by obtain ⟨x, h, rfl⟩ := h; exact h
theorem Ok.mono {o : Option α} {R : α → Prop} (h : Ok o Q) (hq : ∀ x, Q x → R x) : Ok o R := by obtain ⟨x, h, h'⟩ := h; exact ⟨x, h, hq x h'⟩
theorem Ok.bind {o : Option α} {f : α → Option β} {R : β → Prop} (h : Ok o Q) (hf : ∀ x, Q x → Ok (f x) R) : Ok (o.bind f) R := by
  obtain ⟨x, h, hx⟩ := h
  subst h
  exact hf x hx
theorem Ok.bind_eq {o : Option α} {f : α → Option β} {R : β → Prop} {r : α} (h : o = some r) (hf : Ok (f r) R) : Ok (o.bind f) R := by subst h; exact hf
theorem Ok.ite {c : Prop} [Decidable c] {a b : Option α} (h1 : c → Ok a Q) (h2 : ¬ c → Ok b Q) : Ok (if c then a else b) Q := by
  split
  · rename_i h; exact h1 h
  · rename_i h; exact h2 h
theorem Ok.yes {c : Prop} [Decidable c] {a b : Option α} (hc : c) (h : Ok a Q) : Ok (if c then a else b) Q := by rw [if_pos hc]; exact h
theorem Ok.no {c : Prop} [Decidable c] {a b : Option α} (hc : ¬ c) (h : Ok b Q) : Ok (if c then a else b) Q := by rw [if_neg hc]; exact h
theorem Ok.loop {f : σ → Option (σ ⊕ τ)} (I : σ → Prop) (m : σ → Nat) {R : τ → Prop} {x : σ} (hx : I x) (step : ∀ x, I x → Ok (f x) fun r => match r with
    | .inl y => I y ∧ m y < m x
    | .inr z => R z) : Ok (loopG f x) R := by
  obtain ⟨z, h1, h2⟩ := loop_inv f I m R (fun x hx => by
    obtain ⟨r, h1, h2⟩ := step x hx
    cases r with
    | inl y => exact .inl ⟨y, h1, h2⟩
    | inr z => exact .inr ⟨z, h1, h2⟩) x hx
  exact ⟨z, h1, h2⟩
end

/-! ### parts -/
abbrev Prt := Int × (Int × List UInt8)
def kd (p : Prt) : Int := if 0 < p.1 ∧ p.2.1 = 0 ∧ p.2.2 = [] then 1 else if 0 < p.2.1 ∧ p.1 = 0 ∧ p.2.2 = [] then 2 else if p.2.2 ≠ [] ∧ p.1 = 0 ∧ p.2.1 = 0 then 3 else 0
theorem i_kind_eq (a b : Int) (s : List UInt8) : i_Part_kind a b s = some (kd (a, b, s)) := by
  unfold i_Part_kind kd
  by_cases h1 : 0 < a <;> by_cases h2 : b = 0 <;> by_cases h3 : s = [] <;> by_cases h4 : 0 < b <;> by_cases h5 : a = 0 <;> simp [h1, h2, h3, h4, h5]
theorem s_kind_eq (a b : Int) (s : List UInt8) : s_l1Kind a b s = some (kd (a, b, s)) := by
  unfold s_l1Kind kd
  by_cases h1 : 0 < a <;> by_cases h2 : b = 0 <;> by_cases h3 : s = [] <;> by_cases h4 : 0 < b <;> by_cases h5 : a = 0 <;> simp [h1, h2, h3, h4, h5]

def I64 (n : Int) : Prop := -9223372036854775808 ≤ n ∧ n ≤ 9223372036854775807
theorem I64.wrap (n : Int) : I64 (IntKind.wrap .i64 n) := by rw [IntKind.wrap_i64]; unfold I64; omega
theorem I64.eq {n : Int} (h : I64 n) : IntKind.wrap .i64 n = n := w64 h.1 h.2
def psum : List Prt → Nat
  | [] => 0
  | p :: l => p.2.2.length + psum l
theorem psum_append : ∀ a b : List Prt, psum (a ++ b) = psum a + psum b
  | [], b => by simp [psum]
  | p :: a, b => by simp only [List.cons_append, psum, psum_append a b]; omega
theorem psum_mem : ∀ {l : List Prt} {p : Prt}, p ∈ l → p.2.2.length ≤ psum l
  | q :: l, p, h => by
    rcases List.mem_cons.1 h with rfl | h
    · simp only [psum]; omega
    · have := psum_mem h; simp only [psum]; omega
/-- parts of so many, with so many bytes, whose numbers are machine numbers -/
structure Sm (B : Nat) (l : List Prt) : Prop where
  len : l.length ≤ B
  put : psum l ≤ B
  fit : ∀ p ∈ l, I64 p.1 ∧ I64 p.2.1
theorem Sm.mono {B C : Nat} {l : List Prt} (h : Sm B l) (hc : B ≤ C) : Sm C l := ⟨Nat.le_trans h.len hc, Nat.le_trans h.put hc, h.fit⟩
theorem Sm.nil (B : Nat) : Sm B [] := ⟨Nat.zero_le _, Nat.zero_le _, fun _ h => by cases h⟩

/-- a part laid behind others -/
def addp (l : List Prt) (p : Prt) : List Prt :=
  if p = (0, 0, []) then l else
  match l.getLast? with
  | none => [p]
  | some q => if kd q = kd p then l.dropLast ++ [(IntKind.wrap .i64 (q.1 + p.1), IntKind.wrap .i64 (q.2.1 + p.2.1), q.2.2 ++ p.2.2)] else l ++ [p]
theorem addp_sm {B : Nat} {l : List Prt} {p : Prt} (h : Sm B l) (hp : I64 p.1 ∧ I64 p.2.1) {C : Nat} (hl : B + 1 ≤ C) (hc : B + p.2.2.length ≤ C) : Sm C (addp l p) := by
  unfold addp
  split
  · exact h.mono (by omega)
  · split
    · exact ⟨by simp; omega, by simp only [psum]; have := h.put; omega, fun q hq => by rw [List.mem_singleton.1 hq]; exact hp⟩
    · rename_i q hq
      obtain ⟨l', rfl⟩ := List.getLast?_eq_some_iff.1 hq
      have h1 := h.len
      have h2 := h.put
      rw [psum_append] at h2
      simp only [psum, List.length_append, List.length_singleton] at h1 h2
      split
      · rw [List.dropLast_concat]
        refine ⟨by simp; omega, by rw [psum_append]; simp only [psum, List.length_append]; omega, fun r hr => ?_⟩
        rcases List.mem_append.1 hr with hr | hr
        · exact h.fit r (by simp [hr])
        · rw [List.mem_singleton.1 hr]; exact ⟨I64.wrap _, I64.wrap _⟩
      · refine ⟨by simp; omega, by rw [psum_append, psum_append]; simp only [psum]; omega, fun r hr => ?_⟩
        rcases List.mem_append.1 hr with hr | hr
        · exact h.fit r hr
        · rw [List.mem_singleton.1 hr]; exact hp

theorem len_last {α : Type} {l : List α} {q : α} (h : l.getLast? = some q) : ∃ n, l.length = n + 1 ∧ l[n]? = some q ∧ ∀ x, l.set n x = l.dropLast ++ [x] := by
  obtain ⟨l', rfl⟩ := List.getLast?_eq_some_iff.1 h
  exact ⟨l'.length, by simp, by simp, fun x => by simp⟩

theorem s_l1Add_eq {B : Nat} {l : List Prt} (h : Sm B l) (hB : B ≤ 1099511627776) (a b : Int) (s : List UInt8) (hs : s.length ≤ 1099511627776) : s_l1Add l a b s = some (addp l (a, b, s)) := by
  unfold s_l1Add addp
  by_cases h0 : ((a, b, s) : Prt) = (0, 0, [])
  · obtain ⟨rfl, rfl, rfl⟩ : a = 0 ∧ b = 0 ∧ s = [] := by simpa using h0
    simp
  · rw [if_neg h0, if_neg (by simpa using h0)]
    have hroom : ∀ x : Prt, roomFor (l.length + [x].length) 32 = true := fun x => by
      have := h.len
      simp [roomFor]; omega
    cases hg : l.getLast? with
    | none =>
      obtain rfl : l = [] := by simpa using hg
      simp [roomFor]
    | some q =>
      obtain ⟨n, hn, hq, hset⟩ := len_last hg
      have hqs : q.2.2.length ≤ B := Nat.le_trans (psum_mem (List.mem_of_getElem? hq)) h.put
      have e1 : IntKind.wrap .i64 (((l.length : Nat) : Int) - 1) = ((n : Nat) : Int) := by rw [hn, w64 (by omega) (by have := h.len; omega)]; omega
      have hpos : (0 : Int) < ((l.length : Nat) : Int) := by omega
      have hlt : ((n : Nat) : Int) < ((l.length : Nat) : Int) := by omega
      have hge : (0 : Int) ≤ ((n : Nat) : Int) := by omega
      have hst : ∀ x : Prt, (l.set n x)[n]? = some x := fun x => List.getElem?_set_self (by omega)
      simp only [e1, hpos, hlt, hge, decide_true, if_true, Int.toNat_natCast, Nat.zero_add, hq, Option.bind_some, s_kind_eq]
      by_cases hk : kd q = kd (a, b, s)
      · have hk' : (kd (q.1, q.2.1, q.2.2) = kd (a, b, s)) := hk
        have hlen : q.2.2.length + s.length ≤ 9223372036854775807 := by omega
        simp only [hk', hk, decide_true, if_true, e1, hlt, hge, Int.toNat_natCast, hq, Option.bind_some, hst, List.set_set, hlen]
        rw [hset]
      · have hk' : ¬ (kd (q.1, q.2.1, q.2.2) = kd (a, b, s)) := hk
        simp only [hk', hk, decide_false, if_false, Bool.false_eq_true, hroom, if_true]

/-! ### the cursor -/
def Bytes (code : List Int) : Prop := ∀ x ∈ code, 0 ≤ x ∧ x ≤ 255
/-- at such a place the cursor may stand, so many more steps may come -/
structure At (code : List Int) (k : Int) (a : Int) : Prop where
  b : Bytes code
  lo : 0 ≤ a
  hi : a + k ≤ 4611686018427387904
theorem At.less {code : List Int} {k j a : Int} (h : At code k a) (hj : j ≤ k) : At code j a := ⟨h.b, h.lo, by have := h.hi; omega⟩
/-- how it stands behind -/
structure To (code : List Int) (a k : Int) (code' : List Int) (a' : Int) : Prop where
  c : code' = code
  lo : a ≤ a'
  hi : a' ≤ a + k
theorem To.at {code code' : List Int} {a k a' j : Int} (t : To code a k code' a') (h : At code (k + j) a) : At code' j a' := by
  obtain ⟨rfl, h1, h2⟩ := t
  exact ⟨h.b, by have := h.lo; omega, by have := h.hi; omega⟩
theorem To.trans {c c1 c2 : List Int} {a k a1 j a2 : Int} (t : To c a k c1 a1) (u : To c1 a1 j c2 a2) : To c a (k + j) c2 a2 := by
  obtain ⟨rfl, h1, h2⟩ := t
  obtain ⟨rfl, h3, h4⟩ := u
  exact ⟨rfl, by omega, by omega⟩
theorem To.refl (c : List Int) (a : Int) : To c a 0 c a := ⟨rfl, Int.le_refl _, by omega⟩
theorem To.more {c c1 : List Int} {a k a1 j : Int} (t : To c a k c1 a1) (h : k ≤ j) : To c a j c1 a1 := ⟨t.c, t.lo, by have := t.hi; omega⟩

theorem and255 (x : Int) : 0 ≤ (((BitVec.ofInt (IntKind.bits .u64) x &&& BitVec.ofInt (IntKind.bits .u64) 255).toNat : Nat) : Int) ∧ (((BitVec.ofInt (IntKind.bits .u64) x &&& BitVec.ofInt (IntKind.bits .u64) 255).toNat : Nat) : Int) ≤ 255 := by
  refine ⟨by omega, ?_⟩
  have h : (BitVec.ofInt (IntKind.bits .u64) x &&& BitVec.ofInt (IntKind.bits .u64) 255).toNat ≤ 255 := by
    rw [BitVec.toNat_and]
    exact Nat.le_trans Nat.and_le_right (by simp [IntKind.bits])
  omega

theorem next_ok {code : List Int} {a s : Int} (h : At code 1 a) : Ok (s_l1Cur_next_f code a s) fun r => (0 ≤ r.1 ∧ r.1 ≤ 255) ∧ To code a 1 r.2.1 r.2.2.1 := by
  unfold s_l1Cur_next_f
  refine Ok.bind (Q := fun v => (0 ≤ v.1 ∧ v.1 ≤ 255) ∧ v.2.1 = code ∧ v.2.2.1 = a) ?_ ?_
  · refine Ok.ite (fun hc => ?_) (fun _ => Ok.mk ⟨by simp, rfl, rfl⟩)
    have hlo := h.lo
    simp only [decide_eq_true_eq] at hc
    refine Ok.yes (by simpa using hlo) ?_
    have hi : a.toNat < code.length := by omega
    rw [List.getElem?_eq_getElem hi]
    have hb := h.b _ (List.getElem_mem hi)
    refine Ok.mk ⟨?_, rfl, rfl⟩
    simp only
    rw [w64 (by omega) (by omega)]; exact hb
  · rintro ⟨b, c, a', s'⟩ ⟨hb, e1, e2⟩
    dsimp only at hb e1 e2
    subst e1 e2
    have h1 := h.lo
    have h2 := h.hi
    have e : IntKind.wrap .i64 (a' + 1) = a' + 1 := w64 (by omega) (by omega)
    simp only [e]
    refine Ok.ite (fun _ => Ok.mk ⟨hb, ⟨rfl, by simp only; omega, by simp only; omega⟩⟩) fun _ => ?_
    refine Ok.yes (by simp) (Ok.mk ⟨?_, ⟨rfl, by simp only; omega, by simp only; omega⟩⟩)
    simp only
    have := and255 (Int.fdiv (IntKind.wrap .u64 ((IntKind.wrap .u64 ((IntKind.wrap .u64 (s' * 6364136223846793005)) + (IntKind.wrap .u64 b))) + 1442695040888963407)) (2 ^ (min (Int.toNat 40) (IntKind.bits .u64))))
    rw [wu64 this.1 (by omega), w64 (by omega) (by omega)]
    exact this

theorem tmod_lt {x n : Int} (hx : 0 ≤ x) (hn : 1 < n) : 0 ≤ Int.tmod x n ∧ Int.tmod x n < n := by
  rw [Int.tmod_eq_emod_of_nonneg hx]
  exact ⟨Int.emod_nonneg _ (by omega), Int.emod_lt_of_pos _ (by omega)⟩

theorem pick_ok {code : List Int} {a s n : Int} (h : At code 2 a) : Ok (s_l1Cur_pick_f n code a s) fun r => (0 ≤ r.1 ∧ (r.1 < n ∨ r.1 = 0)) ∧ To code a 2 r.2.1 r.2.2.1 := by
  unfold s_l1Cur_pick_f
  refine Ok.ite (fun hc => Ok.mk ⟨by simp, (To.refl _ _).more (by omega)⟩) fun hc => ?_
  have hn : 1 < n := by simp at hc; omega
  refine (next_ok (h.less (by omega))).bind ?_
  rintro ⟨b, c1, a1, s1⟩ ⟨hb, t1⟩
  refine Ok.bind (Q := fun v => v.1 = n ∧ 0 ≤ v.2.1 ∧ To code a 2 v.2.2.1 v.2.2.2.1) ?_ ?_
  · refine Ok.ite (fun _ => ?_) (fun _ => Ok.mk ⟨rfl, hb.1, t1.more (by omega)⟩)
    refine (next_ok (t1.at h)).bind ?_
    rintro ⟨b2, c2, a2, s2⟩ ⟨hb2, t2⟩
    refine Ok.mk ⟨rfl, ?_, t1.trans t2⟩
    simp only at hb hb2 ⊢
    rw [w64 (n := b * 256) (by omega) (by omega), w64 (by omega) (by omega)]
    omega
  · rintro ⟨n', x, c, a', s'⟩ ⟨rfl, hx, t⟩
    have := tmod_lt hx hn
    refine Ok.yes (by simp; omega) (Ok.mk ⟨⟨this.1, .inl this.2⟩, t⟩)

theorem one_ok {code : List Int} {a s n : Int} (h : At code 2 a) : Ok (s_l1Cur_one_f n code a s) fun r => To code a 2 r.2.1 r.2.2.1 := by
  unfold s_l1Cur_one_f
  exact (pick_ok h).bind fun r hr => Ok.mk hr.2

theorem of_ok {code : List Int} {a s : Int} {l : List (List UInt8)} (h : At code 2 a) (hl : l ≠ []) : Ok (s_l1Cur_of_f l code a s) fun r => r.1 ∈ l ∧ To code a 2 r.2.1 r.2.2.1 := by
  unfold s_l1Cur_of_f
  refine (pick_ok h).bind ?_
  rintro ⟨i, c, a', s'⟩ ⟨⟨h1, h2⟩, t⟩
  have hp : 0 < l.length := List.length_pos_iff.2 hl
  simp only at h1 h2
  have hi : i.toNat < l.length := by omega
  refine Ok.yes (by simpa using h1) (Ok.yes (by simp; omega) ?_)
  rw [Nat.zero_add, List.getElem?_eq_getElem hi]
  exact Ok.mk ⟨List.getElem_mem hi, t⟩

theorem put_ok {code : List Int} {a s : Int} (h : At code 2 a) : Ok (s_l1Cur_put_f code a s) fun r => r.1.length ≤ 5 ∧ To code a 2 r.2.1 r.2.2.1 := by
  unfold s_l1Cur_put_f
  refine (of_ok h (by simp)).bind ?_
  rintro ⟨x, c, a', s'⟩ ⟨hx, t⟩
  refine Ok.mk ⟨?_, t⟩
  simp only [List.mem_cons, List.not_mem_nil, or_false] at hx
  rcases hx with rfl | rfl | rfl | rfl | rfl | rfl <;> simp

theorem among_ok {code : List Int} {a s : Int} {l : List Int} (h : At code 2 a) (hl : l ≠ []) : Ok (s_l1Cur_among_f l code a s) fun r => r.1 ∈ l ∧ To code a 2 r.2.1 r.2.2.1 := by
  unfold s_l1Cur_among_f
  refine (pick_ok h).bind ?_
  rintro ⟨i, c, a', s'⟩ ⟨⟨h1, h2⟩, t⟩
  have hp : 0 < l.length := List.length_pos_iff.2 hl
  simp only at h1 h2
  have hi : i.toNat < l.length := by omega
  refine Ok.yes (by simpa using h1) (Ok.yes (by simp; omega) ?_)
  rw [Nat.zero_add, List.getElem?_eq_getElem hi]
  exact Ok.mk ⟨List.getElem_mem hi, t⟩

theorem wide_ok {code : List Int} {a s : Int} (h : At code 8 a) : Ok (s_l1Cur_wide_f code a s) fun r => I64 r.1 ∧ To code a 8 r.2.1 r.2.2.1 := by
  unfold s_l1Cur_wide_f
  refine Ok.bind (Q := fun r => I64 r.1 ∧ To code a 8 r.2.1 r.2.2.1) ?_ (fun r hr => Ok.mk hr)
  refine Ok.loop (fun y => I64 y.1 ∧ 0 ≤ y.2.1 ∧ y.2.1 ≤ 8 ∧ To code a y.2.1 y.2.2.1 y.2.2.2.1) (fun y => (8 - y.2.1).toNat) ⟨by unfold I64; simp, by simp, by simp, To.refl _ _⟩ ?_
  rintro ⟨n, i, c, a', s'⟩ ⟨hn, h0, h8, t⟩
  simp only at hn h0 h8 t
  unfold s_l1Cur_wide_f_L1
  refine Ok.ite (fun hc => ?_) fun hc => Ok.mk ⟨hn, t.more h8⟩
  have hc' : i < 8 := by simpa using hc
  refine Ok.yes (by simp) ((next_ok (t.at (j := 1) (h.less (by omega)))).bind ?_)
  rintro ⟨b, c2, a2, s2⟩ ⟨hb, t2⟩
  have e : IntKind.wrap .i64 (i + 1) = i + 1 := w64 (by omega) (by omega)
  refine Ok.mk ⟨⟨I64.wrap _, ?_, ?_, ?_⟩, ?_⟩
  · simp only [e]; omega
  · simp only [e]; omega
  · simp only [e]; exact t.trans t2
  · simp only [e]; omega
end Go.V.G

/-
  P2: drawn changes: lists of parts, none of them great.
-/
set_option linter.unusedVariables false
set_option linter.unusedSimpArgs false
set_option maxRecDepth 100000
namespace Go.V.G
open Go.V

theorem fdiv_I64 {n : Int} (h : I64 n) (k : Nat) : I64 (Int.fdiv n (2 ^ k)) := by
  have h2 : (0 : Int) < 2 ^ k := Int.pow_pos (by decide)
  rw [Int.fdiv_eq_ediv_of_nonneg _ (by omega)]
  obtain ⟨a, b⟩ := h
  constructor
  · rw [Int.le_ediv_iff_mul_le h2]
    have : -9223372036854775808 * (2 ^ k : Int) ≤ -9223372036854775808 * 1 := Int.mul_le_mul_of_nonpos_left (by omega) (by omega)
    omega
  · have h3 : n / 2 ^ k ≤ 9223372036854775807 / 2 ^ k := Int.ediv_le_ediv h2 b
    have h4 : (9223372036854775807 : Int) / 2 ^ k ≤ 9223372036854775807 := Int.ediv_le_self _ (by omega)
    omega

theorem sized_ok {code : List Int} {a s : Int} (h : At code 16 a) : Ok (s_l1Cur_sized_f code a s) fun r => I64 r.1 ∧ To code a 16 r.2.1 r.2.2.1 := by
  unfold s_l1Cur_sized_f
  refine (pick_ok (h.less (by omega))).bind ?_
  rintro ⟨x1, c1, a1, s1⟩ ⟨hx1, t1⟩
  refine (pick_ok (t1.at (j := 2) (h.less (by omega)))).bind ?_
  rintro ⟨x2, c2, a2, s2⟩ ⟨hx2, t2⟩
  have t2 := t1.trans t2
  have i1 : I64 x1 := by simp only at hx1; unfold I64; omega
  refine Ok.bind (Q := fun v => I64 v.1 ∧ To code a 14 v.2.1 v.2.2.1) ?_ ?_
  · refine Ok.ite (fun _ => ?_) fun _ => ?_
    · refine (pick_ok (t2.at (j := 2) (h.less (by omega)))).bind ?_
      rintro ⟨x, c, a', s'⟩ ⟨hx, t⟩
      exact Ok.mk ⟨by simp only at hx ⊢; unfold I64; omega, (t2.trans t).more (by omega)⟩
    · refine Ok.bind (Q := fun v => I64 v.1 ∧ To code a 14 v.2.1 v.2.2.1) ?_ (fun v hv => Ok.mk hv)
      refine Ok.ite (fun _ => ?_) fun _ => ?_
      · refine (wide_ok (t2.at (j := 8) (h.less (by omega)))).bind ?_
        rintro ⟨x, c, a', s'⟩ ⟨hx, t⟩
        have t := t2.trans t
        refine (pick_ok (t.at (j := 2) (h.less (by omega)))).bind ?_
        rintro ⟨y, c, a'', s''⟩ ⟨hy, t'⟩
        simp only at hy
        have e : IntKind.wrap .u64 y = y := wu64 (by omega) (by omega)
        refine Ok.yes (by simp [e]; omega) (Ok.mk ⟨fdiv_I64 hx _, (t.trans t').more (by omega)⟩)
      · refine Ok.bind (Q := fun v => I64 v.1 ∧ To code a 14 v.2.1 v.2.2.1) ?_ (fun v hv => Ok.mk hv)
        refine Ok.ite (fun _ => ?_) fun _ => ?_
        · refine (pick_ok (t2.at (j := 2) (h.less (by omega)))).bind ?_
          rintro ⟨y, c, a'', s''⟩ ⟨hy, t'⟩
          simp only at hy
          have e : IntKind.wrap .u64 y = y := wu64 (by omega) (by omega)
          refine Ok.yes (by simp [e]; omega) (Ok.mk ⟨I64.wrap _, (t2.trans t').more (by omega)⟩)
        · refine Ok.bind (Q := fun v => I64 v.1 ∧ To code a 14 v.2.1 v.2.2.1) ?_ (fun v hv => Ok.mk hv)
          refine Ok.ite (fun _ => ?_) fun _ => Ok.mk ⟨i1, t2.more (by omega)⟩
          refine (pick_ok (t2.at (j := 2) (h.less (by omega)))).bind ?_
          rintro ⟨y, c, a'', s''⟩ ⟨hy, t'⟩
          simp only at hy
          have e : IntKind.wrap .u64 y = y := wu64 (by omega) (by omega)
          refine Ok.yes (by simp [e]; omega) (Ok.mk ⟨I64.wrap _, (t2.trans t').more (by omega)⟩)
  · rintro ⟨x, c, a', s'⟩ ⟨hx, t⟩
    refine (one_ok (t.at (j := 2) h)).bind ?_
    rintro ⟨y, c, a'', s''⟩ t'
    refine Ok.bind (Q := fun v => I64 v.1 ∧ To code a 16 v.2.1 v.2.2.1) ?_ (fun v hv => Ok.mk hv)
    exact Ok.ite (fun _ => Ok.mk ⟨I64.wrap _, t.trans t'⟩) fun _ => Ok.mk ⟨hx, t.trans t'⟩

theorem part_ok {code : List Int} {a s : Int} (h : At code 18 a) : Ok (s_l1Cur_part_f code a s) fun r => (I64 r.1 ∧ I64 r.2.1 ∧ r.2.2.1.length ≤ 121) ∧ To code a 18 r.2.2.2.1 r.2.2.2.2.1 := by
  have z : I64 0 := by unfold I64; omega
  have o : I64 1 := by unfold I64; omega
  unfold s_l1Cur_part_f
  refine (pick_ok (h.less (by omega))).bind ?_
  rintro ⟨x1, c1, a1, s1⟩ ⟨hx1, t1⟩
  refine Ok.ite (fun _ => Ok.mk ⟨⟨z, z, by simp⟩, t1.more (by omega)⟩) fun _ => ?_
  refine Ok.ite (fun _ => ?_) fun _ => ?_
  · refine (sized_ok (t1.at (j := 16) (h.less (by omega)))).bind ?_
    rintro ⟨x, c, a', s'⟩ ⟨hx, t⟩
    exact Ok.mk ⟨⟨hx, z, by simp⟩, (t1.trans t).more (by omega)⟩
  refine Ok.ite (fun _ => ?_) fun _ => ?_
  · refine (sized_ok (t1.at (j := 16) (h.less (by omega)))).bind ?_
    rintro ⟨x, c, a', s'⟩ ⟨hx, t⟩
    exact Ok.mk ⟨⟨z, hx, by simp⟩, (t1.trans t).more (by omega)⟩
  refine Ok.ite (fun _ => Ok.mk ⟨⟨o, z, by simp⟩, t1.more (by omega)⟩) fun _ => ?_
  refine (pick_ok (t1.at (j := 2) (h.less (by omega)))).bind ?_
  rintro ⟨x, c, a', s'⟩ ⟨hx, t⟩
  simp only at hx
  have e : IntKind.wrap .i64 (120 + x) = 120 + x := w64 (by omega) (by omega)
  refine Ok.yes (by simp [e]; omega) (Ok.yes (by simp) (Ok.yes (by simp [e, roomFor]; omega) (Ok.mk ⟨⟨z, z, ?_⟩, (t1.trans t).more (by omega)⟩)))
  simp only [e, textOf, List.length_map, List.length_replicate]; omega

theorem size_ok {code : List Int} {a s : Int} (h : At code 4 a) : Ok (s_l1Cur_size_f code a s) fun r => (0 ≤ r.1 ∧ r.1 ≤ 120) ∧ To code a 4 r.2.1 r.2.2.1 := by
  unfold s_l1Cur_size_f
  refine (one_ok (h.less (by omega))).bind ?_
  rintro ⟨x1, c1, a1, s1⟩ t1
  refine Ok.ite (fun _ => ?_) fun _ => ?_
  · refine (pick_ok (t1.at (j := 2) (h.less (by omega)))).bind ?_
    rintro ⟨x, c, a', s'⟩ ⟨hx, t⟩
    simp only at hx
    have e : IntKind.wrap .i64 (120 - x) = 120 - x := w64 (by omega) (by omega)
    exact Ok.mk ⟨by simp only [e]; omega, t1.trans t⟩
  · refine (pick_ok (t1.at (j := 2) (h.less (by omega)))).bind ?_
    rintro ⟨x, c, a', s'⟩ ⟨hx, t⟩
    simp only at hx
    exact Ok.mk ⟨by simp only; omega, t1.trans t⟩

theorem room_ok {B : Nat} {l : List Prt} (h : Sm B l) (hB : B ≤ 1099511627776) (x : Prt) : roomFor (List.length l + List.length [x]) 32 = true := by
  have := h.len
  simp [roomFor]; omega
theorem Sm.snoc {B C : Nat} {l : List Prt} {p : Prt} (h : Sm B l) (hp : I64 p.1 ∧ I64 p.2.1) (hl : B + 1 ≤ C) (hc : B + p.2.2.length ≤ C) : Sm C (l ++ [p]) :=
  ⟨by have := h.len; simp; omega, by rw [psum_append]; simp only [psum]; have := h.put; omega, fun q hq => by
    rcases List.mem_append.1 hq with hq | hq
    · exact h.fit q hq
    · rw [List.mem_singleton.1 hq]; exact hp⟩

theorem changeOf_round {n : Int} {l : List Prt} {room : Int} {c : List Int} {a s : Int} {B : Nat} (h : At c 10 a) (hl : Sm B l) (hB : B ≤ 1099511627000) (hn : n ≤ 1048576) :
    Ok (s_l1Cur_changeOf_f_L1 (n, l, room, c, a, s)) fun r => match r with
      | .inl y => 0 < n ∧ 0 ≤ y.1 ∧ y.1 < n ∧ Sm (B + 6) y.2.1 ∧ To c a 10 y.2.2.2.1 y.2.2.2.2.1
      | .inr z => n ≤ 0 ∧ z.1 = l ∧ To c a 0 z.2.2.1 z.2.2.2.1 := by
  have z : I64 0 := by unfold I64; omega
  unfold s_l1Cur_changeOf_f_L1
  refine Ok.ite (fun hc => ?_) fun hc => Ok.mk ⟨by simpa using hc, rfl, To.refl _ _⟩
  have hpos : 0 < n := by simpa using hc
  refine (put_ok (h.less (by omega))).bind ?_
  rintro ⟨p, c1, a1, s1⟩ ⟨hp, t1⟩
  dsimp only at hp t1 ⊢
  refine Ok.bind (Q := fun v => v.1 = n ∧ v.2.1 = l ∧ v.2.2.2.1 = p ∧ To c a 4 v.2.2.2.2.2.1 v.2.2.2.2.2.2.1) ?_ ?_
  · refine (one_ok (t1.at (j := 2) (h.less (by omega)))).bind ?_
    rintro ⟨x, c2, a2, s2⟩ t2
    exact Ok.ite (fun _ => Ok.mk ⟨rfl, rfl, rfl, t1.trans t2⟩) fun _ => Ok.mk ⟨rfl, rfl, rfl, t1.trans t2⟩
  rintro ⟨n', l', room', p', fl, c2, a2, s2⟩ ⟨e1, e2, e3, t2⟩
  dsimp only at e1 e2 e3 t2 ⊢
  subst e1 e2 e3
  refine Ok.bind (Q := fun v => v.1 = n' ∧ Sm (B + 5) v.2.1 ∧ To c a 4 v.2.2.2.1 v.2.2.2.2.1) ?_ ?_
  · refine Ok.ite (fun _ => ?_) fun _ => Ok.mk ⟨rfl, hl.mono (by omega), t2⟩
    refine Ok.bind_eq (s_l1Add_eq hl (by omega) 0 0 p' (by omega)) (Ok.mk ⟨rfl, addp_sm hl ⟨z, z⟩ (by omega) (by dsimp only; omega), t2⟩)
  rintro ⟨n1, l1, room1, c3, a3, s3⟩ ⟨e1, hl1, t3⟩
  dsimp only at e1 hl1 t3 ⊢
  subst e1
  refine (pick_ok (t3.at (j := 2) (h.less (by omega)))).bind ?_
  rintro ⟨k0, c4, a4, s4⟩ ⟨hk0, t4⟩
  dsimp only at hk0 t4 ⊢
  have t4 := t3.trans t4
  refine (one_ok (t4.at (j := 2) (h.less (by omega)))).bind ?_
  rintro ⟨fl2, c5, a5, s5⟩ t5
  dsimp only at t5 ⊢
  have t5 := t4.trans t5
  refine Ok.bind (Q := fun v => v.1 = n1 ∧ v.2.1 = l1 ∧ (1 ≤ v.2.2.2.1 ∧ v.2.2.2.1 ≤ 1048576) ∧ To c a 8 v.2.2.2.2.1 v.2.2.2.2.2.1) ?_ ?_
  · refine Ok.ite (fun _ => Ok.mk ⟨rfl, rfl, by dsimp only; omega, t5⟩) fun _ => ?_
    have e : IntKind.wrap .i64 (1 + k0) = 1 + k0 := w64 (by omega) (by omega)
    exact Ok.mk ⟨rfl, rfl, by dsimp only; rw [e]; omega, t5⟩
  rintro ⟨n2, l2, room2, k2, c6, a6, s6⟩ ⟨e1, e2, hk2, t6⟩
  dsimp only at e1 e2 hk2 t6 ⊢
  subst e1 e2
  refine Ok.bind (Q := fun v => v.1 = n2 ∧ v.2.1 = l2 ∧ (1 ≤ v.2.2.2.1 ∧ v.2.2.2.1 ≤ n2) ∧ To c a 8 v.2.2.2.2.1 v.2.2.2.2.2.1) ?_ ?_
  · refine Ok.ite (fun _ => Ok.mk ⟨rfl, rfl, by dsimp only; omega, t6⟩) fun hc => Ok.mk ⟨rfl, rfl, ?_, t6⟩
    simp only [decide_eq_true_eq] at hc
    dsimp only; omega
  rintro ⟨n3, l3, room3, k3, c7, a7, s7⟩ ⟨e1, e2, hk3, t7⟩
  dsimp only at e1 e2 hk3 t7 ⊢
  subst e1 e2
  refine (one_ok (t7.at (j := 2) (h.less (by omega)))).bind ?_
  rintro ⟨fl3, c8, a8, s8⟩ t8
  dsimp only at t8 ⊢
  have t8 := t7.trans t8
  have ik : I64 k3 := by unfold I64; omega
  refine Ok.bind (Q := fun v => v.1 = n3 ∧ Sm (B + 6) v.2.1 ∧ v.2.2.2.1 = k3 ∧ To c a 10 v.2.2.2.2.1 v.2.2.2.2.2.1) ?_ ?_
  · refine Ok.ite (fun _ => ?_) fun _ => ?_
    · exact Ok.bind_eq (s_l1Add_eq hl1 (by omega) 0 k3 [] (by simp)) (Ok.mk ⟨rfl, addp_sm hl1 ⟨z, ik⟩ (by omega) (by simp), rfl, t8⟩)
    · exact Ok.bind_eq (s_l1Add_eq hl1 (by omega) k3 0 [] (by simp)) (Ok.mk ⟨rfl, addp_sm hl1 ⟨ik, z⟩ (by omega) (by simp), rfl, t8⟩)
  rintro ⟨n4, l4, room4, k4, c9, a9, s9⟩ ⟨e1, hl4, e2, t9⟩
  dsimp only at e1 hl4 e2 t9 ⊢
  subst e1 e2
  have e : IntKind.wrap .i64 (n4 - k4) = n4 - k4 := w64 (by omega) (by omega)
  exact Ok.mk ⟨hpos, by dsimp only; omega, by dsimp only; omega, hl4, t9⟩

theorem changeOf_ok {n : Int} {code : List Int} {a s : Int} (N : Nat) (hN : n ≤ N) (hn : n ≤ 1048576) (hNn : N ≤ 1048576) (h : At code (10 * N + 24) a) :
    Ok (s_l1Cur_changeOf_f n code a s) fun r => Sm (6 * N + 127) r.1 ∧ To code a (10 * N + 24) r.2.1 r.2.2.1 := by
  unfold s_l1Cur_changeOf_f
  refine Ok.bind (Q := fun v => Sm (6 * N) v.1 ∧ To code a (10 * N) v.2.2.1 v.2.2.2.1) ?_ ?_
  · refine Ok.loop (fun y => y.1 ≤ (N : Int) ∧ (0 ≤ y.1 ∨ y.1 = n) ∧ Sm (6 * (N - y.1.toNat)) y.2.1 ∧ To code a (10 * (N - y.1.toNat : Nat)) y.2.2.2.1 y.2.2.2.2.1) (fun y => y.1.toNat) ⟨hN, .inr rfl, Sm.nil _, (To.refl _ _).more (by omega)⟩ ?_
    rintro ⟨m, l, room, c, a', s'⟩ ⟨h1, h2, h3, t⟩
    dsimp only at h1 h2 h3 t ⊢
    by_cases hm : 0 < m
    · refine (changeOf_round (t.at (j := 10) (h.less (by omega))) h3 (by omega) (by omega)).mono ?_
      rintro (⟨m', l', room', c', a'', s''⟩ | z) hr
      · obtain ⟨_, k1, k2, k3, k4⟩ := hr
        dsimp only at k1 k2 k3 k4 ⊢
        exact ⟨⟨by omega, .inl k1, k3.mono (by omega), (t.trans k4).more (by omega)⟩, by omega⟩
      · exact absurd hr.1 (by omega)
    · refine (changeOf_round (n := m) (t.at (j := 10) (h.less (by omega))) h3 (by omega) (by omega)).mono ?_
      rintro (y | ⟨l', room', c', a'', s''⟩) hr
      · exact absurd hr.1 hm
      · obtain ⟨_, k1, k2⟩ := hr
        dsimp only at k1 k2 ⊢
        subst k1
        exact ⟨h3.mono (by omega), (t.trans k2).more (by omega)⟩
  rintro ⟨l, room, c, a1, s1⟩ ⟨hl, t1⟩
  dsimp only at hl t1 ⊢
  have z : I64 0 := by unfold I64; omega
  refine (put_ok (t1.at (j := 2) (h.less (by omega)))).bind ?_
  rintro ⟨p, c2, a2, s2⟩ ⟨hp, t2⟩
  dsimp only at hp t2 ⊢
  have t2 := t1.trans t2
  refine Ok.bind (Q := fun v => v.1 = l ∧ v.2.1 = p ∧ To code a (10 * N + 4) v.2.2.2.1 v.2.2.2.2.1) ?_ ?_
  · refine (one_ok (t2.at (j := 2) (h.less (by omega)))).bind ?_
    rintro ⟨x, c3, a3, s3⟩ t3
    exact Ok.ite (fun _ => Ok.mk ⟨rfl, rfl, (t2.trans t3).more (by omega)⟩) fun _ => Ok.mk ⟨rfl, rfl, (t2.trans t3).more (by omega)⟩
  rintro ⟨l', p', fl, c3, a3, s3⟩ ⟨e1, e2, t3⟩
  dsimp only at e1 e2 t3 ⊢
  subst e1 e2
  refine Ok.bind (Q := fun v => Sm (6 * N + 6) v.1 ∧ To code a (10 * N + 4) v.2.1 v.2.2.1) ?_ ?_
  · refine Ok.ite (fun _ => ?_) fun _ => Ok.mk ⟨hl.mono (by omega), t3⟩
    exact Ok.bind_eq (s_l1Add_eq hl (by omega) 0 0 p' (by omega)) (Ok.mk ⟨addp_sm hl ⟨z, z⟩ (by omega) (by dsimp only; omega), t3⟩)
  rintro ⟨l1, c4, a4, s4⟩ ⟨hl1, t4⟩
  dsimp only at hl1 t4 ⊢
  refine (one_ok (t4.at (j := 2) (h.less (by omega)))).bind ?_
  rintro ⟨fl2, c5, a5, s5⟩ t5
  dsimp only at t5 ⊢
  have t5 := t4.trans t5
  refine Ok.bind (Q := fun v => Sm (6 * N + 127) v.1 ∧ To code a (10 * N + 24) v.2.1 v.2.2.1) ?_ (fun v hv => Ok.mk hv)
  refine Ok.ite (fun _ => ?_) fun _ => Ok.mk ⟨hl1.mono (by omega), t5.more (by omega)⟩
  refine (part_ok (t5.at (j := 18) (h.less (by omega)))).bind ?_
  rintro ⟨x, y, w, c6, a6, s6⟩ ⟨⟨g1, g2, g3⟩, t6⟩
  dsimp only at g1 g2 g3 t6 ⊢
  exact Ok.yes (room_ok hl1 (by omega) _) (Ok.mk ⟨hl1.snoc ⟨g1, g2⟩ (by omega) (by dsimp only; omega), (t5.trans t6).more (by omega)⟩)
end Go.V.G

/-
  P3: good changes, their lengths.
-/
set_option linter.unusedVariables false
set_option linter.unusedSimpArgs false
set_option maxRecDepth 100000
namespace Go.V.G
open Go.V

def src : List Prt → Int
  | [] => 0
  | p :: l => p.1 + p.2.1 + src l
def tgt : List Prt → Int
  | [] => 0
  | p :: l => p.1 + p.2.2.length + tgt l
theorem src_append : ∀ a b : List Prt, src (a ++ b) = src a + src b
  | [], b => by simp [src]
  | p :: a, b => by simp only [List.cons_append, src, src_append a b]; omega
theorem tgt_append : ∀ a b : List Prt, tgt (a ++ b) = tgt a + tgt b
  | [], b => by simp [tgt]
  | p :: a, b => by simp only [List.cons_append, tgt, tgt_append a b]; omega
/-- behind a part of kind k: kinds that are some, and never twice the same -/
def okk : Int → List Prt → Bool
  | _, [] => true
  | k, p :: l => !(decide (kd p = 0)) && !(decide (kd p = k)) && okk (kd p) l
def good (c : List Prt) : Bool := okk 0 c && decide (src c ≤ 120) && decide (tgt c ≤ 120)

/-- a part of some kind -/
structure Some1 (p : Prt) : Prop where
  k : 0 ≤ p.1
  d : 0 ≤ p.2.1
  ne : kd p ≠ 0
theorem some1_of {p : Prt} (h : kd p ≠ 0) : Some1 p := by
  refine ⟨?_, ?_, h⟩ <;> (unfold kd at h; split at h; omega; split at h; omega; split at h; omega; exact absurd rfl h)
theorem okk_some : ∀ {k : Int} {l : List Prt}, okk k l = true → ∀ p ∈ l, Some1 p
  | k, q :: l, h, p, hp => by
    simp only [okk, Bool.and_eq_true, Bool.not_eq_true', decide_eq_false_iff_not] at h
    rcases List.mem_cons.1 hp with rfl | hp
    · exact some1_of h.1.1
    · exact okk_some h.2 p hp
theorem src_nonneg : ∀ {l : List Prt}, (∀ p ∈ l, Some1 p) → 0 ≤ src l
  | [], _ => Int.le_refl _
  | p :: l, h => by
    have h1 := h p (by simp)
    have h2 := src_nonneg (l := l) (fun q hq => h q (by simp [hq]))
    have := h1.k; have := h1.d
    simp only [src]; omega
theorem tgt_nonneg : ∀ {l : List Prt}, (∀ p ∈ l, Some1 p) → 0 ≤ tgt l
  | [], _ => Int.le_refl _
  | p :: l, h => by
    have h1 := h p (by simp)
    have h2 := tgt_nonneg (l := l) (fun q hq => h q (by simp [hq]))
    have := h1.k
    simp only [tgt]; omega

theorem cut_at {l : List Prt} {i : Nat} (h : i < l.length) : l = l.take i ++ l[i] :: l.drop (i + 1) := by
  rw [← List.drop_eq_getElem_cons h, List.take_append_drop]
theorem src_at {l : List Prt} {i : Nat} (h : i < l.length) : src l = src (l.take i) + (l[i].1 + l[i].2.1 + src (l.drop (i + 1))) := by
  conv => lhs; rw [cut_at h]
  rw [src_append]; rfl
theorem tgt_at {l : List Prt} {i : Nat} (h : i < l.length) : tgt l = tgt (l.take i) + (l[i].1 + l[i].2.2.length + tgt (l.drop (i + 1))) := by
  conv => lhs; rw [cut_at h]
  rw [tgt_append]; rfl
theorem src_take {l : List Prt} {i : Nat} (h : i < l.length) : src (l.take (i + 1)) = src (l.take i) + (l[i].1 + l[i].2.1) := by
  rw [List.take_succ_eq_append_getElem h, src_append]; simp [src]
theorem tgt_take {l : List Prt} {i : Nat} (h : i < l.length) : tgt (l.take (i + 1)) = tgt (l.take i) + (l[i].1 + l[i].2.2.length) := by
  rw [List.take_succ_eq_append_getElem h, tgt_append]; simp [tgt]
/-- the kind ahead of place i -/
def before (l : List Prt) (i : Nat) : Int := if i = 0 then 0 else match l[i - 1]? with
  | some p => kd p
  | none => 0
theorem before_succ {l : List Prt} {i : Nat} (h : i < l.length) : before l (i + 1) = kd l[i] := by simp [before, List.getElem?_eq_getElem h]
theorem okk_drop {l : List Prt} {i : Nat} (h : i < l.length) (k : Int) : okk k (l.drop i) = (!(decide (kd l[i] = 0)) && !(decide (kd l[i] = k)) && okk (kd l[i]) (l.drop (i + 1))) := by
  rw [List.drop_eq_getElem_cons h]; rfl
theorem mem_drop {l : List Prt} {i : Nat} {p : Prt} (h : p ∈ l.drop i) : p ∈ l := List.mem_of_mem_drop h
theorem mem_take {l : List Prt} {i : Nat} {p : Prt} (h : p ∈ l.take i) : p ∈ l := List.mem_of_mem_take h

/-- loops over the places of a list: so far so good -/
theorem idx_succ {i : Nat} {n : Nat} (hn : n ≤ 1099511627776) (h : i < n) : IntKind.wrap .i64 ((i : Int) + 1) = ((i + 1 : Nat) : Int) := by
  rw [w64 (by omega) (by omega)]; omega

theorem i_good_loop {c : List Prt} (hlen : c.length ≤ 1099511627776) : Ok (loopG i_GoodChange_L1 (c, c, ((List.length c : Nat) : Int), 0)) fun r => match r with
    | .inl y => y = c ∧ okk 0 c = true
    | .inr b => b = false ∧ okk 0 c = false := by
  refine Ok.loop (fun y => y.1 = c ∧ y.2.1 = c ∧ y.2.2.1 = ((List.length c : Nat) : Int) ∧ ∃ i : Nat, y.2.2.2 = ((i : Nat) : Int) ∧ i ≤ c.length ∧ okk 0 c = okk (before c i) (c.drop i)) (fun y => (((List.length c : Nat) : Int) - y.2.2.2).toNat)
    ⟨rfl, rfl, rfl, 0, rfl, Nat.zero_le _, by simp [before]⟩ ?_
  rintro ⟨a, b, n, i'⟩ ⟨e1, e2, e3, i, e4, hi, hk⟩
  dsimp only at e1 e2 e3 e4
  subst e1 e2 e3 e4
  unfold i_GoodChange_L1
  dsimp only
  refine Ok.ite (fun hc => ?_) fun hc => ?_
  · have hlt : i < b.length := by simpa using hc
    refine Ok.yes (by simp) (Ok.bind_eq (r := b[i]) (by simp [List.getElem?_eq_getElem hlt]) (Ok.bind_eq (i_kind_eq _ _ _) ?_))
    have hb : before b i = before b i := rfl
    refine Ok.bind (Q := fun v => v = (b, b, ((List.length b : Nat) : Int), ((i : Nat) : Int), decide (kd b[i] = 0) || decide (kd b[i] = before b i))) ?_ ?_
    · refine Ok.ite (fun h0 => ?_) fun h0 => ?_
      · exact Ok.mk (by have : kd b[i] = 0 := by simpa using h0
                        simp [this])
      · have h0' : ¬ kd b[i] = 0 := by simpa using h0
        refine Ok.ite (fun hp => ?_) fun hp => ?_
        · have hp' : 0 < i := by simpa using hp
          have e : IntKind.wrap .i64 ((i : Int) - 1) = ((i - 1 : Nat) : Int) := by rw [w64 (by omega) (by omega)]; omega
          have hl1 : i - 1 < b.length := by omega
          refine Ok.yes (by simp [e]) (Ok.bind_eq (r := b[i - 1]) (by simp [e, List.getElem?_eq_getElem hl1]) (Ok.bind_eq (i_kind_eq _ _ _) (Ok.mk ?_)))
          have hne : ¬ i = 0 := by omega
          have hb : before b i = kd b[i - 1] := by simp [before, hne, List.getElem?_eq_getElem hl1]
          rw [hb]
          have e0 : decide (kd b[i] = 0) = false := by simpa using h0'
          rw [e0, Bool.false_or]
          show (_, _, _, _, decide (kd b[i - 1] = kd b[i])) = _
          congr 4
          exact decide_eq_decide.2 eq_comm
        · have hi0 : i = 0 := by
            have : ¬ (0 : Int) < (i : Int) := by simpa using hp
            omega
          subst hi0
          have e0 : decide (kd b[0] = 0) = false := by simpa using h0'
          exact Ok.mk (by simp [before, e0])
    · rintro _ rfl
      dsimp only
      rw [okk_drop hlt] at hk
      refine Ok.ite (fun hbad => Ok.mk ⟨rfl, ?_⟩) fun hfine => Ok.mk ⟨⟨rfl, rfl, rfl, i + 1, idx_succ hlen hlt, by omega, ?_⟩, ?_⟩
      · rw [hk]
        rcases Bool.or_eq_true_iff.1 hbad with h | h <;> simp [h]
      · rw [hk, before_succ hlt]
        have : (decide (kd b[i] = 0) || decide (kd b[i] = before b i)) = false := by simpa using hfine
        obtain ⟨h1, h2⟩ := Bool.or_eq_false_iff.1 this
        simp [h1, h2]
      · rw [idx_succ hlen hlt]; dsimp only; omega
  · have : i = b.length := by
      have : ¬ ((i : Int) < ((List.length b : Nat) : Int)) := by simpa using hc
      omega
    subst this
    exact Ok.mk ⟨rfl, by rw [hk]; simp [okk]⟩

def lens (c : List Prt) : Int × (Int × Bool) := if src c ≤ 120 ∧ tgt c ≤ 120 then (src c, tgt c, true) else (0, 0, false)
theorem i_lengths_eq {c : List Prt} (hlen : c.length ≤ 1099511627776) (hput : psum c ≤ 1099511627776) (hs : ∀ p ∈ c, Some1 p) (hf : ∀ p ∈ c, I64 p.1 ∧ I64 p.2.1) : i_lengths c = some (lens c) := by
  unfold i_lengths
  refine Ok.eq ?_
  refine Ok.bind (Q := fun r => match r with
    | .inl y => src c ≤ 120 ∧ tgt c ≤ 120 ∧ y = (src c, tgt c)
    | .inr y => ¬ (src c ≤ 120 ∧ tgt c ≤ 120) ∧ y = (0, 0, false)) ?_ ?_
  · refine Ok.loop (fun y => y.2.2.1 = c ∧ y.2.2.2.1 = ((List.length c : Nat) : Int) ∧ ∃ i : Nat, y.2.2.2.2 = ((i : Nat) : Int) ∧ i ≤ c.length ∧ y.1 = src (c.take i) ∧ y.2.1 = tgt (c.take i) ∧ y.1 ≤ 120 ∧ y.2.1 ≤ 120) (fun y => (((List.length c : Nat) : Int) - y.2.2.2.2).toNat)
      ⟨rfl, rfl, 0, rfl, Nat.zero_le _, by simp [src], by simp [tgt], by simp, by simp⟩ ?_
    rintro ⟨s, t, c', n, i'⟩ ⟨e1, e2, i, e3, hi, e4, e5, h1, h2⟩
    dsimp only at e1 e2 e3 e4 e5 h1 h2
    subst e1 e2 e3
    unfold i_lengths_L1
    dsimp only
    refine Ok.ite (fun hc => ?_) fun hc => ?_
    · have hlt : i < c'.length := by simpa using hc
      have hmem : c'[i] ∈ c' := List.getElem_mem hlt
      have hp := hs _ hmem
      have hpf := hf _ hmem
      have hpp := psum_mem hmem
      have k0 := hp.k
      have d0 := hp.d
      have n1 := src_nonneg (l := c'.take i) fun p h => hs p (mem_take h)
      have n2 := tgt_nonneg (l := c'.take i) fun p h => hs p (mem_take h)
      have n3 := src_nonneg (l := c'.drop (i + 1)) fun p h => hs p (mem_drop h)
      have n4 := tgt_nonneg (l := c'.drop (i + 1)) fun p h => hs p (mem_drop h)
      have a1 := src_at hlt
      have a2 := tgt_at hlt
      refine Ok.yes (by simp) (Ok.bind_eq (r := c'[i]) (by simp [List.getElem?_eq_getElem hlt]) ?_)
      refine Ok.bind (Q := fun v => v = (s, t, c', ((List.length c' : Nat) : Int), ((i : Nat) : Int), decide (120 < c'[i].1 ∨ 120 < c'[i].2.1), c'[i].1, c'[i].2.1, c'[i].2.2)) ?_ ?_
      · refine Ok.ite (fun h => Ok.mk ?_) fun h => Ok.mk ?_
        · have : 120 < c'[i].1 := by simpa using h
          simp [this]
        · have : ¬ 120 < c'[i].1 := by simpa using h
          simp [this]
      rintro _ rfl
      dsimp only
      refine Ok.ite (fun hb => Ok.mk ⟨?_, rfl⟩) fun hb => ?_
      · have : 120 < c'[i].1 ∨ 120 < c'[i].2.1 := by simpa using hb
        omega
      · have hb' : ¬ (120 < c'[i].1 ∨ 120 < c'[i].2.1) := by simpa using hb
        have w1 : IntKind.wrap .i64 (c'[i].1 + c'[i].2.1) = c'[i].1 + c'[i].2.1 := w64 (by omega) (by omega)
        have w2 : IntKind.wrap .i64 (s + (c'[i].1 + c'[i].2.1)) = s + (c'[i].1 + c'[i].2.1) := w64 (by omega) (by omega)
        have w3 : IntKind.wrap .i64 (c'[i].1 + ((List.length c'[i].2.2 : Nat) : Int)) = c'[i].1 + ((List.length c'[i].2.2 : Nat) : Int) := w64 (by omega) (by omega)
        have w4 : IntKind.wrap .i64 (t + (c'[i].1 + ((List.length c'[i].2.2 : Nat) : Int))) = t + (c'[i].1 + ((List.length c'[i].2.2 : Nat) : Int)) := w64 (by omega) (by omega)
        rw [w1, w2, w3, w4]
        refine Ok.bind (Q := fun v => v = (s + (c'[i].1 + c'[i].2.1), t + (c'[i].1 + ((List.length c'[i].2.2 : Nat) : Int)), c', ((List.length c' : Nat) : Int), ((i : Nat) : Int), decide (120 < s + (c'[i].1 + c'[i].2.1) ∨ 120 < t + (c'[i].1 + ((List.length c'[i].2.2 : Nat) : Int))))) ?_ ?_
        · refine Ok.ite (fun h => Ok.mk ?_) fun h => Ok.mk ?_
          · have : 120 < s + (c'[i].1 + c'[i].2.1) := by simpa using h
            simp [this]
          · have : ¬ 120 < s + (c'[i].1 + c'[i].2.1) := by simpa using h
            simp [this]
        rintro _ rfl
        dsimp only
        refine Ok.ite (fun hb => Ok.mk ⟨?_, rfl⟩) fun hb => Ok.mk ⟨⟨rfl, rfl, i + 1, idx_succ hlen hlt, by omega, ?_, ?_, ?_, ?_⟩, ?_⟩
        · have : 120 < s + (c'[i].1 + c'[i].2.1) ∨ 120 < t + (c'[i].1 + ((List.length c'[i].2.2 : Nat) : Int)) := by simpa using hb
          omega
        · rw [src_take hlt, e4]
        · rw [tgt_take hlt, e5]
        · have : ¬ (120 < s + (c'[i].1 + c'[i].2.1) ∨ 120 < t + (c'[i].1 + ((List.length c'[i].2.2 : Nat) : Int))) := by simpa using hb
          dsimp only; omega
        · have : ¬ (120 < s + (c'[i].1 + c'[i].2.1) ∨ 120 < t + (c'[i].1 + ((List.length c'[i].2.2 : Nat) : Int))) := by simpa using hb
          dsimp only; omega
        · rw [idx_succ hlen hlt]; dsimp only; omega
    · have : i = c'.length := by
        have : ¬ ((i : Int) < ((List.length c' : Nat) : Int)) := by simpa using hc
        omega
      subst this
      rw [List.take_length] at e4 e5
      exact Ok.mk ⟨by omega, by omega, by rw [e4, e5]⟩
  · rintro (y | y) h
    · obtain ⟨h1, h2, rfl⟩ := h
      exact Ok.mk (by simp [lens, h1, h2])
    · obtain ⟨h1, rfl⟩ := h
      exact Ok.mk (by simp [lens, h1])

theorem i_Good_eq {B : Nat} {c : List Prt} (h : Sm B c) (hB : B ≤ 1099511627776) : i_GoodChange c = some (good c) := by
  unfold i_GoodChange
  refine Ok.eq (Ok.bind (i_good_loop (Nat.le_trans h.len hB)) ?_)
  rintro (y | b) hr
  · obtain ⟨rfl, hk⟩ := hr
    refine Ok.bind_eq (i_lengths_eq (Nat.le_trans h.len hB) (Nat.le_trans h.put hB) (okk_some hk) h.fit) (Ok.mk ?_)
    unfold good lens
    rw [hk]
    by_cases h1 : src y ≤ 120 <;> by_cases h2 : tgt y ≤ 120 <;> simp [h1, h2]
  · obtain ⟨rfl, hk⟩ := hr
    exact Ok.mk (by simp [good, hk])

def lensOf (c : List Prt) : Int × (Int × Bool) := if good c = true then (src c, tgt c, true) else (0, 0, false)
theorem good_spec {c : List Prt} (h : good c = true) : okk 0 c = true ∧ src c ≤ 120 ∧ tgt c ≤ 120 := by
  simp only [good, Bool.and_eq_true, decide_eq_true_eq] at h
  exact ⟨h.1.1, h.1.2, h.2⟩
theorem i_LengthsOf_eq {B : Nat} {c : List Prt} (h : Sm B c) (hB : B ≤ 1099511627776) : i_LengthsOf c = some (lensOf c) := by
  unfold i_LengthsOf lensOf
  rw [i_Good_eq h hB, Option.bind_some]
  cases hg : good c with
  | false => simp
  | true =>
    obtain ⟨h1, h2, h3⟩ := good_spec hg
    simp [i_lengths_eq (Nat.le_trans h.len hB) (Nat.le_trans h.put hB) (okk_some h1) h.fit, lens, h2, h3]
end Go.V.G

/-
  P4: the reference's good changes and lengths.
-/
set_option linter.unusedVariables false
set_option linter.unusedSimpArgs false
set_option maxRecDepth 100000
namespace Go.V.G
open Go.V

theorem s_Good_eq {B : Nat} {c : List Prt} (h : Sm B c) (hB : B ≤ 1099511627776) : s_GoodChange c = some (good c) := by
  have hlen := Nat.le_trans h.len hB
  have hput := Nat.le_trans h.put hB
  unfold s_GoodChange
  refine Ok.eq (Ok.bind (Q := fun r => match r with
    | .inl _ => good c = true
    | .inr b => b = false ∧ good c = false) ?_ ?_)
  · refine Ok.loop (fun y => y.1 = c ∧ y.2.2.2.1 = c ∧ y.2.2.2.2.1 = ((List.length c : Nat) : Int) ∧ ∃ i : Nat, y.2.2.2.2.2 = ((i : Nat) : Int) ∧ i ≤ c.length ∧ y.2.1 = src (c.take i) ∧ y.2.2.1 = tgt (c.take i) ∧ y.2.1 ≤ 120 ∧ y.2.2.1 ≤ 120 ∧
        okk 0 c = okk (before c i) (c.drop i) ∧ ∀ p ∈ c.take i, Some1 p) (fun y => (((List.length c : Nat) : Int) - y.2.2.2.2.2).toNat)
      ⟨rfl, rfl, rfl, 0, rfl, Nat.zero_le _, by simp [src], by simp [tgt], by simp, by simp, by simp [before], fun p hp => by simp at hp⟩ ?_
    rintro ⟨c0, s, t, c', n, i'⟩ ⟨e1, e2, e3, i, e4, hi, e5, e6, h1, h2, hk, hs⟩
    dsimp only at e1 e2 e3 e4 e5 e6 h1 h2
    subst e1 e2 e3 e4
    unfold s_GoodChange_L1
    dsimp only
    refine Ok.ite (fun hc => ?_) fun hc => ?_
    · have hlt : i < c'.length := by simpa using hc
      have hmem : c'[i] ∈ c' := List.getElem_mem hlt
      have hpf := h.fit _ hmem
      have hpp := psum_mem hmem
      refine Ok.yes (by simp) (Ok.bind_eq (r := c'[i]) (by simp [List.getElem?_eq_getElem hlt]) (Ok.bind_eq (s_kind_eq _ _ _) ?_))
      rw [okk_drop hlt] at hk
      have n1 := src_nonneg hs
      have n2 := tgt_nonneg hs
      have a1 := src_at hlt
      have a2 := tgt_at hlt
      -- what falls at this part
      have bad : (kd c'[i] = 0 ∨ kd c'[i] = before c' i ∨ 120 < c'[i].1 ∨ 120 < c'[i].2.1 ∨ 120 < c'[i].2.2.length) → good c' = false := by
        intro hb
        cases hg : good c' with
        | false => rfl
        | true =>
          exfalso
          obtain ⟨g1, g2, g3⟩ := good_spec hg
          have q := okk_some g1
          have n3 := src_nonneg (l := c'.drop (i + 1)) fun p h => q p (mem_drop h)
          have n4 := tgt_nonneg (l := c'.drop (i + 1)) fun p h => q p (mem_drop h)
          have p1 := q _ hmem
          have k0 := p1.k; have d0 := p1.d
          rw [g1] at hk
          have hk' := hk.symm
          simp only [Bool.and_eq_true, Bool.not_eq_true', decide_eq_false_iff_not] at hk'
          rcases hb with hb | hb | hb | hb | hb
          · exact p1.ne hb
          · exact hk'.1.2 hb
          · omega
          · omega
          · omega
      refine Ok.bind (Q := fun v => ∃ b : Bool, v = (c', s, t, c', ((List.length c' : Nat) : Int), ((i : Nat) : Int), b, c'[i].1, c'[i].2.1, c'[i].2.2) ∧
          (b = true → kd c'[i] = 0 ∨ kd c'[i] = before c' i ∨ 120 < c'[i].1 ∨ 120 < c'[i].2.1 ∨ 120 < c'[i].2.2.length) ∧
          (b = false → kd c'[i] ≠ 0 ∧ kd c'[i] ≠ before c' i ∧ c'[i].1 ≤ 120 ∧ c'[i].2.1 ≤ 120 ∧ c'[i].2.2.length ≤ 120)) ?_ ?_
      · refine Ok.ite (fun h0 => ?_) fun h0 => ?_
        · have h0' : kd c'[i] = 0 := by simpa using h0
          exact Ok.mk ⟨true, rfl, fun _ => .inl h0', fun h => by cases h⟩
        · have h0' : ¬ kd c'[i] = 0 := by simpa using h0
          refine Ok.ite (fun hp => ?_) fun hp => ?_
          · have hp' : 0 < i := by simpa using hp
            have e : IntKind.wrap .i64 ((i : Int) - 1) = ((i - 1 : Nat) : Int) := by rw [w64 (by omega) (by omega)]; omega
            have hl1 : i - 1 < c'.length := by omega
            have hne : ¬ i = 0 := by omega
            have hb : before c' i = kd c'[i - 1] := by simp [before, hne, List.getElem?_eq_getElem hl1]
            refine Ok.yes (by simp [e]) (Ok.bind_eq (r := c'[i - 1]) (by simp [e, List.getElem?_eq_getElem hl1]) (Ok.bind_eq (s_kind_eq _ _ _) ?_))
            rw [hb]
            refine Ok.ite (fun hq => ?_) fun hq => ?_
            · have hq' : kd c'[i - 1] = kd c'[i] := by simpa using hq
              exact Ok.mk ⟨true, rfl, fun _ => .inr (.inl hq'.symm), fun h => by cases h⟩
            have hq' : ¬ kd c'[i - 1] = kd c'[i] := by simpa using hq
            refine Ok.ite (fun hq1 => Ok.mk ⟨true, rfl, fun _ => .inr (.inr (.inl (by simpa using hq1))), fun h => by cases h⟩) fun hq1 => ?_
            refine Ok.ite (fun hq2 => Ok.mk ⟨true, rfl, fun _ => .inr (.inr (.inr (.inl (by simpa using hq2)))), fun h => by cases h⟩) fun hq2 => ?_
            refine Ok.mk ⟨_, rfl, fun hq3 => .inr (.inr (.inr (.inr ?_))), fun hq3 => ⟨h0', fun h => hq' h.symm, by simpa using hq1, by simpa using hq2, ?_⟩⟩
            · simp only [decide_eq_true_eq] at hq3; omega
            · simp only [decide_eq_false_iff_not] at hq3; omega
          · have hi0 : i = 0 := by
              have : ¬ (0 : Int) < (i : Int) := by simpa using hp
              omega
            subst hi0
            have hb : before c' 0 = 0 := rfl
            rw [hb]
            refine Ok.ite (fun hq1 => Ok.mk ⟨true, rfl, fun _ => .inr (.inr (.inl (by simpa using hq1))), fun h => by cases h⟩) fun hq1 => ?_
            refine Ok.ite (fun hq2 => Ok.mk ⟨true, rfl, fun _ => .inr (.inr (.inr (.inl (by simpa using hq2)))), fun h => by cases h⟩) fun hq2 => ?_
            refine Ok.mk ⟨_, rfl, fun hq3 => .inr (.inr (.inr (.inr ?_))), fun hq3 => ⟨h0', h0', by simpa using hq1, by simpa using hq2, ?_⟩⟩
            · simp only [decide_eq_true_eq] at hq3; omega
            · simp only [decide_eq_false_iff_not] at hq3; omega
      rintro _ ⟨b, rfl, hb1, hb2⟩
      dsimp only
      cases b with
      | true => exact Ok.yes rfl (Ok.mk ⟨rfl, bad (hb1 rfl)⟩)
      | false =>
        refine Ok.no (by simp) ?_
        obtain ⟨g1, g2, g3, g4, g5⟩ := hb2 rfl
        have p1 := some1_of g1
        have k0 := p1.k; have d0 := p1.d
        have w1 : IntKind.wrap .i64 (c'[i].1 + c'[i].2.1) = c'[i].1 + c'[i].2.1 := w64 (by omega) (by omega)
        have w2 : IntKind.wrap .i64 (s + (c'[i].1 + c'[i].2.1)) = s + (c'[i].1 + c'[i].2.1) := w64 (by omega) (by omega)
        have w3 : IntKind.wrap .i64 (c'[i].1 + ((List.length c'[i].2.2 : Nat) : Int)) = c'[i].1 + ((List.length c'[i].2.2 : Nat) : Int) := w64 (by omega) (by omega)
        have w4 : IntKind.wrap .i64 (t + (c'[i].1 + ((List.length c'[i].2.2 : Nat) : Int))) = t + (c'[i].1 + ((List.length c'[i].2.2 : Nat) : Int)) := w64 (by omega) (by omega)
        rw [w1, w2, w3, w4]
        have over : (120 < s + (c'[i].1 + c'[i].2.1) ∨ 120 < t + (c'[i].1 + ((List.length c'[i].2.2 : Nat) : Int))) → good c' = false := by
          intro ho
          cases hg : good c' with
          | false => rfl
          | true =>
            exfalso
            obtain ⟨q1, q2, q3⟩ := good_spec hg
            have q := okk_some q1
            have n3 := src_nonneg (l := c'.drop (i + 1)) fun p h => q p (mem_drop h)
            have n4 := tgt_nonneg (l := c'.drop (i + 1)) fun p h => q p (mem_drop h)
            omega
        refine Ok.bind (Q := fun v => v = (c', s + (c'[i].1 + c'[i].2.1), t + (c'[i].1 + ((List.length c'[i].2.2 : Nat) : Int)), c', ((List.length c' : Nat) : Int), ((i : Nat) : Int), decide (120 < s + (c'[i].1 + c'[i].2.1) ∨ 120 < t + (c'[i].1 + ((List.length c'[i].2.2 : Nat) : Int))))) ?_ ?_
        · refine Ok.ite (fun h => Ok.mk ?_) fun h => Ok.mk ?_
          · have : 120 < s + (c'[i].1 + c'[i].2.1) := by simpa using h
            simp [this]
          · have : ¬ 120 < s + (c'[i].1 + c'[i].2.1) := by simpa using h
            simp [this]
        rintro _ rfl
        dsimp only
        refine Ok.ite (fun hb => Ok.mk ⟨rfl, over (by simpa using hb)⟩) fun hb => Ok.mk ⟨⟨rfl, rfl, rfl, i + 1, idx_succ hlen hlt, by omega, ?_, ?_, ?_, ?_, ?_, ?_⟩, ?_⟩
        · rw [src_take hlt, e5]
        · rw [tgt_take hlt, e6]
        · have : ¬ (120 < s + (c'[i].1 + c'[i].2.1) ∨ 120 < t + (c'[i].1 + ((List.length c'[i].2.2 : Nat) : Int))) := by simpa using hb
          dsimp only; omega
        · have : ¬ (120 < s + (c'[i].1 + c'[i].2.1) ∨ 120 < t + (c'[i].1 + ((List.length c'[i].2.2 : Nat) : Int))) := by simpa using hb
          dsimp only; omega
        · rw [hk, before_succ hlt]; simp [g1, g2]
        · intro p hp
          rw [List.take_succ_eq_append_getElem hlt] at hp
          rcases List.mem_append.1 hp with hp | hp
          · exact hs p hp
          · rw [List.mem_singleton.1 hp]; exact p1
        · rw [idx_succ hlen hlt]; dsimp only; omega
    · have : i = c'.length := by
        have : ¬ ((i : Int) < ((List.length c' : Nat) : Int)) := by simpa using hc
        omega
      subst this
      rw [List.take_length] at e5 e6
      refine Ok.mk ?_
      unfold good
      rw [hk]
      simp [okk]
      omega
  · rintro (y | b) hr
    · exact Ok.mk hr.symm
    · obtain ⟨rfl, hk⟩ := hr
      exact Ok.mk hk.symm

theorem s_Source_eq {B : Nat} {c : List Prt} (h : Sm B c) (hB : B ≤ 1099511627776) (hs : ∀ p ∈ c, Some1 p) (hle : src c ≤ 1000000) : s_l1Source c = some (src c) := by
  have hlen := Nat.le_trans h.len hB
  unfold s_l1Source
  have : loopG s_l1Source_L1 (0, c, ((List.length c : Nat) : Int), 0) = some (src c) := by
    have := loop_run s_l1Source_L1 (fun k => (src (c.take k), c, ((List.length c : Nat) : Int), (k : Int))) c.length (src c) (by
      intro i hlt
      have n1 := src_nonneg (l := c.take i) fun p h => hs p (mem_take h)
      have n3 := src_nonneg (l := c.drop (i + 1)) fun p h => hs p (mem_drop h)
      have p1 := hs _ (List.getElem_mem hlt)
      have k0 := p1.k; have d0 := p1.d
      have a1 := src_at hlt
      have w1 : IntKind.wrap .i64 (c[i].1 + c[i].2.1) = c[i].1 + c[i].2.1 := w64 (by omega) (by omega)
      have w2 : IntKind.wrap .i64 (src (c.take i) + (c[i].1 + c[i].2.1)) = src (c.take i) + (c[i].1 + c[i].2.1) := w64 (by omega) (by omega)
      have hi : ((i : Nat) : Int) < ((List.length c : Nat) : Int) := by omega
      simp [s_l1Source_L1, hi, List.getElem?_eq_getElem hlt, w1, w2, src_take hlt, idx_succ hlen hlt]) (by simp [s_l1Source_L1])
    simpa [src] using this
  rw [this]; rfl
theorem s_Target_eq {B : Nat} {c : List Prt} (h : Sm B c) (hB : B ≤ 1099511627776) (hs : ∀ p ∈ c, Some1 p) (hle : tgt c ≤ 1000000) : s_l1Target c = some (tgt c) := by
  have hlen := Nat.le_trans h.len hB
  unfold s_l1Target
  have : loopG s_l1Target_L1 (0, c, ((List.length c : Nat) : Int), 0) = some (tgt c) := by
    have := loop_run s_l1Target_L1 (fun k => (tgt (c.take k), c, ((List.length c : Nat) : Int), (k : Int))) c.length (tgt c) (by
      intro i hlt
      have n1 := tgt_nonneg (l := c.take i) fun p h => hs p (mem_take h)
      have n3 := tgt_nonneg (l := c.drop (i + 1)) fun p h => hs p (mem_drop h)
      have p1 := hs _ (List.getElem_mem hlt)
      have k0 := p1.k
      have a1 := tgt_at hlt
      have w1 : IntKind.wrap .i64 (c[i].1 + ((List.length c[i].2.2 : Nat) : Int)) = c[i].1 + ((List.length c[i].2.2 : Nat) : Int) := w64 (by omega) (by omega)
      have w2 : IntKind.wrap .i64 (tgt (c.take i) + (c[i].1 + ((List.length c[i].2.2 : Nat) : Int))) = tgt (c.take i) + (c[i].1 + ((List.length c[i].2.2 : Nat) : Int)) := w64 (by omega) (by omega)
      have hi : ((i : Nat) : Int) < ((List.length c : Nat) : Int) := by omega
      simp [s_l1Target_L1, hi, List.getElem?_eq_getElem hlt, w1, w2, tgt_take hlt, idx_succ hlen hlt]) (by simp [s_l1Target_L1])
    simpa [tgt] using this
  rw [this]; rfl
theorem s_LengthsOf_eq {B : Nat} {c : List Prt} (h : Sm B c) (hB : B ≤ 1099511627776) : s_LengthsOf c = some (lensOf c) := by
  unfold s_LengthsOf lensOf
  rw [s_Good_eq h hB, Option.bind_some]
  cases hg : good c with
  | false => simp
  | true =>
    obtain ⟨h1, h2, h3⟩ := good_spec hg
    simp [s_Source_eq h hB (okk_some h1) (by omega), s_Target_eq h hB (okk_some h1) (by omega)]
theorem s_In_eq (n lo hi : Int) : s_l1In n lo hi = some (decide (lo ≤ n ∧ n ≤ hi)) := by
  unfold s_l1In
  by_cases h1 : lo ≤ n <;> simp [h1]
theorem i_within_eq (n lo hi : Int) : i_within n lo hi = some (decide (lo ≤ n ∧ n ≤ hi)) := by
  unfold i_within
  by_cases h1 : lo ≤ n <;> simp [h1]
end Go.V.G

/-
  P5: changes byte by byte: what 'tell' and 'l1Open' return; places across a change.
-/
set_option linter.unusedVariables false
set_option linter.unusedSimpArgs false
set_option maxRecDepth 100000
namespace Go.V.G
open Go.V

inductive Atom where
  | ins (b : UInt8)
  | keep
  | drop
  deriving DecidableEq
def mk (f : Bool) : Atom := if f = true then .keep else .drop
def pa (p : Prt) : List Atom := p.2.2.map Atom.ins ++ List.replicate (p.1 + p.2.1).toNat (mk (decide (0 < p.1)))
def atoms (c : List Prt) : List Atom := c.flatMap pa
def stays : List Atom → List Bool
  | [] => []
  | .ins _ :: l => stays l
  | .keep :: l => true :: stays l
  | .drop :: l => false :: stays l
def consHead (b : UInt8) : List (List UInt8) → List (List UInt8)
  | p :: ps => (b :: p) :: ps
  | [] => [[b]]
def puts : List Atom → List (List UInt8)
  | [] => [[]]
  | .ins b :: l => consHead b (puts l)
  | .keep :: l => [] :: puts l
  | .drop :: l => [] :: puts l
def nIns : List Atom → Nat
  | [] => 0
  | .ins _ :: l => nIns l + 1
  | _ :: l => nIns l

theorem atoms_nil : atoms [] = [] := rfl
theorem atoms_append (a b : List Prt) : atoms (a ++ b) = atoms a ++ atoms b := by simp [atoms]
theorem atoms_take {c : List Prt} {i : Nat} (h : i < c.length) : atoms (c.take (i + 1)) = atoms (c.take i) ++ pa c[i] := by
  rw [List.take_succ_eq_append_getElem h, atoms_append]; simp [atoms]
theorem stays_append : ∀ a b : List Atom, stays (a ++ b) = stays a ++ stays b
  | [], b => rfl
  | .ins _ :: a, b => stays_append a b
  | .keep :: a, b => congrArg (true :: ·) (stays_append a b)
  | .drop :: a, b => congrArg (false :: ·) (stays_append a b)
theorem stays_ins : ∀ s : List UInt8, stays (s.map Atom.ins) = []
  | [] => rfl
  | _ :: s => stays_ins s
theorem stays_rep (f : Bool) : ∀ m : Nat, stays (List.replicate m (mk f)) = List.replicate m f
  | 0 => rfl
  | m + 1 => by
    rw [List.replicate_succ, List.replicate_succ, ← stays_rep f m]
    cases f <;> rfl
theorem consHead_ne (b : UInt8) (P : List (List UInt8)) : consHead b P ≠ [] := by cases P <;> simp [consHead]
theorem puts_ne : ∀ l : List Atom, puts l ≠ []
  | [] => by simp [puts]
  | .ins b :: l => consHead_ne b _
  | .keep :: l => by simp [puts]
  | .drop :: l => by simp [puts]
theorem consHead_len (b : UInt8) {P : List (List UInt8)} (h : P ≠ []) : (consHead b P).length = P.length := by cases P with
  | nil => exact absurd rfl h
  | cons => rfl
theorem puts_len : ∀ l : List Atom, (puts l).length = (stays l).length + 1
  | [] => rfl
  | .ins b :: l => by rw [puts, consHead_len b (puts_ne l), puts_len l]; rfl
  | .keep :: l => by simp [puts, stays, puts_len l]
  | .drop :: l => by simp [puts, stays, puts_len l]
theorem consHead_append (b : UInt8) {P : List (List UInt8)} (h : P ≠ []) (Q : List (List UInt8)) : consHead b (P ++ Q) = consHead b P ++ Q := by cases P with
  | nil => exact absurd rfl h
  | cons => rfl
theorem puts_rep (f : Bool) : ∀ (l : List Atom) (m : Nat), puts (l ++ List.replicate m (mk f)) = puts l ++ List.replicate m []
  | [], m => by
    induction m with
    | zero => rfl
    | succ m ih =>
      rw [List.nil_append] at ih ⊢
      rw [List.replicate_succ, List.replicate_succ]
      cases f <;> (show [] :: puts _ = _; rw [ih]; rfl)
  | .ins b :: l, m => by
    show consHead b (puts (l ++ _)) = consHead b (puts l) ++ _
    rw [puts_rep f l m, consHead_append b (puts_ne l)]
  | .keep :: l, m => congrArg ([] :: ·) (puts_rep f l m)
  | .drop :: l, m => congrArg ([] :: ·) (puts_rep f l m)
theorem puts_map : ∀ s : List UInt8, puts (s.map Atom.ins) = [s]
  | [] => rfl
  | b :: s => by show consHead b (puts (s.map Atom.ins)) = _; rw [puts_map s]; rfl
theorem puts_ins (s : List UInt8) : ∀ l : List Atom, puts (l ++ s.map Atom.ins) = (puts l).dropLast ++ [((puts l).getLast?).getD [] ++ s]
  | [] => by rw [List.nil_append, puts_map]; rfl
  | .ins b :: l => by
    show consHead b (puts (l ++ _)) = _
    rw [puts_ins s l]
    show _ = (consHead b (puts l)).dropLast ++ [((consHead b (puts l)).getLast?).getD [] ++ s]
    have := puts_ne l
    match puts l, this with
    | [p], _ => rfl
    | p :: q :: ps, _ => rfl
  | .keep :: l => by
    show [] :: puts (l ++ _) = ([] :: puts l).dropLast ++ [(([] :: puts l).getLast?).getD [] ++ s]
    rw [puts_ins s l]
    have := puts_ne l
    match puts l, this with
    | p :: ps, _ => rfl
  | .drop :: l => by
    show [] :: puts (l ++ _) = ([] :: puts l).dropLast ++ [(([] :: puts l).getLast?).getD [] ++ s]
    rw [puts_ins s l]
    have := puts_ne l
    match puts l, this with
    | p :: ps, _ => rfl
theorem nIns_append : ∀ a b : List Atom, nIns (a ++ b) = nIns a + nIns b
  | [], b => by simp [nIns]
  | .ins _ :: a, b => by simp only [List.cons_append, nIns, nIns_append a b]; omega
  | .keep :: a, b => nIns_append a b
  | .drop :: a, b => nIns_append a b
theorem nIns_map : ∀ s : List UInt8, nIns (s.map Atom.ins) = s.length
  | [] => rfl
  | _ :: s => by simp only [List.map_cons, nIns, nIns_map s, List.length_cons]
theorem nIns_rep (f : Bool) : ∀ m : Nat, nIns (List.replicate m (mk f)) = 0
  | 0 => rfl
  | m + 1 => by rw [List.replicate_succ]; cases f <;> exact nIns_rep _ m
theorem nIns_pa (p : Prt) : nIns (pa p) = p.2.2.length := by rw [pa, nIns_append, nIns_map, nIns_rep]; rfl
theorem nIns_atoms : ∀ c : List Prt, nIns (atoms c) = psum c
  | [] => rfl
  | p :: c => by
    show nIns (pa p ++ atoms c) = _
    rw [nIns_append, nIns_pa, nIns_atoms c]; rfl
theorem put_le : ∀ (l : List Atom), ∀ p ∈ puts l, p.length ≤ nIns l
  | [], p, h => by rw [List.mem_singleton.1 h]; simp
  | .ins b :: l, p, h => by
    have ih := put_le l
    simp only [puts] at h
    simp only [nIns]
    match hp : puts l, h with
    | q :: qs, h =>
      rw [hp] at ih
      rcases List.mem_cons.1 h with rfl | h
      · have := ih q (by simp); simp only [List.length_cons]; omega
      · have := ih p (by simp [h]); omega
    | [], h => exact absurd hp (puts_ne l)
  | .keep :: l, p, h => by
    rcases List.mem_cons.1 h with rfl | h
    · simp
    · exact put_le l p h
  | .drop :: l, p, h => by
    rcases List.mem_cons.1 h with rfl | h
    · simp
    · exact put_le l p h
theorem stays_pa (p : Prt) : stays (pa p) = List.replicate (p.1 + p.2.1).toNat (decide (0 < p.1)) := by rw [pa, stays_append, stays_ins, stays_rep]; rfl
theorem stays_len : ∀ {c : List Prt}, (∀ p ∈ c, Some1 p) → (((stays (atoms c)).length : Nat) : Int) = src c
  | [], _ => rfl
  | p :: c, h => by
    have ih := stays_len (c := c) fun q hq => h q (by simp [hq])
    have h1 := h p (by simp)
    have := h1.k; have := h1.d
    show (((stays (pa p ++ atoms c)).length : Nat) : Int) = p.1 + p.2.1 + src c
    rw [stays_append, stays_pa, List.length_append, List.length_replicate]
    omega

/-! ### a part's bytes are laid behind -/
theorem room1 {n b : Nat} (h : n ≤ 1099511627776) (hb : b ≤ 32) : roomFor (n + 1) b = true := by
  simp only [roomFor, decide_eq_true_eq]
  have : (n + 1) * b ≤ (1099511627776 + 1) * 32 := Nat.mul_le_mul (by omega) hb
  omega
theorem tell_inner {c : List Prt} {n i : Int} {S : List Bool} {P : List (List UInt8)} {k d : Int} {s : List UInt8} {m : Nat} (hS : S.length + m ≤ 1099511627776) (hP : P.length + m ≤ 1099511627776) :
    loopG i_tell_L1 (c, n, i, ((m : Nat) : Int), 0, S, P, k, d, s) = some (c, n, i, S ++ List.replicate m (decide (0 < k)), P ++ List.replicate m []) := by
  have := loop_run i_tell_L1 (fun q => (c, n, i, ((m : Nat) : Int), ((q : Nat) : Int), S ++ List.replicate q (decide (0 < k)), P ++ List.replicate q [], k, d, s)) m (c, n, i, S ++ List.replicate m (decide (0 < k)), P ++ List.replicate m []) (by
    intro q hq
    have h1 : ((q : Nat) : Int) < ((m : Nat) : Int) := by omega
    have h2 : roomFor (List.length (S ++ List.replicate q (decide (0 < k))) + List.length ([decide ((0 : Int) < k)] : List Bool)) 1 = true := room1 (by simp; omega) (by omega)
    have h3 : roomFor (List.length (P ++ List.replicate q []) + List.length ([([] : List UInt8)] : List (List UInt8))) 16 = true := room1 (by simp; omega) (by omega)
    unfold i_tell_L1
    simp only [h1, h2, h3, decide_true, if_true, idx_succ (show m ≤ 1099511627776 by omega) hq, List.replicate_succ', List.append_assoc]) (by simp [i_tell_L1])
  simpa using this
theorem open_inner {c : List Prt} {n i : Int} {S : List Bool} {P : List (List UInt8)} {k d : Int} {s : List UInt8} {m : Nat} (hkd : IntKind.wrap .i64 (k + d) = ((m : Nat) : Int)) (hS : S.length + m ≤ 1099511627776) (hP : P.length + m ≤ 1099511627776) :
    loopG s_l1Open_L1 (0, c, n, i, S, P, k, d, s) = some (c, n, i, S ++ List.replicate m (decide (0 < k)), P ++ List.replicate m []) := by
  have := loop_run s_l1Open_L1 (fun q => (((q : Nat) : Int), c, n, i, S ++ List.replicate q (decide (0 < k)), P ++ List.replicate q [], k, d, s)) m (c, n, i, S ++ List.replicate m (decide (0 < k)), P ++ List.replicate m []) (by
    intro q hq
    have h1 : ((q : Nat) : Int) < ((m : Nat) : Int) := by omega
    have h2 : roomFor (List.length (S ++ List.replicate q (decide (0 < k))) + List.length ([decide ((0 : Int) < k)] : List Bool)) 1 = true := room1 (by simp; omega) (by omega)
    have h3 : roomFor (List.length (P ++ List.replicate q []) + List.length ([([] : List UInt8)] : List (List UInt8))) 16 = true := room1 (by simp; omega) (by omega)
    unfold s_l1Open_L1
    simp only [hkd, h1, h2, h3, decide_true, if_true, idx_succ (show m ≤ 1099511627776 by omega) hq, List.replicate_succ', List.append_assoc]) (by simp [s_l1Open_L1, hkd])
  simpa using this

/-- one round of either -/
theorem tell_step {c : List Prt} {i : Nat} (hlt : i < c.length) : ∃ q : List UInt8, (puts (atoms (c.take i)))[(stays (atoms (c.take i))).length]? = some q ∧ q.length ≤ psum c ∧
    stays (atoms (c.take (i + 1))) = stays (atoms (c.take i)) ++ List.replicate (c[i].1 + c[i].2.1).toNat (decide (0 < c[i].1)) ∧
    puts (atoms (c.take (i + 1))) = ((puts (atoms (c.take i))).set (stays (atoms (c.take i))).length (q ++ c[i].2.2)) ++ List.replicate (c[i].1 + c[i].2.1).toNat [] := by
  obtain ⟨n, hn, hq, hset⟩ := len_last (List.getLast?_eq_some_getLast (puts_ne (atoms (c.take i))))
  have e : n = (stays (atoms (c.take i))).length := by have := puts_len (atoms (c.take i)); omega
  subst e
  refine ⟨_, hq, ?_, ?_, ?_⟩
  · have h1 := put_le _ _ (List.mem_of_getElem? hq)
    rw [nIns_atoms] at h1
    have h2 : psum c = psum (c.take i) + psum (c.drop i) := by rw [← psum_append, List.take_append_drop]
    omega
  · rw [atoms_take hlt, stays_append, stays_pa]
  · rw [atoms_take hlt, pa, ← List.append_assoc, puts_rep, puts_ins, hset, List.getLast?_eq_some_getLast (puts_ne _)]; rfl

theorem i_tell_eq {B : Nat} {c : List Prt} (h : Sm B c) (hB : B ≤ 1099511627000) (hs : ∀ p ∈ c, Some1 p) (hle : src c ≤ 1000000) : i_tell c = some (stays (atoms c), puts (atoms c)) := by
  have hlen := Nat.le_trans h.len hB
  have hput := Nat.le_trans h.put hB
  unfold i_tell
  have : loopG i_tell_L2 (c, ((List.length c : Nat) : Int), 0, [], [([] : List UInt8)]) = some (stays (atoms c), puts (atoms c)) := by
    have := loop_run i_tell_L2 (fun k => (c, ((List.length c : Nat) : Int), ((k : Nat) : Int), stays (atoms (c.take k)), puts (atoms (c.take k)))) c.length (stays (atoms c), puts (atoms c)) (by
      intro i hlt
      obtain ⟨q, h1, h2, h3, h4⟩ := tell_step hlt
      have hp := hs _ (List.getElem_mem hlt)
      have hpp := psum_mem (List.getElem_mem hlt)
      have k0 := hp.k; have d0 := hp.d
      have n1 := src_nonneg (l := c.take i) fun p h => hs p (mem_take h)
      have n3 := src_nonneg (l := c.drop (i + 1)) fun p h => hs p (mem_drop h)
      have a1 := src_at hlt
      have sl := stays_len (c := c.take i) fun p h => hs p (mem_take h)
      have pl := puts_len (atoms (c.take i))
      have hi : ((i : Nat) : Int) < ((List.length c : Nat) : Int) := by omega
      have e1 : IntKind.wrap .i64 (((List.length (puts (atoms (c.take i))) : Nat) : Int) - 1) = (((stays (atoms (c.take i))).length : Nat) : Int) := by rw [w64 (by omega) (by omega)]; omega
      have g1 : (((stays (atoms (c.take i))).length : Nat) : Int) < ((List.length (puts (atoms (c.take i))) : Nat) : Int) := by omega
      have g0 : (0 : Int) ≤ (((stays (atoms (c.take i))).length : Nat) : Int) := by omega
      have g2 : List.length q + List.length c[i].2.2 ≤ 9223372036854775807 := by omega
      have g3 : IntKind.wrap .i64 (c[i].1 + c[i].2.1) = (((c[i].1 + c[i].2.1).toNat : Nat) : Int) := by rw [w64 (by omega) (by omega)]; omega
      unfold i_tell_L2
      simp only [hi, e1, g0, g1, g2, g3, decide_true, if_true, Int.toNat_natCast, List.getElem?_eq_getElem hlt, Option.bind_some, Nat.zero_add, h1,
        show (0 : Int) ≤ ((i : Nat) : Int) from by omega]
      rw [tell_inner (by omega) (by rw [List.length_set]; omega), Option.bind_some]
      simp only [idx_succ (Nat.le_trans hlen (by omega)) hlt, h3, h4]) (by simp [i_tell_L2])
    simpa [atoms, stays, puts] using this
  rw [this]; rfl
theorem s_Open_eq {B : Nat} {c : List Prt} (h : Sm B c) (hB : B ≤ 1099511627000) (hs : ∀ p ∈ c, Some1 p) (hle : src c ≤ 1000000) : s_l1Open c = some (stays (atoms c), puts (atoms c)) := by
  have hlen := Nat.le_trans h.len hB
  have hput := Nat.le_trans h.put hB
  unfold s_l1Open
  have : loopG s_l1Open_L2 (c, ((List.length c : Nat) : Int), 0, [], [([] : List UInt8)]) = some (stays (atoms c), puts (atoms c)) := by
    have := loop_run s_l1Open_L2 (fun k => (c, ((List.length c : Nat) : Int), ((k : Nat) : Int), stays (atoms (c.take k)), puts (atoms (c.take k)))) c.length (stays (atoms c), puts (atoms c)) (by
      intro i hlt
      obtain ⟨q, h1, h2, h3, h4⟩ := tell_step hlt
      have hp := hs _ (List.getElem_mem hlt)
      have hpp := psum_mem (List.getElem_mem hlt)
      have k0 := hp.k; have d0 := hp.d
      have n1 := src_nonneg (l := c.take i) fun p h => hs p (mem_take h)
      have n3 := src_nonneg (l := c.drop (i + 1)) fun p h => hs p (mem_drop h)
      have a1 := src_at hlt
      have sl := stays_len (c := c.take i) fun p h => hs p (mem_take h)
      have pl := puts_len (atoms (c.take i))
      have hi : ((i : Nat) : Int) < ((List.length c : Nat) : Int) := by omega
      have e1 : IntKind.wrap .i64 (((List.length (puts (atoms (c.take i))) : Nat) : Int) - 1) = (((stays (atoms (c.take i))).length : Nat) : Int) := by rw [w64 (by omega) (by omega)]; omega
      have g1 : (((stays (atoms (c.take i))).length : Nat) : Int) < ((List.length (puts (atoms (c.take i))) : Nat) : Int) := by omega
      have g0 : (0 : Int) ≤ (((stays (atoms (c.take i))).length : Nat) : Int) := by omega
      have g2 : List.length q + List.length c[i].2.2 ≤ 9223372036854775807 := by omega
      have g3 : IntKind.wrap .i64 (c[i].1 + c[i].2.1) = (((c[i].1 + c[i].2.1).toNat : Nat) : Int) := by rw [w64 (by omega) (by omega)]; omega
      unfold s_l1Open_L2
      simp only [hi, e1, g0, g1, g2, decide_true, if_true, Int.toNat_natCast, List.getElem?_eq_getElem hlt, Option.bind_some, Nat.zero_add, h1,
        show (0 : Int) ≤ ((i : Nat) : Int) from by omega]
      rw [open_inner g3 (by omega) (by rw [List.length_set]; omega), Option.bind_some]
      simp only [idx_succ (Nat.le_trans hlen (by omega)) hlt, h3, h4]) (by simp [s_l1Open_L2])
    simpa [atoms, stays, puts] using this
  rw [this]; rfl
end Go.V.G

/-
  P6: places across a change; the pure law of FnImages.
-/
set_option linter.unusedVariables false
set_option linter.unusedSimpArgs false
set_option maxRecDepth 100000
namespace Go.V.G
open Go.V

def pre (P : List (List UInt8)) (S : List Bool) : Nat → Int
  | 0 => 0
  | k + 1 => pre P S k + (((P.getD k []).length : Nat) : Int) + (if S.getD k false = true then 1 else 0)
theorem pre_shift (p : List UInt8) (P : List (List UInt8)) (s : Bool) (S : List Bool) : ∀ k, pre (p :: P) (s :: S) (k + 1) = ((p.length : Nat) : Int) + (if s = true then 1 else 0) + pre P S k
  | 0 => by simp [pre]
  | k + 1 => by
    show pre (p :: P) (s :: S) (k + 1) + _ + _ = _
    rw [pre_shift p P s S k]
    simp only [List.getD_cons_succ, pre]
    omega
theorem pre_head (b : UInt8) (p : List UInt8) (P : List (List UInt8)) (S : List Bool) : ∀ k, pre ((b :: p) :: P) S (k + 1) = 1 + pre (p :: P) S (k + 1)
  | 0 => by simp [pre]; omega
  | k + 1 => by
    show pre ((b :: p) :: P) S (k + 1) + _ + _ = 1 + (pre (p :: P) S (k + 1) + _ + _)
    rw [pre_head b p P S k]
    simp only [List.getD_cons_succ]
    omega
theorem pre_nonneg (P : List (List UInt8)) (S : List Bool) : ∀ k, 0 ≤ pre P S k
  | 0 => Int.le_refl _
  | k + 1 => by
    have := pre_nonneg P S k
    simp only [pre]
    split <;> omega
def nK : List Atom → Nat
  | [] => 0
  | .keep :: l => nK l + 1
  | .ins _ :: l => nK l
  | .drop :: l => nK l
theorem nK_append : ∀ a b : List Atom, nK (a ++ b) = nK a + nK b
  | [], b => by simp [nK]
  | .keep :: a, b => by simp only [List.cons_append, nK, nK_append a b]; omega
  | .ins _ :: a, b => nK_append a b
  | .drop :: a, b => nK_append a b
theorem nK_map : ∀ s : List UInt8, nK (s.map Atom.ins) = 0
  | [] => rfl
  | _ :: s => nK_map s
theorem nK_rep (f : Bool) : ∀ m : Nat, nK (List.replicate m (mk f)) = if f = true then m else 0
  | 0 => by cases f <;> rfl
  | m + 1 => by
    have := nK_rep f m
    rw [List.replicate_succ]
    cases f
    · exact this
    · simp only [if_true] at this ⊢
      show nK (.keep :: _) = _
      simp only [nK]
      rw [this]
theorem Some1.z {p : Prt} (h : Some1 p) : 0 < p.1 → p.2.1 = 0 := by
  intro h0
  have := h.ne
  unfold kd at this
  split at this
  · rename_i h; exact h.2.1
  · split at this
    · rename_i h; omega
    · split at this
      · rename_i h; omega
      · exact absurd rfl this
theorem tgt_atoms : ∀ {c : List Prt}, (∀ p ∈ c, Some1 p) → tgt c = ((nIns (atoms c) + nK (atoms c) : Nat) : Int)
  | [], _ => rfl
  | p :: c, h => by
    have ih := tgt_atoms (c := c) fun q hq => h q (by simp [hq])
    have h1 := h p (by simp)
    have k0 := h1.k; have d0 := h1.d; have z := h1.z
    show p.1 + ((p.2.2.length : Nat) : Int) + tgt c = ((nIns (pa p ++ atoms c) + nK (pa p ++ atoms c) : Nat) : Int)
    have e : nK (pa p) = p.1.toNat := by
      rw [pa, nK_append, nK_map, nK_rep, Nat.zero_add]
      by_cases h0 : 0 < p.1
      · simp [h0, z h0]
      · simp [h0]; omega
    rw [nIns_append, nIns_pa, nK_append, e]
    omega
theorem img_le : ∀ (l : List Atom) (k : Nat), k ≤ (stays l).length → pre (puts l) (stays l) k + ((((puts l).getD k []).length : Nat) : Int) ≤ ((nIns l + nK l : Nat) : Int)
  | [], k, h => by
    obtain rfl : k = 0 := by simpa [stays] using h
    simp [pre, puts, nIns, nK]
  | .ins b :: l, k, h => by
    have ih := img_le l k h
    simp only [puts, stays, nIns, nK]
    match hp : puts l, puts_ne l with
    | p :: P, _ =>
      rw [hp] at ih
      cases k with
      | zero => simp only [consHead, pre, List.getD_cons_zero, List.length_cons] at ih ⊢; omega
      | succ k => simp only [consHead, pre_head, List.getD_cons_succ] at ih ⊢; omega
  | .keep :: l, k, h => by
    cases k with
    | zero => simp only [puts, pre, List.getD_cons_zero, List.length_nil]; omega
    | succ k =>
      have ih := img_le l k (by simpa [stays] using h)
      simp only [puts, stays, nIns, nK, pre_shift, List.getD_cons_succ, List.length_nil, if_true] at ih ⊢; omega
  | .drop :: l, k, h => by
    cases k with
    | zero => simp only [puts, pre, List.getD_cons_zero, List.length_nil]; omega
    | succ k =>
      have ih := img_le l k (by simpa [stays] using h)
      simp only [puts, stays, nIns, nK, pre_shift, List.getD_cons_succ, List.length_nil, Bool.false_eq_true, if_false] at ih ⊢; omega

def imgAt (c : List Prt) (p : Int) (b : Bool) : Int := pre (puts (atoms c)) (stays (atoms c)) p.toNat + (if b = true then ((((puts (atoms c)).getD p.toNat []).length : Nat) : Int) else 0)
def imgOf (c : List Prt) (p : Int) (b : Bool) : Int := if good c = true ∧ 0 ≤ p ∧ p ≤ src c then imgAt c p b else -1

section
variable {B : Nat} {c : List Prt} (h : Sm B c) (hB : B ≤ 1099511627000)
include h hB
theorem i_ImageOf_eq (p : Int) (b : Bool) : i_ImageOf c p b = some (imgOf c p b) := by
  unfold i_ImageOf imgOf
  rw [i_LengthsOf_eq h (by omega), Option.bind_some]
  unfold lensOf
  cases hg : good c with
  | false => simp
  | true =>
    obtain ⟨h1, h2, h3⟩ := good_spec hg
    have hs := okk_some h1
    by_cases hp : 0 ≤ p ∧ p ≤ src c
    · obtain ⟨hp0, hp1⟩ := hp
      obtain ⟨q, rfl⟩ := Int.eq_ofNat_of_zero_le hp0
      have sl := stays_len hs
      have pl := puts_len (atoms c)
      have hq : q ≤ (stays (atoms c)).length := by omega
      have ta := tgt_atoms hs
      have key : loopG i_ImageOf_L1 (((q : Nat) : Int), b, 0, ((q : Nat) : Int), 0, stays (atoms c), puts (atoms c)) = some (((q : Nat) : Int), b, pre (puts (atoms c)) (stays (atoms c)) q, stays (atoms c), puts (atoms c)) := by
        have := loop_run i_ImageOf_L1 (fun k => (((q : Nat) : Int), b, pre (puts (atoms c)) (stays (atoms c)) k, ((q : Nat) : Int), ((k : Nat) : Int), stays (atoms c), puts (atoms c))) q
          (((q : Nat) : Int), b, pre (puts (atoms c)) (stays (atoms c)) q, stays (atoms c), puts (atoms c)) (by
            intro k hk
            have il := img_le (atoms c) (k + 1) (by omega)
            have pn := pre_nonneg (puts (atoms c)) (stays (atoms c)) k
            simp only [pre] at il
            have hkp : k < (puts (atoms c)).length := by omega
            have hks : k < (stays (atoms c)).length := by omega
            have e1 : (puts (atoms c)).getD k [] = (puts (atoms c))[k] := by simp [hkp]
            have e2 : (stays (atoms c)).getD k false = (stays (atoms c))[k] := by simp [hks]
            rw [e1, e2] at il
            have g1 : ((k : Nat) : Int) < ((q : Nat) : Int) := by omega
            have g2 : ((k : Nat) : Int) < ((List.length (puts (atoms c)) : Nat) : Int) := by omega
            have g3 : ((k : Nat) : Int) < ((List.length (stays (atoms c)) : Nat) : Int) := by omega
            have g0 : (0 : Int) ≤ ((k : Nat) : Int) := by omega
            have w1 : IntKind.wrap .i64 (pre (puts (atoms c)) (stays (atoms c)) k + (((puts (atoms c))[k].length : Nat) : Int)) = pre (puts (atoms c)) (stays (atoms c)) k + (((puts (atoms c))[k].length : Nat) : Int) := by
              apply w64 (by omega)
              split at il <;> omega
            have w2 : IntKind.wrap .i64 (((k : Nat) : Int) + 1) = ((k + 1 : Nat) : Int) := by rw [w64 (by omega) (by omega)]; omega
            have w2' : IntKind.wrap .i64 (((k : Nat) : Int) + 1) = ((k : Nat) : Int) + 1 := w64 (by omega) (by omega)
            unfold i_ImageOf_L1
            simp only [g0, g1, g2, g3, decide_true, if_true, Int.toNat_natCast, Nat.zero_add, List.getElem?_eq_getElem hkp, List.getElem?_eq_getElem hks, Option.bind_some, w1, w2, pre, e1, e2]
            cases hb : (stays (atoms c))[k] with
            | true =>
              rw [hb, if_pos rfl] at il
              have w3 : IntKind.wrap .i64 (pre (puts (atoms c)) (stays (atoms c)) k + (((puts (atoms c))[k].length : Nat) : Int) + 1) = pre (puts (atoms c)) (stays (atoms c)) k + (((puts (atoms c))[k].length : Nat) : Int) + 1 := w64 (by omega) (by omega)
              simp [w3, w2']
            | false => simp [w2']) (by simp [i_ImageOf_L1])
        simpa [pre] using this
      have e3 : i_tell c = _ := i_tell_eq h hB hs (by omega)
      have hqp : q < (puts (atoms c)).length := by omega
      have il := img_le (atoms c) q hq
      have e4 : (puts (atoms c)).getD q [] = (puts (atoms c))[q] := by simp [hqp]
      rw [e4] at il
      have pn := pre_nonneg (puts (atoms c)) (stays (atoms c)) q
      have w1 : IntKind.wrap .i64 (pre (puts (atoms c)) (stays (atoms c)) q + (((puts (atoms c))[q].length : Nat) : Int)) = pre (puts (atoms c)) (stays (atoms c)) q + (((puts (atoms c))[q].length : Nat) : Int) := w64 (by omega) (by omega)
      have hq2 : ((q : Nat) : Int) < ((List.length (puts (atoms c)) : Nat) : Int) := by omega
      have hq0 : (0 : Int) ≤ ((q : Nat) : Int) := by omega
      have e5 : decide ((0 : Int) ≤ ((q : Nat) : Int) ∧ ((q : Nat) : Int) ≤ src c) = true := by simp; omega
      have e6 : ((0 : Int) ≤ ((q : Nat) : Int) ∧ ((q : Nat) : Int) ≤ src c) := ⟨hq0, hp1⟩
      simp only [if_true, Bool.not_true, Bool.false_eq_true, if_false, i_within_eq, e5, Option.bind_some, e3, key, Int.ofNat_eq_natCast, hq0, hq2, decide_true, Int.toNat_natCast, Nat.zero_add, List.getElem?_eq_getElem hqp, w1, imgAt, e4]
      cases b <;> simp [hp1]
    · have e5 : decide ((0 : Int) ≤ p ∧ p ≤ src c) = false := by simpa using hp
      simp only [if_true, Bool.not_true, Bool.false_eq_true, if_false, i_within_eq, e5, Option.bind_some, Bool.not_false, true_and, if_neg hp]
theorem s_ImageOf_eq (p : Int) (b : Bool) : s_ImageOf c p b = some (imgOf c p b) := by
  unfold s_ImageOf imgOf
  rw [s_Good_eq h (by omega), Option.bind_some]
  cases hg : good c with
  | false => simp
  | true =>
    obtain ⟨h1, h2, h3⟩ := good_spec hg
    have hs := okk_some h1
    have e0 : s_l1Source c = _ := s_Source_eq h (by omega) hs (by omega)
    by_cases hp : 0 ≤ p ∧ p ≤ src c
    · obtain ⟨hp0, hp1⟩ := hp
      obtain ⟨q, rfl⟩ := Int.eq_ofNat_of_zero_le hp0
      have sl := stays_len hs
      have pl := puts_len (atoms c)
      have hq : q ≤ (stays (atoms c)).length := by omega
      have ta := tgt_atoms hs
      have hqp : q < (puts (atoms c)).length := by omega
      have il := img_le (atoms c) q hq
      have e4 : (puts (atoms c)).getD q [] = (puts (atoms c))[q] := by simp [hqp]
      rw [e4] at il
      have pn := pre_nonneg (puts (atoms c)) (stays (atoms c)) q
      have w1 : IntKind.wrap .i64 (pre (puts (atoms c)) (stays (atoms c)) q + (((puts (atoms c))[q].length : Nat) : Int)) = pre (puts (atoms c)) (stays (atoms c)) q + (((puts (atoms c))[q].length : Nat) : Int) := w64 (by omega) (by omega)
      have hq2 : ((q : Nat) : Int) < ((List.length (puts (atoms c)) : Nat) : Int) := by omega
      have hq0 : (0 : Int) ≤ ((q : Nat) : Int) := by omega
      have key : loopG s_l1Image_L1 (((q : Nat) : Int), b, 0, puts (atoms c), ((List.length (puts (atoms c)) : Nat) : Int), 0, stays (atoms c)) = some (imgAt c ((q : Nat) : Int) b) := by
        have := loop_run s_l1Image_L1 (fun k => (((q : Nat) : Int), b, pre (puts (atoms c)) (stays (atoms c)) k, puts (atoms c), ((List.length (puts (atoms c)) : Nat) : Int), ((k : Nat) : Int), stays (atoms c))) q
          (imgAt c ((q : Nat) : Int) b) (by
            intro k hk
            have il := img_le (atoms c) (k + 1) (by omega)
            have pn := pre_nonneg (puts (atoms c)) (stays (atoms c)) k
            simp only [pre] at il
            have hkp : k < (puts (atoms c)).length := by omega
            have hks : k < (stays (atoms c)).length := by omega
            have e1 : (puts (atoms c)).getD k [] = (puts (atoms c))[k] := by simp [hkp]
            have e2 : (stays (atoms c)).getD k false = (stays (atoms c))[k] := by simp [hks]
            rw [e1, e2] at il
            have g1 : ¬ ((k : Nat) : Int) = ((q : Nat) : Int) := by omega
            have g2 : ((k : Nat) : Int) < ((List.length (puts (atoms c)) : Nat) : Int) := by omega
            have g3 : ((k : Nat) : Int) < ((List.length (stays (atoms c)) : Nat) : Int) := by omega
            have g0 : (0 : Int) ≤ ((k : Nat) : Int) := by omega
            have w1 : IntKind.wrap .i64 (pre (puts (atoms c)) (stays (atoms c)) k + (((puts (atoms c))[k].length : Nat) : Int)) = pre (puts (atoms c)) (stays (atoms c)) k + (((puts (atoms c))[k].length : Nat) : Int) := by
              apply w64 (by omega)
              split at il <;> omega
            have w2 : IntKind.wrap .i64 (((k : Nat) : Int) + 1) = ((k + 1 : Nat) : Int) := by rw [w64 (by omega) (by omega)]; omega
            have w2' : IntKind.wrap .i64 (((k : Nat) : Int) + 1) = ((k : Nat) : Int) + 1 := w64 (by omega) (by omega)
            unfold s_l1Image_L1
            simp only [g0, g1, g2, g3, decide_true, decide_false, Bool.false_eq_true, if_false, if_true, Int.toNat_natCast, Nat.zero_add, List.getElem?_eq_getElem hkp, List.getElem?_eq_getElem hks, Option.bind_some, w1, w2, pre, e1, e2]
            cases hb : (stays (atoms c))[k] with
            | true =>
              rw [hb, if_pos rfl] at il
              have w3 : IntKind.wrap .i64 (pre (puts (atoms c)) (stays (atoms c)) k + (((puts (atoms c))[k].length : Nat) : Int) + 1) = pre (puts (atoms c)) (stays (atoms c)) k + (((puts (atoms c))[k].length : Nat) : Int) + 1 := w64 (by omega) (by omega)
              simp [w3, w2']
            | false => simp [w2']) (by
            unfold s_l1Image_L1
            simp only [hq2, hq0, decide_true, if_true, Int.toNat_natCast, Nat.zero_add, List.getElem?_eq_getElem hqp, Option.bind_some, w1, imgAt, e4]
            cases b <;> simp)
        simpa [pre] using this
      have e3 : s_l1Open c = _ := s_Open_eq h hB hs (by omega)
      have e5 : decide ((0 : Int) ≤ ((q : Nat) : Int) ∧ ((q : Nat) : Int) ≤ src c) = true := by simp; omega
      simp only [Bool.not_true, Bool.false_eq_true, if_false, if_true, e0, s_In_eq, e5, Option.bind_some, s_l1Image, e3, key, Int.ofNat_eq_natCast]
      simp [hq0, hp1]
    · have e5 : decide ((0 : Int) ≤ p ∧ p ≤ src c) = false := by simpa using hp
      simp only [if_true, Bool.not_true, Bool.false_eq_true, if_false, e0, s_In_eq, e5, Option.bind_some, Bool.not_false, true_and, if_neg hp]
end

theorem drawImage_ok {code : List Int} (hb : Bytes code) : Ok (s_DrawImageOf code) fun r => Sm 847 r.1 ∧ I64 r.2.1 := by
  have h : At code 100000 0 := ⟨hb, by omega, by omega⟩
  unfold s_DrawImageOf
  refine (size_ok (h.less (by omega))).bind ?_
  rintro ⟨n, c1, a1, s1⟩ ⟨hn, t1⟩
  dsimp only at hn t1 ⊢
  refine (changeOf_ok 120 (by omega) (by omega) (by omega) (t1.at (h.less (by omega)))).bind ?_
  rintro ⟨x, c2, a2, s2⟩ ⟨hx, t2⟩
  dsimp only at hx t2 ⊢
  have t2 := t1.trans t2
  have e : IntKind.wrap .i64 (n + 1) = n + 1 := w64 (by omega) (by omega)
  refine (pick_ok (t2.at (j := 2) (h.less (by omega)))).bind ?_
  rintro ⟨p, c3, a3, s3⟩ ⟨hp, t3⟩
  dsimp only at hp t3 ⊢
  rw [e] at hp
  have t3 := t2.trans t3
  refine (one_ok (t3.at (j := 2) (h.less (by omega)))).bind ?_
  rintro ⟨f, c4, a4, s4⟩ t4
  dsimp only at t4 ⊢
  have t4 := t3.trans t4
  have ip : I64 p := by unfold I64; omega
  refine Ok.bind (Q := fun v => v.1 = x ∧ I64 v.2.1 ∧ To code 0 1300 v.2.2.1 v.2.2.2.1) ?_ ?_
  · refine Ok.ite (fun _ => ?_) fun _ => Ok.mk ⟨rfl, ip, t4.more (by omega)⟩
    refine (among_ok (t4.at (j := 2) (h.less (by omega))) (by simp)).bind ?_
    rintro ⟨q, c5, a5, s5⟩ ⟨hq, t5⟩
    refine Ok.mk ⟨rfl, ?_, (t4.trans t5).more (by omega)⟩
    simp only [List.mem_cons, List.not_mem_nil, or_false, e] at hq
    unfold I64
    rcases hq with rfl | rfl | rfl <;> dsimp only <;> omega
  rintro ⟨x', q, c5, a5, s5⟩ ⟨e1, hq, t5⟩
  dsimp only at e1 hq t5 ⊢
  subst e1
  refine (one_ok (t5.at (j := 2) (h.less (by omega)))).bind ?_
  rintro ⟨f2, c6, a6, s6⟩ t6
  exact Ok.mk ⟨hx, hq⟩

theorem bytes_of {e : TypeId} {x : List Int} (h : Fits (.sl false e (.int .u8)) x) : Bytes x := fun n hn => by
  have := h.2 n hn
  have h2 : (Lit.int .u8 n).wf = true := this
  simp [Lit.wf, IntKind.min, IntKind.max, IntKind.bits, IntKind.signed] at h2
  omega
end Go.V.G
