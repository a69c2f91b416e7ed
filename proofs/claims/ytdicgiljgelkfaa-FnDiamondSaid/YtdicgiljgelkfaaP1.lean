/-
  P1: parts and how they are added; the drawing cursor: what each draw may be.
-/
import Derived.Test.YtdicgiljgelkfaaF1
import Derived.Test.YtdicgiljgelkfaaP0
set_option linter.unusedVariables false
set_option linter.unusedSimpArgs false
set_option maxRecDepth 100000
namespace Go.V.G
open Go.V

/-! ### answers that are there -/
def Ok {α : Type} (o : Option α) (Q : α → Prop) : Prop := ∃ r, o = some r ∧ Q r
section
variable {α β σ τ : Type} {Q : α → Prop}
theorem Ok.mk {r : α} (h : Q r) : Ok (some r) Q := ⟨r, rfl, h⟩
theorem Ok.of {o : Option α} {r : α} (h : o = some r) (hq : Q r) : Ok o Q := ⟨r, h, hq⟩
theorem Ok.eq {o : Option α} {r : α} (h : Ok o fun x => x = r) : o = some r := by obtain ⟨x, h, rfl⟩ := h; exact h
theorem Ok.mono {o : Option α} {R : α → Prop} (h : Ok o Q) (hq : ∀ x, Q x → R x) : Ok o R := by obtain ⟨x, h, h'⟩ := h; exact ⟨x, h, hq x h'⟩
theorem Ok.bind {o : Option α} {f : α → Option β} {R : β → Prop} (h : Ok o Q) (hf : ∀ x, Q x → Ok (f x) R) : Ok (o.bind f) R := by
  obtain ⟨x, h, hx⟩ := h
  subst h
  exact hf x hx
theorem Ok.bind_eq {o : Option α} {f : α → Option β} {R : β → Prop} {r : α} (h : o = some r) (hf : Ok (f r) R) : Ok (o.bind f) R := by subst h; exact hf
theorem Ok.ite {c : Prop} [Decidable c] {a b : Option α} (h1 : c → Ok a Q) (h2 : ¬ c → Ok b Q) : Ok (if c then a else b) Q := by
  split
  · rename_i h; exact h1 h
  · rename_i h; exact h2 h
theorem Ok.yes {c : Prop} [Decidable c] {a b : Option α} (hc : c) (h : Ok a Q) : Ok (if c then a else b) Q := by rw [if_pos hc]; exact h
theorem Ok.no {c : Prop} [Decidable c] {a b : Option α} (hc : ¬ c) (h : Ok b Q) : Ok (if c then a else b) Q := by rw [if_neg hc]; exact h
theorem Ok.loop {f : σ → Option (σ ⊕ τ)} (I : σ → Prop) (m : σ → Nat) {R : τ → Prop} {x : σ} (hx : I x) (step : ∀ x, I x → Ok (f x) fun r => match r with
    | .inl y => I y ∧ m y < m x
    | .inr z => R z) : Ok (loopG f x) R := by
  obtain ⟨z, h1, h2⟩ := loop_inv f I m R (fun x hx => by
    obtain ⟨r, h1, h2⟩ := step x hx
    cases r with
    | inl y => exact .inl ⟨y, h1, h2⟩
    | inr z => exact .inr ⟨z, h1, h2⟩) x hx
  exact ⟨z, h1, h2⟩
end

/-! ### parts -/
abbrev Prt := Int × (Int × List UInt8)
def kd (p : Prt) : Int := if 0 < p.1 ∧ p.2.1 = 0 ∧ p.2.2 = [] then 1 else if 0 < p.2.1 ∧ p.1 = 0 ∧ p.2.2 = [] then 2 else if p.2.2 ≠ [] ∧ p.1 = 0 ∧ p.2.1 = 0 then 3 else 0
theorem i_kind_eq (a b : Int) (s : List UInt8) : i_Part_kind a b s = some (kd (a, b, s)) := by
  unfold i_Part_kind kd
  by_cases h1 : 0 < a <;> by_cases h2 : b = 0 <;> by_cases h3 : s = [] <;> by_cases h4 : 0 < b <;> by_cases h5 : a = 0 <;> simp [h1, h2, h3, h4, h5]
theorem s_kind_eq (a b : Int) (s : List UInt8) : s_l1Kind a b s = some (kd (a, b, s)) := by
  unfold s_l1Kind kd
  by_cases h1 : 0 < a <;> by_cases h2 : b = 0 <;> by_cases h3 : s = [] <;> by_cases h4 : 0 < b <;> by_cases h5 : a = 0 <;> simp [h1, h2, h3, h4, h5]

def I64 (n : Int) : Prop := -9223372036854775808 ≤ n ∧ n ≤ 9223372036854775807
theorem I64.wrap (n : Int) : I64 (IntKind.wrap .i64 n) := by rw [IntKind.wrap_i64]; unfold I64; omega
theorem I64.eq {n : Int} (h : I64 n) : IntKind.wrap .i64 n = n := w64 h.1 h.2
def psum : List Prt → Nat
  | [] => 0
  | p :: l => p.2.2.length + psum l
theorem psum_append : ∀ a b : List Prt, psum (a ++ b) = psum a + psum b
  | [], b => by simp [psum]
  | p :: a, b => by simp only [List.cons_append, psum, psum_append a b]; omega
theorem psum_mem : ∀ {l : List Prt} {p : Prt}, p ∈ l → p.2.2.length ≤ psum l
  | q :: l, p, h => by
    rcases List.mem_cons.1 h with rfl | h
    · simp only [psum]; omega
    · have := psum_mem h; simp only [psum]; omega
/-- parts of so many, with so many bytes, whose numbers are machine numbers -/
structure Sm (B : Nat) (l : List Prt) : Prop where
  len : l.length ≤ B
  put : psum l ≤ B
  fit : ∀ p ∈ l, I64 p.1 ∧ I64 p.2.1
theorem Sm.mono {B C : Nat} {l : List Prt} (h : Sm B l) (hc : B ≤ C) : Sm C l := ⟨Nat.le_trans h.len hc, Nat.le_trans h.put hc, h.fit⟩
theorem Sm.nil (B : Nat) : Sm B [] := ⟨Nat.zero_le _, Nat.zero_le _, fun _ h => by cases h⟩

/-- a part laid behind others -/
def addp (l : List Prt) (p : Prt) : List Prt :=
  if p = (0, 0, []) then l else
  match l.getLast? with
  | none => [p]
  | some q => if kd q = kd p then l.dropLast ++ [(IntKind.wrap .i64 (q.1 + p.1), IntKind.wrap .i64 (q.2.1 + p.2.1), q.2.2 ++ p.2.2)] else l ++ [p]
theorem addp_sm {B : Nat} {l : List Prt} {p : Prt} (h : Sm B l) (hp : I64 p.1 ∧ I64 p.2.1) {C : Nat} (hl : B + 1 ≤ C) (hc : B + p.2.2.length ≤ C) : Sm C (addp l p) := by
  unfold addp
  split
  · exact h.mono (by omega)
  · split
    · exact ⟨by simp; omega, by simp only [psum]; have := h.put; omega, fun q hq => by rw [List.mem_singleton.1 hq]; exact hp⟩
    · rename_i q hq
      obtain ⟨l', rfl⟩ := List.getLast?_eq_some_iff.1 hq
      have h1 := h.len
      have h2 := h.put
      rw [psum_append] at h2
      simp only [psum, List.length_append, List.length_singleton] at h1 h2
      split
      · rw [List.dropLast_concat]
        refine ⟨by simp; omega, by rw [psum_append]; simp only [psum, List.length_append]; omega, fun r hr => ?_⟩
        rcases List.mem_append.1 hr with hr | hr
        · exact h.fit r (by simp [hr])
        · rw [List.mem_singleton.1 hr]; exact ⟨I64.wrap _, I64.wrap _⟩
      · refine ⟨by simp; omega, by rw [psum_append, psum_append]; simp only [psum]; omega, fun r hr => ?_⟩
        rcases List.mem_append.1 hr with hr | hr
        · exact h.fit r hr
        · rw [List.mem_singleton.1 hr]; exact hp

theorem len_last {α : Type} {l : List α} {q : α} (h : l.getLast? = some q) : ∃ n, l.length = n + 1 ∧ l[n]? = some q ∧ ∀ x, l.set n x = l.dropLast ++ [x] := by
  obtain ⟨l', rfl⟩ := List.getLast?_eq_some_iff.1 h
  exact ⟨l'.length, by simp, by simp, fun x => by simp⟩

theorem s_l1Add_eq {B : Nat} {l : List Prt} (h : Sm B l) (hB : B ≤ 1099511627776) (a b : Int) (s : List UInt8) (hs : s.length ≤ 1099511627776) : s_l1Add l a b s = some (addp l (a, b, s)) := by
  unfold s_l1Add addp
  by_cases h0 : ((a, b, s) : Prt) = (0, 0, [])
  · obtain ⟨rfl, rfl, rfl⟩ : a = 0 ∧ b = 0 ∧ s = [] := by simpa using h0
    simp
  · rw [if_neg h0, if_neg (by simpa using h0)]
    have hroom : ∀ x : Prt, roomFor (l.length + [x].length) 32 = true := fun x => by
      have := h.len
      simp [roomFor]; omega
    cases hg : l.getLast? with
    | none =>
      obtain rfl : l = [] := by simpa using hg
      simp [roomFor]
    | some q =>
      obtain ⟨n, hn, hq, hset⟩ := len_last hg
      have hqs : q.2.2.length ≤ B := Nat.le_trans (psum_mem (List.mem_of_getElem? hq)) h.put
      have e1 : IntKind.wrap .i64 (((l.length : Nat) : Int) - 1) = ((n : Nat) : Int) := by rw [hn, w64 (by omega) (by have := h.len; omega)]; omega
      have hpos : (0 : Int) < ((l.length : Nat) : Int) := by omega
      have hlt : ((n : Nat) : Int) < ((l.length : Nat) : Int) := by omega
      have hge : (0 : Int) ≤ ((n : Nat) : Int) := by omega
      have hst : ∀ x : Prt, (l.set n x)[n]? = some x := fun x => List.getElem?_set_self (by omega)
      simp only [e1, hpos, hlt, hge, decide_true, if_true, Int.toNat_natCast, Nat.zero_add, hq, Option.bind_some, s_kind_eq]
      by_cases hk : kd q = kd (a, b, s)
      · have hk' : (kd (q.1, q.2.1, q.2.2) = kd (a, b, s)) := hk
        have hlen : q.2.2.length + s.length ≤ 9223372036854775807 := by omega
        simp only [hk', hk, decide_true, if_true, e1, hlt, hge, Int.toNat_natCast, hq, Option.bind_some, hst, List.set_set, hlen]
        rw [hset]
      · have hk' : ¬ (kd (q.1, q.2.1, q.2.2) = kd (a, b, s)) := hk
        simp only [hk', hk, decide_false, if_false, Bool.false_eq_true, hroom, if_true]

/-! ### the cursor -/
def Bytes (code : List Int) : Prop := ∀ x ∈ code, 0 ≤ x ∧ x ≤ 255
/-- at such a place the cursor may stand, so many more steps may come -/
structure At (code : List Int) (k : Int) (a : Int) : Prop where
  b : Bytes code
  lo : 0 ≤ a
  hi : a + k ≤ 4611686018427387904
theorem At.less {code : List Int} {k j a : Int} (h : At code k a) (hj : j ≤ k) : At code j a := ⟨h.b, h.lo, by have := h.hi; omega⟩
/-- how it stands behind -/
structure To (code : List Int) (a k : Int) (code' : List Int) (a' : Int) : Prop where
  c : code' = code
  lo : a ≤ a'
  hi : a' ≤ a + k
theorem To.at {code code' : List Int} {a k a' j : Int} (t : To code a k code' a') (h : At code (k + j) a) : At code' j a' := by
  obtain ⟨rfl, h1, h2⟩ := t
  exact ⟨h.b, by have := h.lo; omega, by have := h.hi; omega⟩
theorem To.trans {c c1 c2 : List Int} {a k a1 j a2 : Int} (t : To c a k c1 a1) (u : To c1 a1 j c2 a2) : To c a (k + j) c2 a2 := by
  obtain ⟨rfl, h1, h2⟩ := t
  obtain ⟨rfl, h3, h4⟩ := u
  exact ⟨rfl, by omega, by omega⟩
theorem To.refl (c : List Int) (a : Int) : To c a 0 c a := ⟨rfl, Int.le_refl _, by omega⟩
theorem To.more {c c1 : List Int} {a k a1 j : Int} (t : To c a k c1 a1) (h : k ≤ j) : To c a j c1 a1 := ⟨t.c, t.lo, by have := t.hi; omega⟩

theorem and255 (x : Int) : 0 ≤ (((BitVec.ofInt (IntKind.bits .u64) x &&& BitVec.ofInt (IntKind.bits .u64) 255).toNat : Nat) : Int) ∧ (((BitVec.ofInt (IntKind.bits .u64) x &&& BitVec.ofInt (IntKind.bits .u64) 255).toNat : Nat) : Int) ≤ 255 := by
  refine ⟨by omega, ?_⟩
  have h : (BitVec.ofInt (IntKind.bits .u64) x &&& BitVec.ofInt (IntKind.bits .u64) 255).toNat ≤ 255 := by
    rw [BitVec.toNat_and]
    exact Nat.le_trans Nat.and_le_right (by simp [IntKind.bits])
  omega

theorem next_ok {code : List Int} {a s : Int} (h : At code 1 a) : Ok (s_l1Cur_next_f code a s) fun r => (0 ≤ r.1 ∧ r.1 ≤ 255) ∧ To code a 1 r.2.1 r.2.2.1 := by
  unfold s_l1Cur_next_f
  refine Ok.bind (Q := fun v => (0 ≤ v.1 ∧ v.1 ≤ 255) ∧ v.2.1 = code ∧ v.2.2.1 = a) ?_ ?_
  · refine Ok.ite (fun hc => ?_) (fun _ => Ok.mk ⟨by simp, rfl, rfl⟩)
    have hlo := h.lo
    simp only [decide_eq_true_eq] at hc
    refine Ok.yes (by simpa using hlo) ?_
    have hi : a.toNat < code.length := by omega
    rw [List.getElem?_eq_getElem hi]
    have hb := h.b _ (List.getElem_mem hi)
    refine Ok.mk ⟨?_, rfl, rfl⟩
    simp only
    rw [w64 (by omega) (by omega)]; exact hb
  · rintro ⟨b, c, a', s'⟩ ⟨hb, e1, e2⟩
    dsimp only at hb e1 e2
    subst e1 e2
    have h1 := h.lo
    have h2 := h.hi
    have e : IntKind.wrap .i64 (a' + 1) = a' + 1 := w64 (by omega) (by omega)
    simp only [e]
    refine Ok.ite (fun _ => Ok.mk ⟨hb, ⟨rfl, by simp only; omega, by simp only; omega⟩⟩) fun _ => ?_
    refine Ok.yes (by simp) (Ok.mk ⟨?_, ⟨rfl, by simp only; omega, by simp only; omega⟩⟩)
    simp only
    have := and255 (Int.fdiv (IntKind.wrap .u64 ((IntKind.wrap .u64 ((IntKind.wrap .u64 (s' * 6364136223846793005)) + (IntKind.wrap .u64 b))) + 1442695040888963407)) (2 ^ (min (Int.toNat 40) (IntKind.bits .u64))))
    rw [wu64 this.1 (by omega), w64 (by omega) (by omega)]
    exact this

theorem tmod_lt {x n : Int} (hx : 0 ≤ x) (hn : 1 < n) : 0 ≤ Int.tmod x n ∧ Int.tmod x n < n := by
  rw [Int.tmod_eq_emod_of_nonneg hx]
  exact ⟨Int.emod_nonneg _ (by omega), Int.emod_lt_of_pos _ (by omega)⟩

theorem pick_ok {code : List Int} {a s n : Int} (h : At code 2 a) : Ok (s_l1Cur_pick_f n code a s) fun r => (0 ≤ r.1 ∧ (r.1 < n ∨ r.1 = 0)) ∧ To code a 2 r.2.1 r.2.2.1 := by
  unfold s_l1Cur_pick_f
  refine Ok.ite (fun hc => Ok.mk ⟨by simp, (To.refl _ _).more (by omega)⟩) fun hc => ?_
  have hn : 1 < n := by simp at hc; omega
  refine (next_ok (h.less (by omega))).bind ?_
  rintro ⟨b, c1, a1, s1⟩ ⟨hb, t1⟩
  refine Ok.bind (Q := fun v => v.1 = n ∧ 0 ≤ v.2.1 ∧ To code a 2 v.2.2.1 v.2.2.2.1) ?_ ?_
  · refine Ok.ite (fun _ => ?_) (fun _ => Ok.mk ⟨rfl, hb.1, t1.more (by omega)⟩)
    refine (next_ok (t1.at h)).bind ?_
    rintro ⟨b2, c2, a2, s2⟩ ⟨hb2, t2⟩
    refine Ok.mk ⟨rfl, ?_, t1.trans t2⟩
    simp only at hb hb2 ⊢
    rw [w64 (n := b * 256) (by omega) (by omega), w64 (by omega) (by omega)]
    omega
  · rintro ⟨n', x, c, a', s'⟩ ⟨rfl, hx, t⟩
    have := tmod_lt hx hn
    refine Ok.yes (by simp; omega) (Ok.mk ⟨⟨this.1, .inl this.2⟩, t⟩)

theorem one_ok {code : List Int} {a s n : Int} (h : At code 2 a) : Ok (s_l1Cur_one_f n code a s) fun r => To code a 2 r.2.1 r.2.2.1 := by
  unfold s_l1Cur_one_f
  exact (pick_ok h).bind fun r hr => Ok.mk hr.2

theorem of_ok {code : List Int} {a s : Int} {l : List (List UInt8)} (h : At code 2 a) (hl : l ≠ []) : Ok (s_l1Cur_of_f l code a s) fun r => r.1 ∈ l ∧ To code a 2 r.2.1 r.2.2.1 := by
  unfold s_l1Cur_of_f
  refine (pick_ok h).bind ?_
  rintro ⟨i, c, a', s'⟩ ⟨⟨h1, h2⟩, t⟩
  have hp : 0 < l.length := List.length_pos_iff.2 hl
  simp only at h1 h2
  have hi : i.toNat < l.length := by omega
  refine Ok.yes (by simpa using h1) (Ok.yes (by simp; omega) ?_)
  rw [Nat.zero_add, List.getElem?_eq_getElem hi]
  exact Ok.mk ⟨List.getElem_mem hi, t⟩

theorem put_ok {code : List Int} {a s : Int} (h : At code 2 a) : Ok (s_l1Cur_put_f code a s) fun r => r.1.length ≤ 5 ∧ To code a 2 r.2.1 r.2.2.1 := by
  unfold s_l1Cur_put_f
  refine (of_ok h (by simp)).bind ?_
  rintro ⟨x, c, a', s'⟩ ⟨hx, t⟩
  refine Ok.mk ⟨?_, t⟩
  simp only [List.mem_cons, List.not_mem_nil, or_false] at hx
  rcases hx with rfl | rfl | rfl | rfl | rfl | rfl <;> simp

theorem among_ok {code : List Int} {a s : Int} {l : List Int} (h : At code 2 a) (hl : l ≠ []) : Ok (s_l1Cur_among_f l code a s) fun r => r.1 ∈ l ∧ To code a 2 r.2.1 r.2.2.1 := by
  unfold s_l1Cur_among_f
  refine (pick_ok h).bind ?_
  rintro ⟨i, c, a', s'⟩ ⟨⟨h1, h2⟩, t⟩
  have hp : 0 < l.length := List.length_pos_iff.2 hl
  simp only at h1 h2
  have hi : i.toNat < l.length := by omega
  refine Ok.yes (by simpa using h1) (Ok.yes (by simp; omega) ?_)
  rw [Nat.zero_add, List.getElem?_eq_getElem hi]
  exact Ok.mk ⟨List.getElem_mem hi, t⟩

theorem wide_ok {code : List Int} {a s : Int} (h : At code 8 a) : Ok (s_l1Cur_wide_f code a s) fun r => I64 r.1 ∧ To code a 8 r.2.1 r.2.2.1 := by
  unfold s_l1Cur_wide_f
  refine Ok.bind (Q := fun r => I64 r.1 ∧ To code a 8 r.2.1 r.2.2.1) ?_ (fun r hr => Ok.mk hr)
  refine Ok.loop (fun y => I64 y.1 ∧ 0 ≤ y.2.1 ∧ y.2.1 ≤ 8 ∧ To code a y.2.1 y.2.2.1 y.2.2.2.1) (fun y => (8 - y.2.1).toNat) ⟨by unfold I64; simp, by simp, by simp, To.refl _ _⟩ ?_
  rintro ⟨n, i, c, a', s'⟩ ⟨hn, h0, h8, t⟩
  simp only at hn h0 h8 t
  unfold s_l1Cur_wide_f_L1
  refine Ok.ite (fun hc => ?_) fun hc => Ok.mk ⟨hn, t.more h8⟩
  have hc' : i < 8 := by simpa using hc
  refine Ok.yes (by simp) ((next_ok (t.at (j := 1) (h.less (by omega)))).bind ?_)
  rintro ⟨b, c2, a2, s2⟩ ⟨hb, t2⟩
  have e : IntKind.wrap .i64 (i + 1) = i + 1 := w64 (by omega) (by omega)
  refine Ok.mk ⟨⟨I64.wrap _, ?_, ?_, ?_⟩, ?_⟩
  · simp only [e]; omega
  · simp only [e]; omega
  · simp only [e]; exact t.trans t2
  · simp only [e]; omega
end Go.V.G
