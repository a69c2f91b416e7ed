import Derived.Test.YtggpihbcaebpjaaQLtA
import Derived.Below
import Derived.Laws.Cells
import Derived.Laws.Concat
import Derived.Deep.AppendSrc
import Derived.Laws.Tables
import Derived.Laws.Strings
import Derived.Laws.StructEq
import Derived.Laws.IdiomCopy
set_option linter.unusedVariables false
set_option linter.unusedSimpArgs false
set_option maxRecDepth 100000
namespace Go.V.G
open Go.V
theorem put_both3 {l : List Int} (hl : l.length ≤ 1048576) (hr : Ris l) (n : Int) : ∃ z, s_l5Put l n = some z ∧ i_insert l n = some z ∧ z.length ≤ l.length + 1 ∧ Ris z ∧ ∀ v, v ∈ z ↔ v ∈ l ∨ v = n := by
  obtain ⟨k, hs, h1⟩ := s_put_eq' hl hr n
  obtain ⟨m, ht, h2⟩ := i_insert_eq hl hr n
  obtain rfl := hs.one ht
  refine ⟨_, h1, h2, ?_, ris_put hr hs, fun v => ?_⟩
  · unfold putI
    split
    · omega
    · have := hs.le; simp; omega
  · unfold putI
    split
    · rename_i h
      have hm := List.mem_of_getElem? h
      exact ⟨.inl, fun h' => h'.elim id fun e => by rw [e]; exact hm⟩
    · have e : v ∈ l ↔ v ∈ l.take k ∨ v ∈ l.drop k := by
        rw [← List.mem_append, List.take_append_drop]
      rw [e]
      simp only [List.mem_append, List.mem_singleton]
      constructor
      · rintro (h | h | h)
        · exact .inl (.inl h)
        · exact .inr h
        · exact .inl (.inr h)
      · rintro ((h | h) | h)
        · exact .inl h
        · exact .inr (.inr h)
        · exact .inr (.inl h)
structure Wq (b : Bls) (x z : List Int) (lz : Nat) : Prop where
  hb : 39 ≤ b.length ∧ b.length ≤ 160
  hx : x.length = 20
  hu : U8s x
  hr : Ris z
  hz : z.length ≤ lz
theorem take_q {b : Bls} {x y z : List Int} {lz : Nat} (h : Wq b x z lz) (hlz : lz ≤ 1048000) : Ok (s_l5Take_oooo b x y z) fun r =>
    r = (0, b, x, y, z) ∨ ∃ (k : Nat) (z' : List Int), (33 ≤ k ∧ k < b.length) ∧ bit x k = false ∧ s_l5Put z ((k : Nat) : Int) = some z' ∧ r = (((k : Nat) : Int), b.set k zeroB, setB x k, y, z') := by
  have hbl := h.hb; have hx := h.hx; have hz := h.hz
  unfold s_l5Take_oooo
  refine Ok.bind (Q := fun v => v = .inl (b, x, y, z) ∨ ∃ (k : Nat) (z' : List Int), (33 ≤ k ∧ k < b.length) ∧ bit x k = false ∧ s_l5Put z ((k : Nat) : Int) = some z' ∧ v = .inr (((k : Nat) : Int), b.set k zeroB, setB x k, y, z')) ?_ ?_
  · refine Ok.loop (fun s => ∃ i : Nat, 33 ≤ i ∧ i ≤ 160 ∧ s = (((i : Nat) : Int), b, x, y, z)) (fun s => (200 - s.1).toNat) ⟨33, by omega, by omega, rfl⟩ ?_
    rintro _ ⟨i, h33, hi, rfl⟩
    unfold s_l5Take_oooo_L1
    dsimp only
    refine Ok.ite (fun hc => ?_) fun hc => Ok.mk (.inl rfl)
    have hlt : i < b.length := by simpa using hc
    refine Ok.bind_eq (s_used_eq (by omega) (by omega)) ?_
    refine Ok.ite (fun hu => ?_) fun hu => ?_
    · have hbk : bit x i = false := by simpa using hu
      obtain ⟨z', hp1, _⟩ := put_both3 (by omega) h.hr ((i : Nat) : Int)
      have hg : b[0 + Int.toNat ((i : Nat) : Int)]? = some b[i] := by simp [hlt]
      refine Ok.bind_eq (s_set_eq (by omega) (by omega)) (Ok.yes (by simp) (Ok.yes (by simp) (Ok.yes (by simp [roomFor]) (Ok.yes (by simp) (Ok.yes (by simpa using hlt) (Ok.bind_eq hg (Ok.bind_eq hg (Ok.bind_eq hp1 (Ok.mk (.inr ⟨i, z', ⟨h33, hlt⟩, hbk, hp1, ?_⟩))))))))))
      simp [zeroB]
    · have e1 := ix64 (i := i) (by omega)
      refine Ok.mk ⟨⟨i + 1, by omega, by omega, by rw [e1]⟩, ?_⟩
      dsimp only; rw [e1]; omega
  · rintro v (rfl | ⟨k, z', h1, h2, h3, rfl⟩)
    · exact Ok.mk (.inl rfl)
    · exact Ok.mk (.inr ⟨k, z', h1, h2, h3, rfl⟩)
theorem Wq.take {b : Bls} {x z : List Int} {lz : Nat} (h : Wq b x z lz) (hlz : lz ≤ 1048000) {k : Nat} (hk : k < b.length) {z' : List Int} (hz' : s_l5Put z ((k : Nat) : Int) = some z') : Wq (b.set k zeroB) (setB x k) z' (lz + 1) := by
  have hbl := h.hb; have hx := h.hx; have hz := h.hz
  obtain ⟨z2, e1, _, e2, e3, _⟩ := put_both3 (by omega) h.hr ((k : Nat) : Int)
  rw [e1] at hz'
  obtain rfl := Option.some.inj hz'
  exact ⟨by rw [List.length_set]; exact hbl, by unfold setB; rw [List.length_set]; exact hx, u8_set h.hu (by omega), e3, by omega⟩
end Go.V.G

set_option linter.unusedVariables false
set_option linter.unusedSimpArgs false
set_option maxRecDepth 100000
namespace Go.V.G
open Go.V
theorem index_ok {l : List Int} {n : Int} (hl : l.length ≤ 1048576) : Ok (slices_Index_int_int l n) fun r => (0 ≤ r ↔ n ∈ l) := by
  unfold slices_Index_int_int
  refine Ok.bind (Q := fun r => (r = .inl () ∧ n ∉ l) ∨ ∃ k : Int, r = .inr k ∧ 0 ≤ k ∧ n ∈ l) ?_ ?_
  · refine Ok.loop (fun y => ∃ k : Nat, k ≤ l.length ∧ y = (l, n, ((l.length : Nat) : Int), ((k : Nat) : Int)) ∧ ∀ j (h : j < l.length), j < k → l[j] ≠ n) (fun y => (y.2.2.1 - y.2.2.2).toNat) ⟨0, by omega, rfl, fun j _ h => by omega⟩ ?_
    rintro _ ⟨k, hk, rfl, hn⟩
    unfold slices_Index_int_int_L1
    dsimp only
    refine Ok.ite (fun hc => ?_) fun hc => Ok.mk (.inl ⟨rfl, fun hm => ?_⟩)
    · have hlt : k < l.length := by simpa using hc
      have hg : l[Int.toNat ((k : Nat) : Int)]? = some l[k] := by simp [hlt]
      have e1 := ix64 (i := k) (by omega)
      refine Ok.yes (by simp) (Ok.bind_eq hg (Ok.ite (fun he => Ok.mk (.inr ⟨_, rfl, by omega, ?_⟩)) fun he => Ok.mk ⟨⟨k + 1, by omega, by rw [e1], fun j hj hjk => ?_⟩, ?_⟩))
      · have he' : n = l[k] := by simpa using he
        rw [he']; exact List.getElem_mem _
      · by_cases hjk' : j = k
        · subst hjk'; intro hh; exact he (by simp [hh])
        · exact hn j hj (by omega)
      · dsimp only; rw [e1]; omega
    · obtain ⟨j, hj, he⟩ := List.getElem_of_mem hm
      have : ¬ k < l.length := by simpa using hc
      exact hn j hj (by omega) he
  · rintro r (⟨rfl, h⟩ | ⟨k, rfl, h0, h⟩)
    · exact Ok.mk (by simp [h])
    · exact Ok.mk ⟨fun _ => h, fun _ => h0⟩
theorem contains_ok {l : List Int} {n : Int} (hl : l.length ≤ 1048576) : Ok (slices_Contains_int_int l n) fun r => (r = true ↔ n ∈ l) := by
  unfold slices_Contains_int_int
  exact (index_ok hl).bind fun r hr => Ok.mk (by rw [← hr]; simp)
theorem upB_of {n : Nat} {bits l : List Int} (hr : Ris l) (h : ∀ v ∈ l, 33 ≤ v ∧ v ≤ (n : Int) - 1 ∧ bit bits v.toNat = true) : upB n bits l = true := by
  refine all_range.2 fun i hi => ?_
  rw [upG_eq n bits l i hi]
  have hm := h l[i] (List.getElem_mem _)
  rw [if_neg (fun hn => hn ⟨hm.1, hm.2.1⟩), if_neg (by rw [hm.2.2]; simp), if_neg]
  rintro ⟨h0, h1⟩
  rw [List.getElem?_eq_getElem (by omega), Option.getD_some] at h1
  have := hr (i - 1) i (by omega) hi (by omega)
  omega
theorem up_mem {n : Nat} {bits l : List Int} (h : upB n bits l = true) : ∀ v ∈ l, 33 ≤ v ∧ v ≤ (n : Int) - 1 ∧ bit bits v.toNat = true := by
  intro v hv
  obtain ⟨i, hi, rfl⟩ := List.getElem_of_mem hv
  exact (ris_of h).2 i hi
theorem GS.take {b : Bls} {x y z : List Int} (g : GS b x y z) (hu : U8s x) {k : Nat} (hk : 33 ≤ k ∧ k < b.length) {z' : List Int} (hzl : z.length ≤ 1048000) (hz' : s_l5Put z ((k : Nat) : Int) = some z') : GS (b.set k zeroB) (setB x k) y z' ∧ ((k : Nat) : Int) ∈ z' ∧ z'.length ≤ z.length + 1 ∧ bit (setB x k) k = true := by
  have hb := g.hb; have hx := g.hx
  obtain ⟨z2, e1, _, e2, e3, e4⟩ := put_both3 (by omega) (ris_of g.hz).1 ((k : Nat) : Int)
  rw [e1] at hz'
  obtain rfl := Option.some.inj hz'
  have hs : ∀ j, j < 160 → bit (setB x k) j = (decide (j = k) || bit x j) := fun j hj => bit_set hu (by omega) (by omega)
  have hup : ∀ v : Int, 33 ≤ v ∧ v ≤ (b.length : Int) - 1 ∧ bit x v.toNat = true → 33 ≤ v ∧ v ≤ ((b.set k zeroB).length : Int) - 1 ∧ bit (setB x k) v.toNat = true := fun v ⟨h1, h2, h3⟩ =>
    ⟨h1, by rw [List.length_set]; exact h2, by rw [hs _ (by omega), h3, Bool.or_true]⟩
  refine ⟨⟨by rw [List.length_set]; exact hb, by unfold setB; rw [List.length_set]; exact hx, fun c hc => ?_, fun i hi => ?_, ?_, ?_⟩, (e4 _).2 (.inr rfl), e2, by rw [hs k (by omega)]; simp⟩
  · rcases List.mem_or_eq_of_mem_set hc with hc | rfl
    · exact g.hk c hc
    · rfl
  · rw [List.length_set]
    have := g.hbits i hi
    unfold bG at this ⊢
    rw [hs i hi]
    by_cases hik : i = k
    · subst hik
      simp; omega
    · simpa [hik] using this
  · exact upB_of (ris_of g.hy).1 fun v hv => hup v (up_mem g.hy v hv)
  · refine upB_of e3 fun v hv => ?_
    rcases (e4 v).1 hv with hv | rfl
    · exact hup v (up_mem g.hz v hv)
    · exact ⟨by omega, by rw [List.length_set]; omega, by rw [hs _ (by omega)]; simp⟩
end Go.V.G

set_option linter.unusedVariables false
set_option linter.unusedSimpArgs false
set_option maxRecDepth 100000
namespace Go.V.G
open Go.V
theorem s_rest_ok {x : List Int} {n : Nat} (hx : x.length ≤ 1048576) (hn : n ≤ x.length) : Ok (s_l7Rest x ((n : Nat) : Int)) fun r => (r = true ↔ ∀ v ∈ x.drop n, v = 0) := by
  unfold s_l7Rest
  refine Ok.yes (by simp) (Ok.yes (by simp; omega) (Ok.yes (by simp) (Ok.yes (by simp) ?_)))
  have e : (List.drop (Int.toNat ((n : Nat) : Int)) x).take (Int.toNat ((List.length x : Nat) : Int) - Int.toNat ((n : Nat) : Int)) = x.drop n := by
    rw [Int.toNat_natCast, Int.toNat_natCast]
    exact List.take_of_length_le (by rw [List.length_drop]; omega)
  rw [e]
  have hl : (x.drop n).length ≤ 1048576 := by rw [List.length_drop]; omega
  generalize x.drop n = l at hl
  refine Ok.bind (Q := fun r => (r = .inl () ∧ ∀ v ∈ l, v = 0) ∨ (r = .inr false ∧ ¬ ∀ v ∈ l, v = 0)) ?_ ?_
  · refine Ok.loop (fun y => ∃ k : Nat, k ≤ l.length ∧ y = (l, ((l.length : Nat) : Int), ((k : Nat) : Int)) ∧ ∀ j (h : j < l.length), j < k → l[j] = 0) (fun y => (y.2.1 - y.2.2).toNat) ⟨0, by omega, rfl, fun j _ h => by omega⟩ ?_
    rintro _ ⟨k, hk, rfl, hz⟩
    unfold s_l7Rest_L1
    dsimp only
    refine Ok.ite (fun hc => ?_) fun hc => Ok.mk (.inl ⟨rfl, fun v hv => ?_⟩)
    · have hlt : k < l.length := by simpa using hc
      have hg : l[Int.toNat ((k : Nat) : Int)]? = some l[k] := by simp [hlt]
      have e1 := ix64 (i := k) (by omega)
      refine Ok.yes (by simp) (Ok.bind_eq hg (Ok.ite (fun he => Ok.mk (.inr ⟨rfl, fun hall => ?_⟩)) fun he => Ok.mk ⟨⟨k + 1, by omega, by rw [e1], fun j hj hjk => ?_⟩, ?_⟩))
      · have : ¬ l[k] = 0 := by simpa using he
        exact this (hall _ (List.getElem_mem _))
      · by_cases hjk' : j = k
        · subst hjk'; simpa using he
        · exact hz j hj (by omega)
      · dsimp only; rw [e1]; omega
    · obtain ⟨j, hj, rfl⟩ := List.getElem_of_mem hv
      have : ¬ k < l.length := by simpa using hc
      exact hz j hj (by omega)
  · rintro r (⟨rfl, h⟩ | ⟨rfl, h⟩)
    · exact Ok.mk (by simpa using h)
    · exact Ok.mk ⟨fun hh => (by cases hh), fun hh => absurd hh h⟩
end Go.V.G

set_option linter.unusedVariables false
set_option linter.unusedSimpArgs false
set_option maxRecDepth 100000
namespace Go.V.G
open Go.V
def gb (c : List Int) (i : Nat) : Int := c[i]?.getD 0
def blk (b : Bls) (i : Nat) : List Int := b[i]?.getD []
theorem gb_some {c : List Int} {i : Nat} (h : i < c.length) : c[i]? = some (gb c i) := by unfold gb; rw [List.getElem?_eq_getElem h]; rfl
theorem blk_some {b : Bls} {i : Nat} (h : i < b.length) : b[i]? = some (blk b i) := by unfold blk; rw [List.getElem?_eq_getElem h]; rfl
theorem iy {α : Type} {p : Prop} [Decidable p] {a b : α} (h : p) : (if decide p = true then a else b) = a := by rw [if_pos (by simpa using h)]
theorem ino {α : Type} {p : Prop} [Decidable p] {a b : α} (h : ¬ p) : (if decide p = true then a else b) = b := by rw [if_neg (by simpa using h)]
structure RS (b : Bls) (x y : List Int) : Prop where
  hn : 40 ≤ b.length ∧ b.length ≤ 160
  hk : ∀ c ∈ b, c.length = 128
  hu : ∀ c ∈ b, U8s c
  hx : x.length = 20
  hy : y.length ≤ 1048576
theorem blk_mem {b : Bls} {i : Nat} (h : i < b.length) : blk b i ∈ b := List.mem_of_getElem? (blk_some h)
theorem RS.len {b : Bls} {x y : List Int} (g : RS b x y) {i : Nat} (h : i < b.length) : (blk b i).length = 128 := g.hk _ (blk_mem h)
theorem gb_u8 {c : List Int} (h : U8s c) (j : Nat) : 0 ≤ gb c j ∧ gb c j ≤ 255 := by
  by_cases hj : j < c.length
  · exact h _ (List.mem_of_getElem? (gb_some hj))
  · unfold gb; rw [List.getElem?_eq_none (by omega)]; simp
theorem RS.u8 {b : Bls} {x y : List Int} (g : RS b x y) {i : Nat} (h : i < b.length) (j : Nat) : 0 ≤ gb (blk b i) j ∧ gb (blk b i) j ≤ 255 := gb_u8 (g.hu _ (blk_mem h)) j
def liv (b : Bls) (x y : List Int) (a : Int) : Bool := decide (33 ≤ a ∧ a ≤ (b.length : Int) - 1) && (bit x a.toNat && !decide (a ∈ y))
theorem liv_nat {b : Bls} {x y : List Int} {a : Int} (h : liv b x y a = true) : ∃ m : Nat, a = (m : Int) ∧ 33 ≤ m ∧ m < b.length ∧ bit x m = true ∧ (m : Int) ∉ y := by
  unfold liv at h
  simp only [Bool.and_eq_true, decide_eq_true_eq, Bool.not_eq_true', decide_eq_false_iff_not] at h
  obtain ⟨⟨h1, h2⟩, h3, h4⟩ := h
  obtain ⟨m, rfl⟩ := Int.eq_ofNat_of_zero_le (show 0 ≤ a by omega)
  exact ⟨m, rfl, by omega, by omega, by simpa using h3, h4⟩
theorem s_has_eq {l : List Int} {n : Int} (hl : l.length ≤ 1048576) : s_l5Has l n = some (decide (n ∈ l)) := by
  unfold s_l5Has
  refine Ok.eq (Ok.bind (Q := fun r => (r = .inl () ∧ n ∉ l) ∨ (r = .inr true ∧ n ∈ l)) ?_ ?_)
  · refine Ok.loop (fun y => ∃ k : Nat, k ≤ l.length ∧ y = (n, l, ((l.length : Nat) : Int), ((k : Nat) : Int)) ∧ ∀ j (h : j < l.length), j < k → l[j] ≠ n) (fun y => (y.2.2.1 - y.2.2.2).toNat) ⟨0, by omega, rfl, fun j _ h => by omega⟩ ?_
    rintro _ ⟨k, hk, rfl, hn⟩
    unfold s_l5Has_L1
    dsimp only
    refine Ok.ite (fun hc => ?_) fun hc => Ok.mk (.inl ⟨rfl, fun hm => ?_⟩)
    · have hlt : k < l.length := by simpa using hc
      have hg : l[Int.toNat ((k : Nat) : Int)]? = some l[k] := by simp [hlt]
      have e1 := ix64 (i := k) (by omega)
      refine Ok.yes (by simp) (Ok.bind_eq hg (Ok.ite (fun he => Ok.mk (.inr ⟨rfl, ?_⟩)) fun he => Ok.mk ⟨⟨k + 1, by omega, by rw [e1], fun j hj hjk => ?_⟩, ?_⟩))
      · have he' : l[k] = n := by simpa using he
        rw [← he']; exact List.getElem_mem _
      · by_cases hjk' : j = k
        · subst hjk'; intro hh; exact he (by simp [hh])
        · exact hn j hj (by omega)
      · dsimp only; rw [e1]; omega
    · obtain ⟨j, hj, he⟩ := List.getElem_of_mem hm
      have : ¬ k < l.length := by simpa using hc
      exact hn j hj (by omega) he
  · rintro r (⟨rfl, h⟩ | ⟨rfl, h⟩)
    · exact Ok.mk (by simp [h])
    · exact Ok.mk (by simp [h])
theorem contains_eq {l : List Int} {n : Int} (hl : l.length ≤ 1048576) : slices_Contains_int_int l n = some (decide (n ∈ l)) := by
  refine Ok.eq ((contains_ok hl).mono fun r hr => ?_)
  by_cases h : n ∈ l
  · rw [decide_eq_true h]; exact hr.2 h
  · rw [decide_eq_false h]
    cases r with
    | false => rfl
    | true => exact absurd (hr.1 rfl) h
theorem s_live_eq {b : Bls} {x y z : List Int} (g : RS b x y) (a : Int) : s_l5Live b x y z a = some (liv b x y a) := by
  have hn := g.hn; have hx := g.hx
  unfold s_l5Live liv
  rw [s_In_eq, w64 (by omega) (by omega), Option.bind_some]
  by_cases h1 : 33 ≤ a ∧ a ≤ (b.length : Int) - 1
  · obtain ⟨m, rfl⟩ := Int.eq_ofNat_of_zero_le (show 0 ≤ a by omega)
    rw [decide_eq_true h1, if_pos rfl, s_used_eq (by omega) (by omega), Option.bind_some, Int.toNat_natCast]
    cases bit x m with
    | false => rfl
    | true => rw [if_pos rfl, s_has_eq g.hy]; rfl
  · rw [decide_eq_false h1]; rfl
theorem i_used1_eq {b : Bls} {bits y z : List Int} {k : Nat} (h : k ≤ 1048576) (hk : k / 8 < bits.length) : i_Space_used_1 (b, bits, y, z) ((k : Nat) : Int) = some (bit bits k) := by
  unfold i_Space_used_1 bit
  dsimp only
  rw [dv8 h, md8, if_pos (by simp), if_pos (by simp; omega), Int.toNat_natCast, List.getElem?_eq_getElem hk, Option.bind_some, if_pos (by simp), if_pos (by simp; omega)]
  rfl
theorem i_isBlock1_eq {b : Bls} {x y z : List Int} (g : RS b x y) (a : Int) : i_Space_isBlock_1 (b, x, y, z) a = some (decide (33 ≤ a ∧ a ≤ (b.length : Int) - 1) && bit x a.toNat) := by
  have hn := g.hn; have hx := g.hx
  unfold i_Space_isBlock_1
  dsimp only
  rw [i_within_eq, w64 (by omega) (by omega), Option.bind_some]
  by_cases h1 : 33 ≤ a ∧ a ≤ (b.length : Int) - 1
  · obtain ⟨m, rfl⟩ := Int.eq_ofNat_of_zero_le (show 0 ≤ a by omega)
    rw [decide_eq_true h1, if_pos rfl, i_used1_eq (by omega) (by omega), Option.bind_some, Int.toNat_natCast]
    rfl
  · rw [decide_eq_false h1]; rfl
theorem i_here1_eq {b : Bls} {x y z : List Int} (g : RS b x y) (a : Int) : i_Space_isHere_1 (b, x, y, z) a = some (liv b x y a) := by
  unfold i_Space_isHere_1 liv
  rw [i_isBlock1_eq g, Option.bind_some]
  dsimp only
  cases decide (33 ≤ a ∧ a ≤ (b.length : Int) - 1) with
  | false => rfl
  | true =>
    cases bit x a.toNat with
    | false => rfl
    | true => rw [if_pos (show (true && true) = true from rfl), contains_eq g.hy]; rfl
def rz (c : List Int) (n : Nat) : Bool := (c.drop n).all fun v => decide (v = 0)
theorem s_rest_eq {c : List Int} {n : Nat} (hc : c.length ≤ 1048576) (hn : n ≤ c.length) : s_l7Rest c ((n : Nat) : Int) = some (rz c n) := by
  refine Ok.eq ((s_rest_ok hc hn).mono fun r hr => ?_)
  unfold rz
  cases h : (c.drop n).all fun v => decide (v = 0) with
  | true => rw [hr]; intro v hv; simpa using List.all_eq_true.1 h v hv
  | false =>
    cases r with
    | false => rfl
    | true =>
      have : ((c.drop n).all fun v => decide (v = 0)) = true := List.all_eq_true.2 fun v hv => by simpa using hr.1 rfl v hv
      rw [h] at this; cases this
theorem idx_loop (L : (List Int × (Int × Int)) → Option ((List Int × (Int × Int)) ⊕ (Unit ⊕ Int))) (p : Int → Bool) (l : List Int)
    (h : ∀ k, k < l.length → L (l, ((l.length : Nat) : Int), ((k : Nat) : Int)) = some (if p (gb l k) = true then .inr (.inr ((k : Nat) : Int)) else .inl (l, ((l.length : Nat) : Int), ((k + 1 : Nat) : Int))))
    (h2 : L (l, ((l.length : Nat) : Int), ((l.length : Nat) : Int)) = some (.inr (.inl ()))) :
    ∃ r, loopG L (l, ((l.length : Nat) : Int), 0) = some r ∧ ((r = .inl () ∧ (l.any p) = false) ∨ ∃ k : Nat, r = .inr ((k : Nat) : Int) ∧ (l.any p) = true) := by
  rcases fst_loop L (fun k => (l, ((l.length : Nat) : Int), ((k : Nat) : Int))) (fun k => !(p (gb l k))) (fun k => ((k : Nat) : Int)) () l.length (fun k hk => by
    rw [h k hk]; cases p (gb l k) <;> rfl) h2 with ⟨ha, hl⟩ | ⟨k, hk, hp, _, hl⟩
  · refine ⟨_, hl, .inl ⟨rfl, ?_⟩⟩
    rw [List.any_eq_false]
    intro v hv
    obtain ⟨j, hj, rfl⟩ := List.getElem_of_mem hv
    have := ha j hj
    unfold gb at this
    rw [List.getElem?_eq_getElem hj, Option.getD_some] at this
    simpa using this
  · refine ⟨_, hl, .inr ⟨k, rfl, ?_⟩⟩
    rw [List.any_eq_true]
    refine ⟨_, List.mem_of_getElem? (gb_some hk), ?_⟩
    simpa using hp
theorem any_rz (c : List Int) (n : Nat) : ((c.drop n).any fun v => decide (¬ v = 0)) = !(rz c n) := by
  unfold rz
  induction c.drop n with
  | nil => rfl
  | cons a l ih => rw [List.any_cons, List.all_cons, ih]; by_cases h : a = 0 <;> simp [h]
theorem cf_piece1 {l : List Int} (hl : l.length ≤ 1048576) : slices_ContainsFunc_byte_byte_i_Space_piece_1 l = some (l.any fun v => decide (¬ v = 0)) := by
  unfold slices_ContainsFunc_byte_byte_i_Space_piece_1 slices_IndexFunc_byte_byte_i_Space_piece_1
  obtain ⟨r, hr, h⟩ := idx_loop slices_IndexFunc_byte_byte_i_Space_piece_1_L1 (fun v => decide (¬ v = 0)) l (fun k hk => by
    unfold slices_IndexFunc_byte_byte_i_Space_piece_1_L1 i_Space_piece_1
    dsimp only
    rw [iy (by omega), iy (by omega), Int.toNat_natCast, gb_some hk, Option.bind_some, Option.bind_some, ix64 (by omega)]
    by_cases hz : gb l k = 0 <;> simp [hz]) (by
    unfold slices_IndexFunc_byte_byte_i_Space_piece_1_L1
    dsimp only
    rw [ino (by omega)])
  rw [hr, Option.bind_some]
  rcases h with ⟨rfl, h⟩ | ⟨k, rfl, h⟩
  · rw [h]; rfl
  · rw [h]; dsimp only; rw [Option.bind_some, decide_eq_true (by omega)]
theorem cf_pieces1 {l : List Int} (hl : l.length ≤ 1048576) : slices_ContainsFunc_byte_byte_i_Space_pieces_1 l = some (l.any fun v => decide (¬ v = 0)) := by
  unfold slices_ContainsFunc_byte_byte_i_Space_pieces_1 slices_IndexFunc_byte_byte_i_Space_pieces_1
  obtain ⟨r, hr, h⟩ := idx_loop slices_IndexFunc_byte_byte_i_Space_pieces_1_L1 (fun v => decide (¬ v = 0)) l (fun k hk => by
    unfold slices_IndexFunc_byte_byte_i_Space_pieces_1_L1 i_Space_pieces_1
    dsimp only
    rw [iy (by omega), iy (by omega), Int.toNat_natCast, gb_some hk, Option.bind_some, Option.bind_some, ix64 (by omega)]
    by_cases hz : gb l k = 0 <;> simp [hz]) (by
    unfold slices_IndexFunc_byte_byte_i_Space_pieces_1_L1
    dsimp only
    rw [ino (by omega)])
  rw [hr, Option.bind_some]
  rcases h with ⟨rfl, h⟩ | ⟨k, rfl, h⟩
  · rw [h]; rfl
  · rw [h]; dsimp only; rw [Option.bind_some, decide_eq_true (by omega)]
def num (c : List Int) (i : Nat) : Int := gb c i * 256 + gb c (i + 1)
theorem or256 {a b : Int} (ha : 0 ≤ a ∧ a ≤ 255) (hb : 0 ≤ b ∧ b ≤ 255) : (((BitVec.ofInt (IntKind.bits .i64) (a * 256) ||| BitVec.ofInt (IntKind.bits .i64) b).toNat : Nat) : Int) = a * 256 + b := by
  obtain ⟨n, rfl⟩ := Int.eq_ofNat_of_zero_le ha.1
  obtain ⟨m, rfl⟩ := Int.eq_ofNat_of_zero_le hb.1
  have h1 : ((n : Nat) : Int) * 256 = ((256 * n : Nat) : Int) := by omega
  rw [h1, BitVec.ofInt_natCast, BitVec.ofInt_natCast, BitVec.toNat_or, BitVec.toNat_ofNat, BitVec.toNat_ofNat, show IntKind.bits .i64 = 64 from rfl, Nat.mod_eq_of_lt (by omega), Nat.mod_eq_of_lt (by omega)]
  have h2 := Nat.two_pow_add_eq_or_of_lt (i := 8) (b := m) (by omega) n
  rw [show (2 : Nat) ^ 8 = 256 from rfl] at h2
  rw [← h2]; omega
theorem numberAt_eq {c : List Int} (hu : U8s c) {i : Nat} (h : i + 1 < c.length) (hi : i ≤ 1048576) : i_numberAt c ((i : Nat) : Int) = some (num c i) := by
  have u1 := gb_u8 hu i; have u2 := gb_u8 hu (i + 1)
  unfold i_numberAt
  rw [iy (by omega), Int.toNat_natCast, gb_some (by omega), Option.bind_some, iy (by omega), ix64 hi, iy (by omega), Int.toNat_natCast, gb_some h, Option.bind_some,
    show (2 : Int) ^ (min (Int.toNat 8) (IntKind.bits .i64)) = 256 from rfl, w64 (n := gb c i) (by omega) (by omega), w64 (n := gb c i * 256) (by omega) (by omega), w64 (n := gb c (i + 1)) (by omega) (by omega), or256 u1 u2, w64 (by omega) (by omega)]
  rfl
abbrev Pc := Int × (Int × List UInt8)
def pcTx (b : Bls) (a : Int) : List UInt8 := textOf (((blk b a.toNat).drop 3).take (gb (blk b a.toNat) 2).toNat)
def pcOf (b : Bls) (a : Int) : Pc := (a, gb (blk b a.toNat) 1, pcTx b a)
def pcG (c : List Int) : Bool := decide (gb c 0 = 83) && (decide (1 ≤ gb c 1 ∧ gb c 1 ≤ 250) && (decide (1 ≤ gb c 2 ∧ gb c 2 ≤ 40) && rz c (3 + (gb c 2).toNat)))
def pcB (b : Bls) (x y : List Int) (a : Int) : Bool := liv b x y a && pcG (blk b a.toNat)
theorem i_piece_eq {b : Bls} {x y z : List Int} (g : RS b x y) (a : Int) : i_Space_piece (b, x, y, z) a = some (if pcB b x y a = true then (true, pcOf b a) else (false, 0, 0, [])) := by
  unfold i_Space_piece pcB
  rw [i_here1_eq g, Option.bind_some]
  cases hl : liv b x y a with
  | false => rfl
  | true =>
    obtain ⟨m, rfl, h33, hm, _, _⟩ := liv_nat hl
    have hc := g.len hm
    have u1 := g.u8 hm 1; have u2 := g.u8 hm 2
    unfold pcG pcOf pcTx
    rw [Int.toNat_natCast]
    rw [if_neg (by simp)]
    dsimp only
    generalize hcc : blk b m = c at *
    have hbm : b[m]? = some c := by rw [blk_some hm, hcc]
    rw [iy (by omega), hbm, Option.bind_some, iy (by omega), show Int.toNat 0 = 0 from rfl, gb_some (by omega), Option.bind_some, Option.bind_some]
    dsimp only
    by_cases h0 : gb c 0 = 83
    · rw [decide_eq_true h0, if_neg (by simp; omega), iy (by omega), Int.toNat_natCast, hbm, Option.bind_some, iy (by omega), show Int.toNat 1 = 1 from rfl, gb_some (by omega), Option.bind_some, iy (by omega), show Int.toNat 2 = 2 from rfl, gb_some (by omega), Option.bind_some,
        w64 (n := gb c 1) (by omega) (by omega), w64 (n := gb c 2) (by omega) (by omega), i_within_eq, Option.bind_some]
      by_cases h1 : 1 ≤ gb c 1 ∧ gb c 1 ≤ 250
      · rw [decide_eq_true h1, if_neg (by simp), i_within_eq, Option.bind_some]
        by_cases h2 : 1 ≤ gb c 2 ∧ gb c 2 ≤ 40
        · obtain ⟨k, hk⟩ := Int.eq_ofNat_of_zero_le u2.1
          rw [hk] at h2 ⊢
          rw [decide_eq_true h2, if_neg (by simp), show (3 : Int) + ((k : Nat) : Int) = ((3 + k : Nat) : Int) by omega, w64 (n := ((3 + k : Nat) : Int)) (by omega) (by omega), iy (by omega), iy (by omega), iy (by omega), iy (by omega)]
          simp only [Int.toNat_natCast]
          rw [List.take_of_length_le (show (List.drop (3 + k) c).length ≤ c.length - (3 + k) by rw [List.length_drop]; omega), cf_piece1 (by rw [List.length_drop]; omega), any_rz, Option.bind_some, Option.bind_some]
          dsimp only
          cases hr : rz c (3 + k) with
          | false => rfl
          | true =>
            rw [if_neg (by simp), iy (by omega), show (3 : Int) + ((k : Nat) : Int) = ((3 + k : Nat) : Int) by omega, w64 (n := ((3 + k : Nat) : Int)) (by omega) (by omega), iy (by omega), iy (by omega), iy (by omega), Int.toNat_natCast,
              show 3 + k - Int.toNat 3 = k by omega]
            rfl
        · rw [decide_eq_false h2]; rfl
      · rw [decide_eq_false h1]; rfl
    · rw [decide_eq_false h0, if_pos (by simpa using h0)]; rfl
end Go.V.G

set_option linter.unusedVariables false
set_option linter.unusedSimpArgs false
set_option maxRecDepth 100000
namespace Go.V.G
open Go.V
def pcs (b : Bls) (x y : List Int) (c : List Int) (n : Nat) : Nat → List Int → Nat → Option (List Int)
  | 0, out, _ => some out
  | f + 1, out, k => if (pcB b x y (num c (2 + 2 * k)) && (decide (k + 1 < n → gb (blk b (num c (2 + 2 * k)).toNat) 2 = 40) && !decide (num c (2 + 2 * k) ∈ out))) = true then pcs b x y c n f (out ++ [num c (2 + 2 * k)]) (k + 1) else none
theorem wr256 {a b : Int} (ha : 0 ≤ a ∧ a ≤ 255) (hb : 0 ≤ b ∧ b ≤ 255) : IntKind.wrap .i64 ((IntKind.wrap .i64 ((IntKind.wrap .i64 a) * 256)) + (IntKind.wrap .i64 b)) = a * 256 + b := by
  rw [w64 (n := a) (by omega) (by omega), w64 (n := a * 256) (by omega) (by omega), w64 (n := b) (by omega) (by omega), w64 (by omega) (by omega)]
theorem wr22 {k : Nat} (h : k ≤ 1048576) : IntKind.wrap .i64 (2 + (IntKind.wrap .i64 (2 * ((k : Nat) : Int)))) = ((2 + 2 * k : Nat) : Int) := by
  rw [w64 (n := 2 * ((k : Nat) : Int)) (by omega) (by omega), w64 (by omega) (by omega)]; omega
theorem wr23 {k : Nat} (h : k ≤ 1048576) : IntKind.wrap .i64 (3 + (IntKind.wrap .i64 (2 * ((k : Nat) : Int)))) = ((3 + 2 * k : Nat) : Int) := by
  rw [w64 (n := 2 * ((k : Nat) : Int)) (by omega) (by omega), w64 (by omega) (by omega)]; omega
theorem pieces_s_step {b : Bls} {x y z c out : List Int} {n k : Nat} (g : RS b x y) (hc : c.length = 128) (hu : U8s c) (hn : n ≤ 3) (hk : k < n) (ho : out.length ≤ 3) :
    s_l7Pieces_L1 (c, ((n : Nat) : Int), out, ((k : Nat) : Int), b, x, y, z) =
      some (if (pcB b x y (num c (2 + 2 * k)) && (decide (k + 1 < n → gb (blk b (num c (2 + 2 * k)).toNat) 2 = 40) && !decide (num c (2 + 2 * k) ∈ out))) = true then .inl (c, ((n : Nat) : Int), out ++ [num c (2 + 2 * k)], ((k + 1 : Nat) : Int), b, x, y, z) else .inr (.inr false)) := by
  have e1 := wr22 (k := k) (by omega)
  have e2 := wr23 (k := k) (by omega)
  have u1 := gb_u8 hu (2 + 2 * k); have u2 := gb_u8 hu (3 + 2 * k)
  have ea := wr256 u1 u2
  have en : num c (2 + 2 * k) = gb c (2 + 2 * k) * 256 + gb c (3 + 2 * k) := by unfold num; rw [show 2 + 2 * k + 1 = 3 + 2 * k by omega]
  unfold s_l7Pieces_L1 pcB
  dsimp only
  rw [iy (by omega), e1, e2, iy (by omega), Int.toNat_natCast, gb_some (by omega), Option.bind_some, iy (by omega), Int.toNat_natCast, gb_some (by omega), Option.bind_some, ea, ← en]
  have hroom : ∀ v : Int, roomFor (List.length out + List.length ([v] : List Int)) 8 = true := fun v => by simp only [roomFor, decide_eq_true_eq, List.length_singleton]; omega
  generalize num c (2 + 2 * k) = a
  rw [s_live_eq g, Option.bind_some]
  cases hl : liv b x y a with
  | false => rfl
  | true =>
    obtain ⟨m, rfl, h33, hm, _, _⟩ := liv_nat hl
    have hc2 := g.len hm
    have v1 := g.u8 hm 1; have v2 := g.u8 hm 2
    rw [if_neg (by simp), s_has_eq (by omega), Option.bind_some, Option.bind_some]
    dsimp only
    by_cases hmem : ((m : Nat) : Int) ∈ out
    · rw [decide_eq_true hmem, if_pos rfl, if_neg (by simp)]
    rw [decide_eq_false hmem, if_neg (by simp), iy (by omega), Int.toNat_natCast, blk_some hm, Option.bind_some]
    unfold pcG
    generalize blk b m = d at *
    have w2 : IntKind.wrap .i64 (gb d 2) = gb d 2 := w64 (by omega) (by omega)
    rw [iy (by omega), show Int.toNat 2 = 2 from rfl, gb_some (by omega), Option.bind_some, iy (by omega), show Int.toNat 0 = 0 from rfl, gb_some (by omega), Option.bind_some]
    rw [w2]
    by_cases h0 : gb d 0 = 83
    · rw [decide_eq_true h0, if_neg (by simp; omega), iy (by omega), show Int.toNat 1 = 1 from rfl, gb_some (by omega), Option.bind_some, w64 (n := gb d 1) (by omega) (by omega), s_In_eq, Option.bind_some]
      by_cases h1 : 1 ≤ gb d 1 ∧ gb d 1 ≤ 250
      · rw [decide_eq_true h1, if_neg (by simp), s_In_eq, Option.bind_some]
        by_cases h2 : 1 ≤ gb d 2 ∧ gb d 2 ≤ 40
        · obtain ⟨j, hj⟩ := Int.eq_ofNat_of_zero_le v2.1
          rw [hj] at h2 ⊢
          rw [decide_eq_true h2, if_neg (by simp), show (3 : Int) + ((j : Nat) : Int) = ((3 + j : Nat) : Int) by omega, w64 (n := ((3 + j : Nat) : Int)) (by omega) (by omega), s_rest_eq (by omega) (by omega), Int.toNat_natCast, w64 (n := ((n : Nat) : Int) - 1) (by omega) (by omega), Option.bind_some]
          have hr : ∀ q : Bool, (if q = true then some (Sum.inr (Sum.inr false)) else
              if roomFor (out.length + [((m : Nat) : Int)].length) 8 = true then some (Sum.inl (c, ((n : Nat) : Int), out ++ [((m : Nat) : Int)], IntKind.wrap .i64 (((k : Nat) : Int) + 1), b, x, y, z)) else none :
              Option ((List Int × (Int × (List Int × (Int × (List (List Int) × (List Int × (List Int × List Int))))))) ⊕ ((List Int × (Int × List Int)) ⊕ Bool))) =
              some (if (!q) = true then .inl (c, ((n : Nat) : Int), out ++ [((m : Nat) : Int)], ((k + 1 : Nat) : Int), b, x, y, z) else .inr (.inr false)) := fun q => by
            cases q with
            | true => rfl
            | false => rw [if_neg (by simp), if_pos (hroom _), ix64 (by omega)]; rfl
          by_cases h4 : k + 1 < n
          · rw [iy (by omega)]
            by_cases h5 : ((j : Nat) : Int) = 40
            · rw [ino (by omega), Option.bind_some]
              dsimp only
              rw [hr]
              have : decide (k + 1 < n → ((j : Nat) : Int) = 40) = true := decide_eq_true fun _ => h5
              rw [this]
              cases rz d (3 + j) <;> rfl
            · rw [iy h5, Option.bind_some]
              dsimp only
              have : decide (k + 1 < n → ((j : Nat) : Int) = 40) = false := decide_eq_false fun hh => h5 (hh h4)
              rw [this, if_pos rfl]
              cases rz d (3 + j) <;> rfl
          · rw [ino (by omega), Option.bind_some]
            dsimp only
            rw [hr]
            have : decide (k + 1 < n → ((j : Nat) : Int) = 40) = true := decide_eq_true fun hh => absurd hh h4
            rw [this]
            cases rz d (3 + j) <;> rfl
        · rw [decide_eq_false h2]; rfl
      · rw [decide_eq_false h1]; rfl
    · rw [decide_eq_false h0, if_pos (by simpa using h0)]; rfl
theorem pieces_s_loop {b : Bls} {x y z c : List Int} {n : Nat} (g : RS b x y) (hc : c.length = 128) (hu : U8s c) (hn : n ≤ 3) : ∀ (f k : Nat) (out : List Int), k + f = n → out.length ≤ k →
    loopG s_l7Pieces_L1 (c, ((n : Nat) : Int), out, ((k : Nat) : Int), b, x, y, z) = some (match pcs b x y c n f out k with | some l => .inl (c, ((n : Nat) : Int), l) | none => .inr false)
  | 0, k, out, hk, ho => by
    rw [loopG_eq]
    unfold s_l7Pieces_L1 pcs
    dsimp only
    rw [ino (by omega)]
  | f + 1, k, out, hk, ho => by
    have hs := pieces_s_step (z := z) (k := k) (out := out) g hc hu hn (by omega) (by omega)
    unfold pcs
    by_cases h : (pcB b x y (num c (2 + 2 * k)) && (decide (k + 1 < n → gb (blk b (num c (2 + 2 * k)).toNat) 2 = 40) && !decide (num c (2 + 2 * k) ∈ out))) = true
    · rw [if_pos h] at hs
      rw [loopG_eq, hs, if_pos h]
      exact pieces_s_loop g hc hu hn f (k + 1) _ (by omega) (by simp; omega)
    · rw [if_neg h] at hs
      rw [loopG_eq, hs, if_neg h]
theorem cf_pieces2 {l : List Pc} (hl : l.length ≤ 1048576) (a s : Int) (t : List UInt8) :
    slices_ContainsFunc_loop_example_g00083_impl_piece_loop_example_g00083_impl_piece_i_Space_pieces_2 l a s t = some (decide (a ∈ l.map (·.1)), a, s, t) := by
  unfold slices_ContainsFunc_loop_example_g00083_impl_piece_loop_example_g00083_impl_piece_i_Space_pieces_2 slices_IndexFunc_loop_example_g00083_impl_piece_loop_example_g00083_impl_piece_i_Space_pieces_2
  rcases fst_loop slices_IndexFunc_loop_example_g00083_impl_piece_loop_example_g00083_impl_piece_i_Space_pieces_2_L1 (fun k => (l, ((l.length : Nat) : Int), ((k : Nat) : Int), a, s, t)) (fun k => !(decide ((l[k]?.getD (0, 0, [])).1 = a))) (fun k => (((k : Nat) : Int), a, s, t)) (a, s, t) l.length (fun k hk => by
    unfold slices_IndexFunc_loop_example_g00083_impl_piece_loop_example_g00083_impl_piece_i_Space_pieces_2_L1 i_Space_pieces_2
    dsimp only
    rw [iy (by omega), iy (by omega), Int.toNat_natCast, List.getElem?_eq_getElem hk, Option.bind_some, Option.bind_some, ix64 (by omega), Option.getD_some]
    by_cases hz : l[k].1 = a <;> simp [hz]) (by
    unfold slices_IndexFunc_loop_example_g00083_impl_piece_loop_example_g00083_impl_piece_i_Space_pieces_2_L1
    dsimp only
    rw [ino (by omega)]) with ⟨h1, h2⟩ | ⟨k, hk, h1, _, h2⟩
  · have : a ∉ l.map (·.1) := by
      intro hm
      obtain ⟨p, hp, he⟩ := List.mem_map.1 hm
      obtain ⟨j, hj, rfl⟩ := List.getElem_of_mem hp
      have := h1 j hj
      rw [List.getElem?_eq_getElem hj, Option.getD_some] at this
      simp [he] at this
    rw [show (0 : Int) = ((0 : Nat) : Int) from rfl, h2, Option.bind_some, decide_eq_false this]
    rfl
  · have : a ∈ l.map (·.1) := by
      rw [List.getElem?_eq_getElem hk, Option.getD_some] at h1
      refine List.mem_map.2 ⟨l[k], List.getElem_mem _, ?_⟩
      simpa using h1
    rw [show (0 : Int) = ((0 : Nat) : Int) from rfl, h2, Option.bind_some, decide_eq_true this]
    dsimp only
    rw [Option.bind_some]
    dsimp only
    rw [decide_eq_true (by omega)]
theorem tx_len {b : Bls} {x y : List Int} (g : RS b x y) {m : Nat} (hm : m < b.length) (h : gb (blk b m) 2 ≤ 40) : ((List.length (pcTx b ((m : Nat) : Int)) : Nat) : Int) = gb (blk b m) 2 := by
  have hc := g.len hm
  have u2 := g.u8 hm 2
  unfold pcTx textOf
  rw [Int.toNat_natCast, List.length_map, List.length_take, List.length_drop]
  omega
theorem pieces_i_step {b : Bls} {x y z c out : List Int} {n k : Nat} (g : RS b x y) (hc : c.length = 128) (hu : U8s c) (hn : n ≤ 3) (hk : k < n) (ho : out.length ≤ 3) :
    i_Space_pieces_L1 ((b, x, y, z), c, ((n : Nat) : Int), out.map (pcOf b), ((n : Nat) : Int), ((k : Nat) : Int)) =
      some (if (pcB b x y (num c (2 + 2 * k)) && (decide (k + 1 < n → gb (blk b (num c (2 + 2 * k)).toNat) 2 = 40) && !decide (num c (2 + 2 * k) ∈ out))) = true then .inl ((b, x, y, z), c, ((n : Nat) : Int), (out ++ [num c (2 + 2 * k)]).map (pcOf b), ((n : Nat) : Int), ((k + 1 : Nat) : Int)) else .inr (.inr false)) := by
  have e1 := wr22 (k := k) (by omega)
  unfold i_Space_pieces_L1
  dsimp only
  rw [iy (by omega), e1, numberAt_eq hu (by omega) (by omega), Option.bind_some, i_piece_eq g]
  generalize num c (2 + 2 * k) = a
  rw [Option.bind_some, ix64 (by omega)]
  cases hp : pcB b x y a with
  | false => rfl
  | true =>
    have hl : liv b x y a = true := by unfold pcB at hp; simp only [Bool.and_eq_true] at hp; exact hp.1
    obtain ⟨m, rfl, h33, hm, _, _⟩ := liv_nat hl
    have h40 : gb (blk b m) 2 ≤ 40 := by
      unfold pcB pcG at hp
      simp only [Bool.and_eq_true, decide_eq_true_eq, Int.toNat_natCast] at hp
      exact hp.2.2.2.1.2
    have ht := tx_len g hm h40
    have hmap : ((out.map (pcOf b)).map (·.1)) = out := by rw [List.map_map]; exact List.map_id out
    have hroom : ∀ v : Pc, roomFor (List.length (out.map (pcOf b)) + List.length ([v] : List Pc)) 32 = true := fun v => by simp only [roomFor, decide_eq_true_eq, List.length_singleton, List.length_map]; omega
    rw [if_pos rfl]
    dsimp only
    rw [if_neg (by simp), cf_pieces2 (by rw [List.length_map]; omega), hmap, Option.bind_some]
    dsimp only
    rw [show (pcOf b ((m : Nat) : Int)).1 = ((m : Nat) : Int) from rfl, show (pcOf b ((m : Nat) : Int)).2.2 = pcTx b ((m : Nat) : Int) from rfl, Int.toNat_natCast]
    have hr : ∀ q : Bool, (if q = true then some (Sum.inr (Sum.inr false)) else
        if roomFor ((out.map (pcOf b)).length + [((((m : Nat) : Int)), (pcOf b ((m : Nat) : Int)).2.1, pcTx b ((m : Nat) : Int))].length) 32 = true then some (Sum.inl ((b, x, y, z), c, ((n : Nat) : Int), out.map (pcOf b) ++ [((((m : Nat) : Int)), (pcOf b ((m : Nat) : Int)).2.1, pcTx b ((m : Nat) : Int))], ((n : Nat) : Int), IntKind.wrap .i64 (((k : Nat) : Int) + 1))) else none :
        Option (((List (List Int) × (List Int × (List Int × List Int))) × (List Int × (Int × (List (Int × (Int × List UInt8)) × (Int × Int))))) ⊕ (List (Int × (Int × List UInt8)) ⊕ Bool))) =
        some (if (!q) = true then .inl ((b, x, y, z), c, ((n : Nat) : Int), (out ++ [((m : Nat) : Int)]).map (pcOf b), ((n : Nat) : Int), ((k + 1 : Nat) : Int)) else .inr (.inr false)) := fun q => by
      cases q with
      | true => rfl
      | false =>
        rw [if_neg (by simp), if_pos (hroom _), List.map_append, ix64 (by omega)]
        rfl
    by_cases h4 : k + 1 < n
    · rw [iy (by omega), ht]
      by_cases h5 : gb (blk b m) 2 = 40
      · rw [ino (by omega), Option.bind_some]
        dsimp only
        rw [hr]
        have : decide (k + 1 < n → gb (blk b m) 2 = 40) = true := decide_eq_true fun _ => h5
        rw [this]; rfl
      · rw [iy (by omega), Option.bind_some]
        dsimp only
        have : decide (k + 1 < n → gb (blk b m) 2 = 40) = false := decide_eq_false fun hh => h5 (hh h4)
        rw [this]; rfl
    · rw [ino (by omega), Option.bind_some]
      dsimp only
      rw [hr]
      have : decide (k + 1 < n → gb (blk b m) 2 = 40) = true := decide_eq_true fun hh => absurd hh h4
      rw [this]; rfl
theorem pieces_i_loop {b : Bls} {x y z c : List Int} {n : Nat} (g : RS b x y) (hc : c.length = 128) (hu : U8s c) (hn : n ≤ 3) : ∀ (f k : Nat) (out : List Int), k + f = n → out.length ≤ k →
    loopG i_Space_pieces_L1 ((b, x, y, z), c, ((n : Nat) : Int), out.map (pcOf b), ((n : Nat) : Int), ((k : Nat) : Int)) = some (match pcs b x y c n f out k with | some l => .inl (l.map (pcOf b)) | none => .inr false)
  | 0, k, out, hk, ho => by
    rw [loopG_eq]
    unfold i_Space_pieces_L1 pcs
    dsimp only
    rw [ino (by omega)]
  | f + 1, k, out, hk, ho => by
    have hs := pieces_i_step (z := z) (k := k) (out := out) g hc hu hn (by omega) (by omega)
    unfold pcs
    by_cases h : (pcB b x y (num c (2 + 2 * k)) && (decide (k + 1 < n → gb (blk b (num c (2 + 2 * k)).toNat) 2 = 40) && !decide (num c (2 + 2 * k) ∈ out))) = true
    · rw [if_pos h] at hs
      rw [loopG_eq, hs, if_pos h]
      exact pieces_i_loop g hc hu hn f (k + 1) _ (by omega) (by simp; omega)
    · rw [if_neg h] at hs
      rw [loopG_eq, hs, if_neg h]
def ptx (b : Bls) (x y : List Int) (root : Int) : Option (List Int) :=
  if (liv b x y root && (decide (gb (blk b root.toNat) 0 = 84) && (decide (gb (blk b root.toNat) 1 ≤ 3) && rz (blk b root.toNat) (2 + 2 * (gb (blk b root.toNat) 1).toNat)))) = true then
    pcs b x y (blk b root.toNat) (gb (blk b root.toNat) 1).toNat (gb (blk b root.toNat) 1).toNat [] 0 else none
theorem s_pieces_eq {b : Bls} {x y z : List Int} (g : RS b x y) (root : Int) : ∃ l' : List Int, s_l7Pieces b x y z root = some (match ptx b x y root with | some l => (l, true) | none => (l', false)) := by
  unfold s_l7Pieces ptx
  rw [s_live_eq g, Option.bind_some]
  cases hl : liv b x y root with
  | false => exact ⟨[], rfl⟩
  | true =>
    obtain ⟨m, rfl, h33, hm, _, _⟩ := liv_nat hl
    have hc := g.len hm
    have hu := g.hu _ (blk_mem hm)
    rw [Int.toNat_natCast, if_neg (by simp), Bool.true_and]
    have hbm := blk_some hm
    generalize blk b m = c at *
    have u1 := gb_u8 hu 1
    rw [iy (by omega), hbm, Option.bind_some, iy (by omega), show Int.toNat 0 = 0 from rfl, gb_some (by omega), Option.bind_some]
    by_cases h0 : gb c 0 = 84
    · rw [decide_eq_true h0, if_neg (by simp; omega), iy (by omega), Option.bind_some, iy (by omega), show Int.toNat 1 = 1 from rfl, gb_some (by omega), Option.bind_some, Option.bind_some]
      dsimp only
      rw [Int.toNat_natCast, hbm, Bool.true_and]
      by_cases h3 : gb c 1 ≤ 3
      · obtain ⟨n, hn⟩ := Int.eq_ofNat_of_zero_le u1.1
        rw [ino (by omega), iy (by omega), Option.bind_some, iy (by omega), gb_some (by omega), Option.bind_some, decide_eq_true h3, Bool.true_and, hn, w64 (by omega) (by omega), Int.toNat_natCast]
        have hL : loopG s_l7Pieces_L1 (c, ((n : Nat) : Int), [], 0, b, x, y, z) = _ := pieces_s_loop g hc hu (by omega) n 0 [] (by omega) (by simp)
        rw [hL, Option.bind_some]
        have e1 := wr22 (k := n) (by omega)
        cases hp : pcs b x y c n n [] 0 with
        | none => exact ⟨[], by dsimp only; cases rz c (2 + 2 * n) <;> rfl⟩
        | some l =>
          refine ⟨l, ?_⟩
          dsimp only
          rw [e1, s_rest_eq (by omega) (by omega), Option.bind_some]
          cases rz c (2 + 2 * n) <;> rfl
      · exact ⟨[], by rw [iy (by omega), decide_eq_false h3]; rfl⟩
    · rw [decide_eq_false h0, if_pos (by simpa using h0)]; exact ⟨[], rfl⟩
theorem i_pieces_eq {b : Bls} {x y z : List Int} (g : RS b x y) (root : Int) : i_Space_pieces (b, x, y, z) root = some (match ptx b x y root with | some l => (l.map (pcOf b), true) | none => ([], false)) := by
  unfold i_Space_pieces ptx
  rw [i_here1_eq g, Option.bind_some]
  cases hl : liv b x y root with
  | false => rfl
  | true =>
    obtain ⟨m, rfl, h33, hm, _, _⟩ := liv_nat hl
    have hc := g.len hm
    have hu := g.hu _ (blk_mem hm)
    rw [Int.toNat_natCast, if_neg (by simp), Bool.true_and]
    have hbm := blk_some hm
    dsimp only
    generalize blk b m = c at *
    have u1 := gb_u8 hu 1
    rw [iy (by omega), hbm, Option.bind_some, iy (by omega), show Int.toNat 0 = 0 from rfl, gb_some (by omega), Option.bind_some, Option.bind_some]
    dsimp only
    by_cases h0 : gb c 0 = 84
    · obtain ⟨n, hn⟩ := Int.eq_ofNat_of_zero_le u1.1
      rw [decide_eq_true h0, if_neg (by simp; omega), iy (by omega), Int.toNat_natCast, hbm, Option.bind_some, iy (by omega), show Int.toNat 1 = 1 from rfl, gb_some (by omega), Option.bind_some, Bool.true_and, hn, w64 (n := ((n : Nat) : Int)) (by omega) (by omega)]
      have e1 := wr22 (k := n) (by omega)
      by_cases h3 : ((n : Nat) : Int) ≤ 3
      · rw [ino (by omega), e1, iy (by omega), iy (by omega), iy (by omega), iy (by omega), decide_eq_true h3, Bool.true_and]
        simp only [Int.toNat_natCast]
        rw [List.take_of_length_le (show (List.drop (2 + 2 * n) c).length ≤ c.length - (2 + 2 * n) by rw [List.length_drop]; omega), cf_pieces1 (by rw [List.length_drop]; omega), any_rz, Option.bind_some, Option.bind_some]
        dsimp only
        cases hr : rz c (2 + 2 * n) with
        | false => rfl
        | true =>
          have hL : loopG i_Space_pieces_L1 ((b, x, y, z), c, ((n : Nat) : Int), [], ((n : Nat) : Int), 0) = _ := pieces_i_loop g hc hu (by omega) n 0 [] (by omega) (by simp)
          rw [if_neg (by simp), if_pos rfl, hL, Option.bind_some]
          cases pcs b x y c n n [] 0 <;> rfl
      · rw [iy (by omega), decide_eq_false h3]; rfl
    · rw [decide_eq_false h0, if_pos (by simpa using h0)]; rfl
end Go.V.G

set_option linter.unusedVariables false
set_option linter.unusedSimpArgs false
set_option maxRecDepth 100000
namespace Go.V.G
open Go.V
noncomputable def pt (z : List Int) (n : Int) : List Int := (s_l5Put z n).getD []
theorem pt_eq {z : List Int} (hz : z.length ≤ 1048576) (hr : Ris z) (n : Int) : s_l5Put z n = some (pt z n) ∧ i_insert z n = some (pt z n) ∧ (pt z n).length ≤ z.length + 1 ∧ Ris (pt z n) ∧ ∀ v, v ∈ pt z n ↔ v ∈ z ∨ v = n := by
  obtain ⟨z', h1, h2, h3, h4, h5⟩ := put_both3 hz hr n
  have e : pt z n = z' := by unfold pt; rw [h1]; rfl
  rw [e]; exact ⟨h1, h2, h3, h4, h5⟩
def padB (d : List Int) : List Int := d ++ List.replicate (128 - d.length) 0
theorem padB_len {d : List Int} (h : d.length ≤ 128) : (padB d).length = 128 := by unfold padB; simp; omega
theorem padB_id {d : List Int} (h : d.length = 128) : padB d = d := by unfold padB; rw [h]; simp
theorem i_padded_eq {d : List Int} (h : d.length ≤ 128) : i_padded d 128 = some (padB d) := by
  unfold i_padded padB
  rw [w64 (by omega) (by omega), iy (by omega), show Int.toNat ((128 : Int) - ((d.length : Nat) : Int)) = 128 - d.length by omega, if_pos (by simp only [roomFor, decide_eq_true_eq, List.length_replicate]; omega)]
theorem s_lay_eq {b : Bls} {x y z d : List Int} {m : Nat} (hd : d.length ≤ 128) (hm : m < b.length) (hz : z.length ≤ 1048576) (hr : Ris z) :
    s_l5Lay_oooo ((m : Nat) : Int) d b x y z = some (b.set m (padB d), x, y, pt z ((m : Nat) : Int)) := by
  obtain ⟨h1, _⟩ := pt_eq hz hr ((m : Nat) : Int)
  unfold s_l5Lay_oooo padB
  rw [iy (by omega), iy (by omega), if_pos (by simp [roomFor]), iy (by omega), iy (by omega), Nat.zero_add, Int.toNat_natCast, blk_some hm, Option.bind_some, Option.bind_some, h1, Option.bind_some,
    show Int.toNat 128 = 128 from rfl, List.length_replicate, List.take_of_length_le hd, List.drop_replicate]
theorem i_lay_eq {b : Bls} {x y z d : List Int} {m : Nat} (hd : d.length = 128) (hm : m < b.length) (hz : z.length ≤ 1048576) (hr : Ris z) :
    i_Space_lay_oooo ((m : Nat) : Int) d b x y z = some (b.set m d, x, y, pt z ((m : Nat) : Int)) := by
  obtain ⟨_, h1, _⟩ := pt_eq hz hr ((m : Nat) : Int)
  unfold i_Space_lay_oooo
  rw [clone_any (by omega), Option.bind_some, iy (by omega), iy (by omega), Nat.zero_add, Int.toNat_natCast, blk_some hm, Option.bind_some, Option.bind_some, h1]; rfl
theorem bytesOf_len2 (s : List UInt8) : (bytesOf s).length = s.length := by simp [bytesOf]
theorem i_layPiece_eq {b : Bls} {x y z : List Int} {s : Int} {t : List UInt8} {m : Nat} (ht : t.length ≤ 40) (hm : m < b.length) (hz : z.length ≤ 1048576) (hr : Ris z) :
    i_Space_layPiece_oooo ((m : Nat) : Int) s t b x y z = some (b.set m (padB ([83, IntKind.wrap .u8 s, ((t.length : Nat) : Int)] ++ bytesOf t)), x, y, pt z ((m : Nat) : Int)) := by
  have hl : ([83, IntKind.wrap .u8 s, ((t.length : Nat) : Int)] ++ bytesOf t).length ≤ 128 := by
    simp only [List.length_append, List.length_cons, List.length_nil, bytesOf_len2]; omega
  unfold i_Space_layPiece_oooo
  rw [if_pos (by simp only [roomFor, decide_eq_true_eq, List.length_cons, List.length_nil, bytesOf_len2]; omega), wub (r := ((t.length : Nat) : Int)) (by omega) (by omega), i_padded_eq hl, Option.bind_some, i_lay_eq (padB_len hl) hm hz hr]
  rfl
theorem bytes_text {l : List Int} (h : U8s l) : bytesOf (textOf l) = l := by
  unfold textOf bytesOf
  rw [List.map_map]
  conv => rhs; rw [← List.map_id l]
  refine List.map_congr_left fun v hv => ?_
  obtain ⟨h0, h1⟩ := h v hv
  obtain ⟨n, rfl⟩ := Int.eq_ofNat_of_zero_le h0
  simp only [Function.comp, Int.toNat_natCast, id]
  rw [UInt8.toNat_ofNat_of_lt' (by show n < 256; omega)]
theorem piece_form {c : List Int} (hc : c.length = 128) (hu : U8s c) (hg : pcG c = true) :
    c = padB ([83, gb c 1, gb c 2] ++ bytesOf (textOf ((c.drop 3).take (gb c 2).toNat))) := by
  unfold pcG at hg
  simp only [Bool.and_eq_true, decide_eq_true_eq] at hg
  obtain ⟨h0, h1, h2, hr⟩ := hg
  obtain ⟨n, hn⟩ := Int.eq_ofNat_of_zero_le (show 0 ≤ gb c 2 by omega)
  rw [hn] at h2 hr ⊢
  rw [Int.toNat_natCast] at hr ⊢
  have hu2 : U8s ((c.drop 3).take n) := fun v hv => hu v (List.mem_of_mem_drop (List.mem_of_mem_take hv))
  rw [bytes_text hu2]
  have h3 : c.take 3 = [83, gb c 1, ((n : Nat) : Int)] := by
    match c, hc with
    | a0 :: a1 :: a2 :: r, _ =>
      have e0 : a0 = 83 := h0
      have e2 : a2 = ((n : Nat) : Int) := hn
      rw [e0, e2]; rfl
  have hrz : c.drop (3 + n) = List.replicate (125 - n) 0 := by
    rw [List.eq_replicate_iff]
    refine ⟨by rw [List.length_drop]; omega, fun v hv => ?_⟩
    unfold rz at hr
    simpa using List.all_eq_true.1 hr v hv
  have hlen : ([83, gb c 1, ((n : Nat) : Int)] ++ (c.drop 3).take n).length = 3 + n := by
    simp only [List.length_append, List.length_cons, List.length_nil, List.length_take, List.length_drop]; omega
  unfold padB
  rw [hlen, show 128 - (3 + n) = 125 - n by omega, ← hrz, ← h3, List.append_assoc, ← List.drop_drop, List.take_append_drop, List.take_append_drop]
theorem piece_set {c : List Int} (hc : c.length = 128) (hu : U8s c) (hg : pcG c = true) (v : Int) :
    c.set 1 v = padB ([83, v, ((List.length (textOf ((c.drop 3).take (gb c 2).toNat)) : Nat) : Int)] ++ bytesOf (textOf ((c.drop 3).take (gb c 2).toNat))) := by
  have hf := piece_form hc hu hg
  have hg' := hg
  unfold pcG at hg'
  simp only [Bool.and_eq_true, decide_eq_true_eq] at hg'
  obtain ⟨_, _, h2, _⟩ := hg'
  have hl : ((List.length (textOf ((c.drop 3).take (gb c 2).toNat)) : Nat) : Int) = gb c 2 := by
    unfold textOf
    rw [List.length_map, List.length_take, List.length_drop]; omega
  rw [hl]
  have hl2 : ∀ v : Int, ([83, v, gb c 2] ++ bytesOf (textOf ((c.drop 3).take (gb c 2).toNat))).length = 3 + (textOf ((c.drop 3).take (gb c 2).toNat)).length := fun v => by
    simp only [List.length_append, List.length_cons, List.length_nil, bytesOf_len2]
  generalize hw : bytesOf (textOf ((c.drop 3).take (gb c 2).toNat)) = w at *
  generalize gb c 2 = g2 at *
  generalize gb c 1 = g1 at *
  rw [hf]
  unfold padB
  rw [hl2, hl2]
  rfl
theorem pcs_ok {b : Bls} {x y c : List Int} {n : Nat} : ∀ (f k : Nat) (out l : List Int), pcs b x y c n f out k = some l → (∀ a ∈ out, pcB b x y a = true) → out.Nodup →
    (∀ a ∈ l, pcB b x y a = true) ∧ l.Nodup ∧ l.length = out.length + f
  | 0, k, out, l, h, h1, h2 => by
    unfold pcs at h
    cases h
    exact ⟨h1, h2, rfl⟩
  | f + 1, k, out, l, h, h1, h2 => by
    unfold pcs at h
    split at h
    · rename_i hc
      simp only [Bool.and_eq_true, Bool.not_eq_true', decide_eq_false_iff_not] at hc
      obtain ⟨hp, _, hm⟩ := hc
      obtain ⟨r1, r2, r3⟩ := pcs_ok f (k + 1) _ l h (fun a ha => by
        rcases List.mem_append.1 ha with ha | ha
        · exact h1 a ha
        · rw [List.mem_singleton.1 ha]; exact hp) (by
        rw [List.nodup_append]
        refine ⟨h2, by simp, fun a ha b hb => ?_⟩
        rw [List.mem_singleton.1 hb]
        rintro rfl; exact hm ha)
      exact ⟨r1, r2, by rw [r3]; simp; omega⟩
    · cases h
structure Pcs (b : Bls) (x y l : List Int) : Prop where
  all : ∀ a ∈ l, pcB b x y a = true
  nd : l.Nodup
  len : l.length ≤ 3
theorem ptx_ok {b : Bls} {x y : List Int} {root : Int} {l : List Int} (h : ptx b x y root = some l) : Pcs b x y l ∧ liv b x y root = true ∧ gb (blk b root.toNat) 0 = 84 ∧ root ∉ l := by
  unfold ptx at h
  split at h
  · rename_i hc
    simp only [Bool.and_eq_true, decide_eq_true_eq] at hc
    obtain ⟨h1, h2, h3, _⟩ := hc
    obtain ⟨r1, r2, r3⟩ := pcs_ok _ 0 [] l h (fun a ha => by cases ha) List.nodup_nil
    refine ⟨⟨r1, r2, by rw [r3]; simp; omega⟩, h1, h2, fun hm => ?_⟩
    have := r1 root hm
    unfold pcB pcG at this
    simp only [Bool.and_eq_true, decide_eq_true_eq] at this
    omega
  · cases h
theorem pcB_nat {b : Bls} {x y : List Int} {a : Int} (h : pcB b x y a = true) : ∃ m : Nat, a = ((m : Nat) : Int) ∧ 33 ≤ m ∧ m < b.length ∧ bit x m = true ∧ ((m : Nat) : Int) ∉ y ∧ pcG (blk b m) = true := by
  unfold pcB at h
  simp only [Bool.and_eq_true] at h
  obtain ⟨m, rfl, h1, h2, h3, h4⟩ := liv_nat h.1
  exact ⟨m, rfl, h1, h2, h3, h4, h.2⟩
theorem tx_le (b : Bls) {x y : List Int} {a : Int} (h : pcB b x y a = true) : (pcTx b a).length ≤ 40 := by
  obtain ⟨m, rfl, _, _, _, _, hg⟩ := pcB_nat h
  unfold pcG at hg
  simp only [Bool.and_eq_true, decide_eq_true_eq] at hg
  unfold pcTx textOf
  rw [Int.toNat_natCast, List.length_map, List.length_take]; omega
theorem s_piece_eq {b : Bls} {x y z : List Int} (g : RS b x y) {a : Int} (h : pcB b x y a = true) : s_l7Piece b x y z a = some (pcTx b a) := by
  obtain ⟨m, rfl, h33, hm, _, _, hg⟩ := pcB_nat h
  have hc := g.len hm
  have v2 := g.u8 hm 2
  unfold pcG at hg
  simp only [Bool.and_eq_true, decide_eq_true_eq] at hg
  unfold s_l7Piece pcTx
  have hbm := blk_some hm
  rw [Int.toNat_natCast]
  generalize blk b m = c at *
  obtain ⟨n, hn⟩ := Int.eq_ofNat_of_zero_le v2.1
  rw [hn] at hg ⊢
  rw [iy (by omega), hbm, Option.bind_some, iy (by omega), Option.bind_some, iy (by omega), show Int.toNat 2 = 2 from rfl, gb_some (by omega), Option.bind_some, hn, w64 (n := ((n : Nat) : Int)) (by omega) (by omega),
    show (3 : Int) + ((n : Nat) : Int) = ((3 + n : Nat) : Int) by omega, w64 (by omega) (by omega), iy (by omega), iy (by omega), iy (by omega), iy (by omega), Int.toNat_natCast, Int.toNat_natCast, show 3 + n - Int.toNat 3 = n by omega]
  rfl
theorem GS.rs {b : Bls} {x y z : List Int} (g : GS b x y z) (h : SB b x y z) (hu : ∀ c ∈ b, U8s c) : RS b x y := ⟨g.hb, g.hk, hu, g.hx, h.y⟩
end Go.V.G

set_option linter.unusedVariables false
set_option linter.unusedSimpArgs false
set_option maxRecDepth 100000
namespace Go.V.G
open Go.V
abbrev Wst := Bls × (List Int × List Int)
structure Ws (n : Nat) (s : Wst) (q : Nat) : Prop where
  hn : s.1.length = n
  hk : ∀ c ∈ s.1, c.length = 128
  hu : ∀ c ∈ s.1, U8s c
  hy : Ris s.2.1
  hz : Ris s.2.2
  ly : s.2.1.length ≤ q
  lz : s.2.2.length ≤ q
theorem Ws.more {n q r : Nat} {s : Wst} (h : Ws n s q) (hr : q ≤ r) : Ws n s r := ⟨h.hn, h.hk, h.hu, h.hy, h.hz, Nat.le_trans h.ly hr, Nat.le_trans h.lz hr⟩
theorem blk_set_ne {b : Bls} {i j : Nat} {c : List Int} (h : i ≠ j) : blk (b.set i c) j = blk b j := by unfold blk; rw [List.getElem?_set_ne h]
theorem blk_set_eq {b : Bls} {i : Nat} {c : List Int} (h : i < b.length) : blk (b.set i c) i = c := by unfold blk; rw [List.getElem?_set_self h]; rfl
theorem Ws.setB {n q : Nat} {s : Wst} (h : Ws n s q) (hq : q ≤ 1048000) {i : Nat} {c : List Int} (hc : c.length = 128) (hu : U8s c) : Ws n (s.1.set i c, s.2.1, pt s.2.2 ((i : Nat) : Int)) (q + 1) := by
  have hl := h.lz; have hl2 := h.ly
  obtain ⟨_, _, h3, h4, _⟩ := pt_eq (z := s.2.2) (by omega) h.hz ((i : Nat) : Int)
  exact ⟨by rw [List.length_set]; exact h.hn, fun d hd => by
    rcases List.mem_or_eq_of_mem_set hd with hd | rfl
    · exact h.hk d hd
    · exact hc, fun d hd => by
    rcases List.mem_or_eq_of_mem_set hd with hd | rfl
    · exact h.hu d hd
    · exact hu, h.hy, h4, by dsimp only; omega, by dsimp only; omega⟩
theorem u8_setv {c : List Int} (h : U8s c) {i : Nat} {v : Int} (hv : 0 ≤ v ∧ v ≤ 255) : U8s (c.set i v) := fun w hw => by
  rcases List.mem_or_eq_of_mem_set hw with hw | rfl
  · exact h w hw
  · exact hv
theorem GS.ws {b : Bls} {x y z : List Int} (g : GS b x y z) (hu : ∀ c ∈ b, U8s c) : Ws b.length (b, y, z) 127 := by
  have hb := g.hb
  obtain ⟨r1, r2⟩ := ris_of g.hy
  obtain ⟨r3, r4⟩ := ris_of g.hz
  have l1 : y.length ≤ 127 := ris_len r1 (fun i hi => by have := r2 i hi; omega)
  have l2 : z.length ≤ 127 := ris_len r3 (fun i hi => by have := r4 i hi; omega)
  exact ⟨rfl, g.hk, hu, r1, r3, l1, l2⟩
theorem Ws.w {n q : Nat} {s : Wst} (h : Ws n s q) (hn : n ≤ 160) (hq : q ≤ 1000) {x : List Int} (hx : x.length = 20) : w_Space s.1 x s.2.1 s.2.2 ≤ 5000000 := by
  have hw : ∀ l : Bls, (∀ c ∈ l, c.length = 128) → wsum w_ByteS l = l.length * 128 := by
    intro l
    induction l with
    | nil => intro _; rfl
    | cons c l ih =>
      intro hh
      simp only [wsum, List.length_cons]
      rw [ih (fun d hd => hh d (by simp [hd]))]
      have e : w_ByteS c = c.length := rfl
      rw [e, hh c (by simp)]; omega
  have h1 := hw s.1 h.hk
  have h2 := h.hn; have h3 := h.ly; have h4 := h.lz
  unfold w_Space w_ByteSS w_ByteS w_IntS
  unfold w_ByteS at h1
  rw [h1]; omega
end Go.V.G

set_option linter.unusedVariables false
set_option linter.unusedSimpArgs false
set_option maxRecDepth 100000
namespace Go.V.G
open Go.V
def cutT : Nat → List UInt8 → List (List UInt8)
  | 0, _ => []
  | f + 1, t => if t = [] then [] else t.take 40 :: cutT f (t.drop 40)
theorem cutT_len : ∀ f t, (cutT f t).length ≤ f
  | 0, _ => by simp [cutT]
  | f + 1, t => by
    unfold cutT
    split
    · simp
    · have := cutT_len f (t.drop 40); simp; omega
theorem cutT_piece : ∀ f t p, p ∈ cutT f t → 1 ≤ p.length ∧ p.length ≤ 40
  | 0, _, p, h => by simp [cutT] at h
  | f + 1, t, p, h => by
    unfold cutT at h
    split at h
    · cases h
    · rename_i ht
      rcases List.mem_cons.1 h with rfl | h
      · have := List.length_pos_iff.2 ht
        rw [List.length_take]; omega
      · exact cutT_piece f _ p h
theorem cutT_nil (f : Nat) : cutT f [] = [] := by cases f <;> rfl
theorem rm16 {n m : Nat} (h : n + m ≤ 1000) : roomFor (n + m) 16 = true := by simp only [roomFor, decide_eq_true_eq]; omega
theorem i_cut_loop : ∀ (f : Nat) (t : List UInt8) (out : List (List UInt8)), t.length ≤ 40 * f → out.length + f ≤ 900 → loopG i_cut_L1 (t, out) = some (out ++ cutT f t)
  | 0, t, out, h, ho => by
    obtain rfl : t = [] := List.length_eq_zero_iff.1 (by omega)
    rw [loopG_eq]
    unfold i_cut_L1
    simp [cutT]
  | f + 1, t, out, h, ho => by
    by_cases ht : t = []
    · subst ht
      rw [loopG_eq]
      unfold i_cut_L1
      simp [cutT]
    · have hp := List.length_pos_iff.2 ht
      have hmin : (if ((t.length : Nat) : Int) < 40 then ((t.length : Nat) : Int) else 40) = ((min t.length 40 : Nat) : Int) := by split <;> omega
      have hne : (!(t == ([] : List UInt8))) = true := by simp [ht]
      have e1 : (List.drop (min t.length 40) t).take (t.length - min t.length 40) = t.drop 40 := by
        by_cases hl : t.length ≤ 40
        · rw [Nat.min_eq_left hl, List.drop_eq_nil_of_le (Nat.le_refl _), List.drop_eq_nil_of_le hl, List.take_nil]
        · rw [Nat.min_eq_right (by omega)]; exact List.take_of_length_le (by rw [List.length_drop]; omega)
      have e2 : (List.drop (Int.toNat 0) t).take (min t.length 40 - Int.toNat 0) = t.take 40 := by
        rw [show Int.toNat 0 = 0 from rfl, List.drop_zero, Nat.sub_zero]
        by_cases hl : t.length ≤ 40
        · rw [Nat.min_eq_left hl, List.take_of_length_le (Nat.le_refl _), List.take_of_length_le hl]
        · rw [Nat.min_eq_right (by omega)]
      have hs : i_cut_L1 (t, out) = some (.inl (t.drop 40, out ++ [t.take 40])) := by
        unfold i_cut_L1
        dsimp only
        simp only [hmin]
        rw [if_pos hne]
        simp only [Int.toNat_natCast, e1, e2, if_pos (rm16 (n := out.length) (m := ([t.take 40] : List (List UInt8)).length) (by simp; omega))]
        simp (disch := omega) only [iy]
      rw [loopG_eq, hs]
      dsimp only
      rw [i_cut_loop f _ _ (by rw [List.length_drop]; omega) (by simp; omega), cutT, if_neg ht, List.append_assoc]
      rfl
theorem i_cut_eq {t : List UInt8} (h : t.length ≤ 120) : i_cut t = some (cutT 3 t) := by
  unfold i_cut
  rw [i_cut_loop 3 t [] (by omega) (by simp)]
  rfl
theorem s_cut_loop : ∀ (f : Nat) (t : List UInt8) (out : List (List UInt8)), t.length ≤ 40 * f → out.length + f ≤ 900 → ∃ v, loopG s_l7Cut_L1 (t, out) = some v ∧ (if v.1 = [] then v.2 else v.2 ++ [v.1]) = out ++ cutT f t ∧ v.2.length ≤ 900
  | 0, t, out, h, ho => by
    obtain rfl : t = [] := List.length_eq_zero_iff.1 (by omega)
    refine ⟨([], out), ?_, by simp [cutT], by dsimp only; omega⟩
    rw [loopG_eq]
    unfold s_l7Cut_L1
    simp
  | f + 1, t, out, h, ho => by
    by_cases ht : 40 < t.length
    · have hne : t ≠ [] := by rintro rfl; simp at ht
      obtain ⟨v, h1, h2, h3⟩ := s_cut_loop f (t.drop 40) (out ++ [t.take 40]) (by rw [List.length_drop]; omega) (by simp; omega)
      refine ⟨v, ?_, ?_, h3⟩
      · have e1 : (List.drop (Int.toNat 40) t).take (Int.toNat ((t.length : Nat) : Int) - Int.toNat 40) = t.drop 40 := by
          rw [Int.toNat_natCast, show Int.toNat 40 = 40 from rfl]; exact List.take_of_length_le (by rw [List.length_drop]; omega)
        have e2 : (List.drop (Int.toNat 0) t).take (Int.toNat 40 - Int.toNat 0) = t.take 40 := rfl
        have hs : s_l7Cut_L1 (t, out) = some (.inl (t.drop 40, out ++ [t.take 40])) := by
          unfold s_l7Cut_L1
          dsimp only
          simp only [e1, e2, if_pos (rm16 (n := out.length) (m := ([t.take 40] : List (List UInt8)).length) (by simp; omega))]
          simp (disch := omega) only [iy]
        rw [loopG_eq, hs]
        exact h1
      · rw [h2, cutT, if_neg hne, List.append_assoc]; rfl
    · refine ⟨(t, out), ?_, ?_, by dsimp only; omega⟩
      · rw [loopG_eq]
        unfold s_l7Cut_L1
        dsimp only
        rw [ino (by omega)]
      · dsimp only
        unfold cutT
        split
        · simp
        · rw [List.take_of_length_le (by omega), List.drop_eq_nil_of_le (by omega), cutT_nil]
theorem s_cut_eq {t : List UInt8} (h : t.length ≤ 120) : s_l7Cut t = some (cutT 3 t) := by
  unfold s_l7Cut
  obtain ⟨v, h1, h2, h3⟩ := s_cut_loop 3 t [] (by omega) (by simp)
  rw [h1, Option.bind_some]
  rw [List.nil_append] at h2
  by_cases hv : v.1 = []
  · rw [if_pos hv] at h2
    rw [hv, h2]; rfl
  · rw [if_neg hv] at h2
    rw [if_pos (by simp [hv]), if_pos (rm16 (by simp; omega)), h2]; rfl
def shr (b : Bls) (hv : List Int) (k : Nat) (p : List UInt8) : Int := match hv[k]? with
  | some a => if pcTx b a = p ∧ gb (blk b a.toNat) 1 < 250 then a else 0
  | none => 0
def shs (b : Bls) (hv : List Int) (ps : List (List UInt8)) : List Int := (List.range ps.length).map fun k => shr b hv k (ps[k]?.getD [])
theorem shs_len (b : Bls) (hv : List Int) (ps : List (List UInt8)) : (shs b hv ps).length = ps.length := by simp [shs]
theorem shs_get (b : Bls) (hv : List Int) {ps : List (List UInt8)} {k : Nat} (h : k < ps.length) : (shs b hv ps)[k]? = some (shr b hv k ps[k]) := by
  unfold shs
  rw [List.getElem?_map, List.getElem?_range h, Option.map_some, List.getElem?_eq_getElem h]; rfl
theorem shs_take (b : Bls) (hv : List Int) {ps : List (List UInt8)} {k : Nat} (h : k < ps.length) : (shs b hv ps).take (k + 1) = (shs b hv ps).take k ++ [shr b hv k ps[k]] := by
  have hk : k < (shs b hv ps).length := by rw [shs_len]; exact h
  have e := shs_get b hv h
  rw [List.getElem?_eq_getElem hk] at e
  rw [List.take_succ_eq_append_getElem hk, Option.some.inj e]
theorem shr_cases (b : Bls) (hv : List Int) (k : Nat) (p : List UInt8) : shr b hv k p = 0 ∨ ∃ (h : k < hv.length), shr b hv k p = hv[k] ∧ pcTx b hv[k] = p ∧ gb (blk b hv[k].toNat) 1 < 250 := by
  unfold shr
  by_cases h : k < hv.length
  · rw [List.getElem?_eq_getElem h]
    dsimp only
    split
    · rename_i hc; exact .inr ⟨h, rfl, hc.1, hc.2⟩
    · exact .inl rfl
  · rw [List.getElem?_eq_none (by omega)]; exact .inl rfl
def pcN (b : Bls) (a : Int) (p : List UInt8) : Pc := if a = 0 then (0, 0, p) else pcOf b a
def pcl (b : Bls) (sh : List Int) (ps : List (List UInt8)) : List Pc := (List.range ps.length).map fun k => pcN b (sh[k]?.getD 0) (ps[k]?.getD [])
def flg (sh : List Int) : List Bool := sh.map fun a => decide (¬ a = 0)
theorem pcl_len (b : Bls) (sh : List Int) (ps : List (List UInt8)) : (pcl b sh ps).length = ps.length := by simp [pcl]
theorem pcl_get (b : Bls) (sh : List Int) {ps : List (List UInt8)} {k : Nat} (h : k < ps.length) : (pcl b sh ps)[k]? = some (pcN b (sh[k]?.getD 0) ps[k]) := by
  unfold pcl
  rw [List.getElem?_map, List.getElem?_range h, Option.map_some, List.getElem?_eq_getElem h]; rfl
theorem pcl_take (b : Bls) (sh : List Int) {ps : List (List UInt8)} {k : Nat} (h : k < ps.length) : (pcl b sh ps).take (k + 1) = (pcl b sh ps).take k ++ [pcN b (sh[k]?.getD 0) ps[k]] := by
  have hk : k < (pcl b sh ps).length := by rw [pcl_len]; exact h
  have e := pcl_get b sh h
  rw [List.getElem?_eq_getElem hk] at e
  rw [List.take_succ_eq_append_getElem hk, Option.some.inj e]
theorem flg_take (b : Bls) (hv : List Int) {ps : List (List UInt8)} {k : Nat} (h : k < ps.length) : (flg (shs b hv ps)).take (k + 1) = (flg (shs b hv ps)).take k ++ [decide (¬ shr b hv k ps[k] = 0)] := by
  unfold flg
  rw [← List.map_take, shs_take b hv h, List.map_append, List.map_take]; rfl
theorem s_shared_loop {b : Bls} {x y z hv : List Int} (g : RS b x y) (hp : Pcs b x y hv) {ps : List (List UInt8)} (hps : ps.length ≤ 3) :
    loopG s_l7Shared_L1 (hv, [], ps, ((ps.length : Nat) : Int), 0, b, x, y, z) = some (shs b hv ps) := by
  have hL := loop_run s_l7Shared_L1 (fun k => (hv, (shs b hv ps).take k, ps, ((ps.length : Nat) : Int), ((k : Nat) : Int), b, x, y, z)) ps.length (shs b hv ps) (fun k hk => by
    have hr : ∀ v : Int, roomFor (((shs b hv ps).take k).length + ([v] : List Int).length) 8 = true := fun v => by
      simp only [roomFor, decide_eq_true_eq, List.length_take, shs_len, List.length_singleton]; omega
    rw [shs_take b hv hk]
    unfold s_l7Shared_L1
    dsimp only
    rw [iy (by omega), iy (by omega), iy (by omega), Nat.zero_add, Int.toNat_natCast, List.getElem?_eq_getElem hk, Option.bind_some]
    unfold shr
    by_cases hkv : k < hv.length
    · have hpk := hp.all _ (List.getElem_mem hkv)
      rw [iy (by omega), iy (by omega), iy (by omega), List.getElem?_eq_getElem hkv, Option.bind_some, s_piece_eq g hpk, Option.bind_some]
      obtain ⟨m, hm, h33, hmb, _, _, hg⟩ := pcB_nat hpk
      rw [hm]
      have hc := g.len hmb
      dsimp only
      rw [Int.toNat_natCast]
      by_cases he : pcTx b ((m : Nat) : Int) = ps[k]
      · have hgk : hv[k]? = some ((m : Nat) : Int) := by rw [List.getElem?_eq_getElem hkv, hm]
        rw [if_pos (by simpa using he)]
        by_cases h2 : gb (blk b m) 1 < 250
        · rw [if_pos (show pcTx b ((m : Nat) : Int) = ps[k] ∧ gb (blk b m) 1 < 250 from ⟨he, h2⟩)]
          simp (disch := omega) only [iy, Option.bind_some, Int.toNat_natCast, blk_some hmb, show Int.toNat 1 = 1 from rfl, gb_some (show 1 < (blk b m).length by omega), Nat.zero_add, hgk, hr, if_true, eq_self, ix64]
        · rw [if_neg (show ¬ (pcTx b ((m : Nat) : Int) = ps[k] ∧ gb (blk b m) 1 < 250) from fun hh => h2 hh.2)]
          simp (disch := omega) only [iy, ino, Option.bind_some, Int.toNat_natCast, blk_some hmb, show Int.toNat 1 = 1 from rfl, gb_some (show 1 < (blk b m).length by omega), Nat.zero_add, hgk, hr, if_true, eq_self, ix64]
      · rw [if_neg (by simpa using he), Option.bind_some]
        dsimp only
        rw [if_neg (by simp), if_neg (show ¬ (pcTx b ((m : Nat) : Int) = ps[k] ∧ gb (blk b m) 1 < 250) from fun hh => he hh.1), Option.bind_some, if_pos (hr _), ix64 (by omega)]
    · have hgk : hv[k]? = none := List.getElem?_eq_none (by omega)
      simp (disch := omega) only [ino, hgk, Option.bind_some, hr, if_true, eq_self, ix64, Bool.false_eq_true, if_false]) (by
    unfold s_l7Shared_L1
    dsimp only
    rw [ino (by omega), List.take_of_length_le (by rw [shs_len]; exact Nat.le_refl _)])
  exact hL
theorem i_shared_loop {b : Bls} {x y hv : List Int} (hp : Pcs b x y hv) {ps : List (List UInt8)} (hps : ps.length ≤ 3) :
    loopG i_Space_shared_L1 (hv.map (pcOf b), [], [], ps, ((ps.length : Nat) : Int), 0) = some (pcl b (shs b hv ps) ps, flg (shs b hv ps)) := by
  have hL := loop_run i_Space_shared_L1 (fun k => (hv.map (pcOf b), (pcl b (shs b hv ps) ps).take k, (flg (shs b hv ps)).take k, ps, ((ps.length : Nat) : Int), ((k : Nat) : Int))) ps.length (pcl b (shs b hv ps) ps, flg (shs b hv ps)) (fun k hk => by
    have hr : ∀ v : Pc, roomFor (((pcl b (shs b hv ps) ps).take k).length + ([v] : List Pc).length) 32 = true := fun v => by
      simp only [roomFor, decide_eq_true_eq, List.length_take, pcl_len, List.length_singleton]; omega
    have hr2 : ∀ v : Bool, roomFor (((flg (shs b hv ps)).take k).length + ([v] : List Bool).length) 1 = true := fun v => by
      unfold flg
      simp only [roomFor, decide_eq_true_eq, List.length_take, List.length_map, shs_len, List.length_singleton]; omega
    rw [pcl_take b _ hk, flg_take b hv hk, shs_get b hv hk, Option.getD_some]
    unfold i_Space_shared_L1
    dsimp only
    rw [iy (by omega), iy (by omega), iy (by omega), Nat.zero_add, Int.toNat_natCast, List.getElem?_eq_getElem hk, Option.bind_some, List.length_map]
    unfold pcN
    by_cases hkv : k < hv.length
    · have hpk := hp.all _ (List.getElem_mem hkv)
      have hg : (hv.map (pcOf b))[k]? = some (pcOf b hv[k]) := by rw [List.getElem?_map, List.getElem?_eq_getElem hkv]; rfl
      obtain ⟨m, hm, h33, hmb, _, _, _⟩ := pcB_nat hpk
      rw [iy (by omega), iy (by omega), iy (by omega), hg, Option.bind_some, Option.bind_some]
      rw [show (pcOf b hv[k]).2.2 = pcTx b hv[k] from rfl]
      by_cases he : pcTx b hv[k] = ps[k]
      · have e21 : (pcOf b hv[k]).2.1 = gb (blk b hv[k].toNat) 1 := rfl
        rw [if_pos (by simpa using he)]
        by_cases h2 : gb (blk b hv[k].toNat) 1 < 250
        · have hs : shr b hv k ps[k] = hv[k] := by unfold shr; rw [List.getElem?_eq_getElem hkv]; dsimp only; rw [if_pos ⟨he, h2⟩]
          rw [hs, if_neg (show ¬ hv[k] = 0 by omega), decide_eq_true (show ¬ hv[k] = 0 by omega)]
          simp (disch := omega) only [iy, Option.bind_some, Int.toNat_natCast, Nat.zero_add, hg, e21, hr, hr2, if_true, eq_self, ix64, List.length_map]
          rfl
        · have hs : shr b hv k ps[k] = 0 := by unfold shr; rw [List.getElem?_eq_getElem hkv]; dsimp only; rw [if_neg (fun hh => h2 hh.2)]
          rw [hs, if_pos rfl]
          simp (disch := omega) only [iy, ino, Option.bind_some, Int.toNat_natCast, Nat.zero_add, hg, e21, hr, hr2, if_true, eq_self, ix64, List.length_map]
          rfl
      · have hs : shr b hv k ps[k] = 0 := by unfold shr; rw [List.getElem?_eq_getElem hkv]; dsimp only; rw [if_neg (fun hh => he hh.1)]
        rw [if_neg (by simpa using he), hs, if_pos rfl]
        simp (disch := omega) only [Option.bind_some, hr, hr2, if_true, eq_self, ix64, Bool.false_eq_true, if_false]
        rfl
    · have hs : shr b hv k ps[k] = 0 := by unfold shr; rw [List.getElem?_eq_none (by omega)]
      rw [hs, if_pos rfl]
      simp (disch := omega) only [ino, List.length_map, Option.bind_some, hr, hr2, if_true, eq_self, ix64, Bool.false_eq_true, if_false]
      rfl) (by
    unfold i_Space_shared_L1
    dsimp only
    rw [ino (by omega), List.take_of_length_le (by rw [pcl_len]; exact Nat.le_refl _), List.take_of_length_le (by unfold flg; rw [List.length_map, shs_len]; exact Nat.le_refl _)])
  exact hL
def haveF (b : Bls) (x y : List Int) (near : Int) : Option (List Int) := if near = 0 then some [] else ptx b x y near
theorem haveF_ok {b : Bls} {x y hv : List Int} {near : Int} (h : haveF b x y near = some hv) : Pcs b x y hv := by
  unfold haveF at h
  split at h
  · cases h; exact ⟨fun a ha => (by cases ha), List.nodup_nil, by simp⟩
  · exact (ptx_ok h).1
theorem s_shared_eq {b : Bls} {x y z hv : List Int} {near : Int} {t : List UInt8} (g : RS b x y) (h : haveF b x y near = some hv) (ht : t.length ≤ 120) : s_l7Shared b x y z t near = some (shs b hv (cutT 3 t)) := by
  have hp := haveF_ok h
  unfold s_l7Shared
  unfold haveF at h
  by_cases hn : near = 0
  · rw [if_pos hn] at h
    cases h
    rw [ino (by simpa using hn), Option.bind_some]
    dsimp only
    rw [s_cut_eq ht, Option.bind_some, s_shared_loop g hp (cutT_len _ _)]; rfl
  · rw [if_neg hn] at h
    obtain ⟨l', e⟩ := s_pieces_eq (z := z) g near
    rw [h] at e
    rw [iy hn, e, Option.bind_some, Option.bind_some]
    dsimp only
    rw [s_cut_eq ht, Option.bind_some, s_shared_loop g hp (cutT_len _ _)]; rfl
theorem i_shared_eq {b : Bls} {x y z : List Int} {near : Int} {t : List UInt8} (g : RS b x y) (ht : t.length ≤ 120) : i_Space_shared (b, x, y, z) t near =
    some (match haveF b x y near with | some hv => (pcl b (shs b hv (cutT 3 t)) (cutT 3 t), flg (shs b hv (cutT 3 t)), true) | none => ([], [], false)) := by
  unfold i_Space_shared haveF
  by_cases hn : near = 0
  · have hp : Pcs b x y [] := ⟨fun a ha => (by cases ha), List.nodup_nil, by simp⟩
    have e := i_shared_loop hp (ps := cutT 3 t) (cutT_len _ _)
    rw [List.map_nil] at e
    rw [ino (by simpa using hn), Option.bind_some, if_pos hn]
    dsimp only
    rw [i_cut_eq ht, Option.bind_some, e]; rfl
  · have e := i_pieces_eq (z := z) g near
    rw [iy hn, e, Option.bind_some, if_neg hn]
    cases hp : ptx b x y near with
    | none => rfl
    | some hv =>
      dsimp only
      rw [if_neg (by simp), Option.bind_some]
      dsimp only
      rw [i_cut_eq ht, Option.bind_some, i_shared_loop (ptx_ok hp).1 (cutT_len _ _)]; rfl
def zs (l : List Int) : Nat := l.countP fun a => decide (a = 0)
theorem s_needText_eq {b : Bls} {x y z hv : List Int} {near : Int} {t : List UInt8} (g : RS b x y) (h : haveF b x y near = some hv) (ht : t.length ≤ 120) : s_l7NeedText b x y z t near = some ((zs (shs b hv (cutT 3 t)) + 1 : Nat) : Int) := by
  have hl : (shs b hv (cutT 3 t)).length ≤ 3 := by rw [shs_len]; exact cutT_len _ _
  unfold s_l7NeedText
  rw [s_shared_eq g h ht, Option.bind_some]
  generalize shs b hv (cutT 3 t) = l at *
  have hL := loop_run s_l7NeedText_L1 (fun k => (((zs (l.take k) + 1 : Nat) : Int), l, ((l.length : Nat) : Int), ((k : Nat) : Int))) l.length (((zs l + 1 : Nat) : Int)) (fun k hk => by
    have hz : zs (l.take k) ≤ 3 := Nat.le_trans List.countP_le_length (by rw [List.length_take]; omega)
    have e : zs (l.take (k + 1)) = zs (l.take k) + if l[k] = 0 then 1 else 0 := by
      unfold zs
      rw [List.take_succ_eq_append_getElem hk, List.countP_append]
      by_cases h0 : l[k] = 0 <;> simp [h0]
    unfold s_l7NeedText_L1
    dsimp only
    rw [iy (by omega), iy (by omega), iy (by omega), Nat.zero_add, Int.toNat_natCast, List.getElem?_eq_getElem hk, Option.bind_some, e]
    by_cases h0 : l[k] = 0
    · rw [iy h0, Option.bind_some, if_pos h0]
      dsimp only
      rw [ix64 (by omega), ix64 (by omega)]
    · rw [ino h0, Option.bind_some, if_neg h0]
      dsimp only
      rw [ix64 (by omega)]) (by
    unfold s_l7NeedText_L1
    dsimp only
    rw [ino (by omega), List.take_length])
  have hL' : loopG s_l7NeedText_L1 (1, l, ((l.length : Nat) : Int), 0) = _ := hL
  rw [hL']; rfl
end Go.V.G

set_option linter.unusedVariables false
set_option linter.unusedSimpArgs false
set_option maxRecDepth 100000
namespace Go.V.G
open Go.V
theorem Wk.wq {n lz : Nat} {b : Bls} {x z : List Int} (h : Wk n b x z lz) : Wq b x z lz := ⟨by have := h.hn; have := h.hb; omega, h.hx, h.hu, h.hr, h.hz⟩
theorem tk_ok {n lz : Nat} {b : Bls} {x y z : List Int} (h : Wk n b x z lz) (hlz : lz ≤ 1048000) :
    (cnt x n = 0 ∧ i_Space_take_oooo b x y z = some (0, false, b, x, y, z)) ∨
    ∃ k : Nat, (33 ≤ k ∧ k < n) ∧ bit x k = false ∧ s_l5Take_oooo b x y z = some (((k : Nat) : Int), b.set k zeroB, setB x k, y, pt z ((k : Nat) : Int)) ∧
      i_Space_take_oooo b x y z = some (((k : Nat) : Int), true, b.set k zeroB, setB x k, y, pt z ((k : Nat) : Int)) ∧ Wk n (b.set k zeroB) (setB x k) (pt z ((k : Nat) : Int)) (lz + 1) ∧ cnt (setB x k) n + 1 = cnt x n := by
  rcases take_wk (y := y) h hlz with h0 | ⟨k, b', x', z', hk, hs, hi, hw, hc⟩
  · exact .inl h0
  · right
    obtain ⟨r, hr, hq⟩ := take_q (y := y) h.wq hlz
    rw [hs] at hr
    have hr' := Option.some.inj hr
    rcases hq with e | ⟨k2, z2, h1, h2, h3, e⟩
    · rw [e] at hr'
      have := congrArg (·.1) hr'
      dsimp only at this
      omega
    · rw [e] at hr'
      have ek := congrArg (·.1) hr'
      have eb := congrArg (·.2.1) hr'
      have ex := congrArg (·.2.2.1) hr'
      have ez := congrArg (·.2.2.2.2) hr'
      dsimp only at ek eb ex ez
      obtain rfl : k = k2 := by omega
      have e2 : z2 = pt z ((k : Nat) : Int) := by unfold pt; rw [h3]; rfl
      subst eb ex ez
      rw [e2] at hs hi hw
      exact ⟨k, hk, h2, hs, hi, hw, hc⟩
theorem Wk.lay {n lz : Nat} {b : Bls} {x z c : List Int} (h : Wk n b x z lz) (hlz : lz ≤ 1048000) (hc : c.length = 128) (k : Nat) : Wk n (b.set k c) x (pt z ((k : Nat) : Int)) (lz + 1) := by
  have hz := h.hz
  obtain ⟨_, _, h3, h4, _⟩ := pt_eq (z := z) (by omega) h.hr ((k : Nat) : Int)
  exact ⟨h.hn, by rw [List.length_set]; exact h.hb, fun d hd => by
    rcases List.mem_or_eq_of_mem_set hd with hd | rfl
    · exact h.hk d hd
    · exact hc, h.hx, h.hu, h.hlow, h4, by omega⟩
structure Sh (b : Bls) (x y sh : List Int) (ps : List (List UInt8)) : Prop where
  len : sh.length = ps.length
  m3 : ps.length ≤ 3
  pc : ∀ p ∈ ps, 1 ≤ p.length ∧ p.length ≤ 40
  at_ : ∀ j, j < ps.length → sh[j]? = some 0 ∨ ∃ m : Nat, sh[j]? = some ((m : Nat) : Int) ∧ pcB b x y ((m : Nat) : Int) = true ∧ pcTx b ((m : Nat) : Int) = ps[j]?.getD [] ∧ gb (blk b m) 1 < 250
  ne : ∀ (i j : Nat) (v : Int), i < j → sh[i]? = some v → sh[j]? = some v → v = 0
theorem shs_sh {b : Bls} {x y hv : List Int} (hp : Pcs b x y hv) (t : List UInt8) : Sh b x y (shs b hv (cutT 3 t)) (cutT 3 t) := by
  refine ⟨shs_len _ _ _, cutT_len _ _, cutT_piece 3 t, fun j hj => ?_, fun i j v hij hi hj => ?_⟩
  · rw [shs_get b hv hj, List.getElem?_eq_getElem hj, Option.getD_some]
    rcases shr_cases b hv j (cutT 3 t)[j] with h0 | ⟨h1, h2, h3, h4⟩
    · rw [h0]; exact .inl rfl
    · right
      have hpj := hp.all _ (List.getElem_mem h1)
      obtain ⟨m, hm, _⟩ := pcB_nat hpj
      rw [hm, Int.toNat_natCast] at h4
      rw [hm] at h2 h3 hpj
      exact ⟨m, by rw [h2], hpj, h3, h4⟩
  · have hjl : j < (cutT 3 t).length := by
      have := (List.getElem?_eq_some_iff.1 hj).1
      rw [shs_len] at this; exact this
    rw [shs_get b hv (by omega)] at hi
    rw [shs_get b hv hjl] at hj
    have hi' := Option.some.inj hi
    have hj' := Option.some.inj hj
    rcases shr_cases b hv i (cutT 3 t)[i] with h0 | ⟨h1, h2, _⟩
    · rw [h0] at hi'; exact hi'.symm
    · rcases shr_cases b hv j (cutT 3 t)[j] with k0 | ⟨k1, k2, _⟩
      · rw [k0] at hj'; exact hj'.symm
      · rw [h2] at hi'
        rw [k2] at hj'
        exact absurd (hi'.trans hj'.symm) (List.pairwise_iff_getElem.1 hp.nd i j h1 k1 hij)
structure Li (n : Nat) (b : Bls) (x z sh : List Int) (ps : List (List UInt8)) (k : Nat) (A : List Int) (b' : Bls) (x' z' : List Int) (q : Nat) : Prop where
  wk : Wk n b' x' z' q
  bu : ∀ c ∈ b', U8s c
  len : A.length = k
  nd : A.Nodup
  at_ : ∀ j, j < k → ∃ m : Nat, A[j]? = some ((m : Nat) : Int) ∧ (33 ≤ m ∧ m < n) ∧ bit x' m = true ∧
    ((sh[j]? = some 0 ∧ bit x m = false ∧ blk b' m = padB ([83, 1, (((ps[j]?.getD []).length : Nat) : Int)] ++ bytesOf (ps[j]?.getD []))) ∨ (sh[j]? = some ((m : Nat) : Int) ∧ blk b' m = (blk b m).set 1 (gb (blk b m) 1 + 1)))
  oth : ∀ i, i < 160 → ((i : Nat) : Int) ∉ A → blk b' i = blk b i ∧ bit x' i = bit x i
  up : ∀ i, i < 160 → bit x i = true → bit x' i = true
  zm : ∀ v ∈ z', v ∈ z ∨ v ∈ A
  ct : cnt x' n + zs (sh.take k) = cnt x n
theorem Li.mem {n k q : Nat} {b b' : Bls} {x z sh x' z' A : List Int} {ps : List (List UInt8)} (h : Li n b x z sh ps k A b' x' z' q) {a : Int} (ha : a ∈ A) : ∃ j m : Nat, j < k ∧ a = ((m : Nat) : Int) ∧ A[j]? = some ((m : Nat) : Int) ∧ (33 ≤ m ∧ m < n) ∧ bit x' m = true ∧
    ((sh[j]? = some 0 ∧ bit x m = false) ∨ sh[j]? = some ((m : Nat) : Int)) := by
  obtain ⟨j, hj, he⟩ := List.getElem_of_mem ha
  have hl := h.len
  obtain ⟨m, h1, h2, h3, h4⟩ := h.at_ j (by omega)
  rw [List.getElem?_eq_getElem hj] at h1
  have := Option.some.inj h1
  refine ⟨j, m, by omega, by rw [← he, this], by rw [List.getElem?_eq_getElem hj, this], h2, h3, ?_⟩
  rcases h4 with ⟨p1, p2, _⟩ | ⟨p1, _⟩
  · exact .inl ⟨p1, p2⟩
  · exact .inr p1
theorem u8_pad {d : List Int} (h : U8s d) : U8s (padB d) := fun v hv => by
  unfold padB at hv
  rcases List.mem_append.1 hv with hv | hv
  · exact h v hv
  · rw [List.eq_of_mem_replicate hv]; omega
theorem u8_bytes (s : List UInt8) : U8s (bytesOf s) := fun v hv => by
  unfold bytesOf at hv
  obtain ⟨c, _, rfl⟩ := List.mem_map.1 hv
  have := c.toNat_lt
  omega
def npc (p : List UInt8) : List Int := [83, 1, ((p.length : Nat) : Int)] ++ bytesOf p
theorem npc_len (p : List UInt8) : (npc p).length = 3 + p.length := by unfold npc; simp only [List.length_append, List.length_cons, List.length_nil, bytesOf_len2]
theorem npc_u8 {p : List UInt8} (h : p.length ≤ 40) : U8s (npc p) := fun v hv => by
  unfold npc at hv
  rcases List.mem_append.1 hv with hv | hv
  · simp only [List.mem_cons, List.not_mem_nil, or_false] at hv
    rcases hv with rfl | rfl | rfl <;> omega
  · exact u8_bytes p v hv
theorem zs_take {l : List Int} {k : Nat} {a : Int} (h : l[k]? = some a) : zs (l.take (k + 1)) = zs (l.take k) + if a = 0 then 1 else 0 := by
  obtain ⟨hk, he⟩ := List.getElem?_eq_some_iff.1 h
  unfold zs
  rw [List.take_succ_eq_append_getElem hk, List.countP_append, he]
  by_cases h0 : a = 0 <;> simp [h0]
theorem w8d {m : Nat} (h : m < 160) : IntKind.wrap .u8 (IntKind.wrap .i64 (Int.tdiv ((m : Nat) : Int) 256)) = 0 := by
  rw [Int.tdiv_eq_ediv_of_nonneg (by omega), w64 (by omega) (by omega), wub (by omega) (by omega)]; omega
theorem two_eq {m : Nat} (h : m < 160) : i_two ((m : Nat) : Int) = some [0, ((m : Nat) : Int)] := by
  unfold i_two
  rw [iy (by omega), show (2 : Int) ^ (min (Int.toNat 8) (IntKind.bits .i64)) = 256 from rfl, Int.fdiv_eq_ediv_of_nonneg _ (by omega), wub (r := ((m : Nat) : Int)) (by omega) (by omega), wub (by omega) (by omega)]
  have : ((m : Nat) : Int) / 256 = 0 := by omega
  rw [this]
theorem lay_text_step {n k q : Nat} {b b' : Bls} {x y z sh x' z' A acc : List Int} {ps : List (List UInt8)} (g : RS b x y) (hb : b.length = n) (hs : Sh b x y sh ps) (h : Li n b x z sh ps k A b' x' z' q) (hq : q ≤ 1000) (hk : k < ps.length) (hacc : acc.length ≤ 20) :
    (sh[k]? = some 0 ∧ cnt x' n = 0 ∧ i_Space_layText_oooo_L1 (flg sh, acc, pcl b sh ps, ((ps.length : Nat) : Int), ((k : Nat) : Int), b', x', y, z') = some (.inr (.inr (0, false, b', x', y, z')))) ∨
    ∃ (a : Int) (b2 : Bls) (x2 z2 : List Int), Li n b x z sh ps (k + 1) (A ++ [a]) b2 x2 z2 (q + 2) ∧
      s_l7LayText_oooo_L1 (sh, acc, ps, ((ps.length : Nat) : Int), ((k : Nat) : Int), b', x', y, z') = some (.inl (sh, acc ++ [0, a], ps, ((ps.length : Nat) : Int), ((k + 1 : Nat) : Int), b2, x2, y, z2)) ∧
      i_Space_layText_oooo_L1 (flg sh, acc, pcl b sh ps, ((ps.length : Nat) : Int), ((k : Nat) : Int), b', x', y, z') = some (.inl (flg sh, acc ++ [0, a], pcl b sh ps, ((ps.length : Nat) : Int), ((k + 1 : Nat) : Int), b2, x2, y, z2)) := by
  have hn := h.wk.hn
  have hm3 := hs.m3
  have hsl := hs.len
  have hpk := hs.pc _ (List.getElem_mem hk)
  have hgp : ps[k]? = some ps[k] := List.getElem?_eq_getElem hk
  have hb' := h.wk.hb
  have hx' := h.wk.hx
  have hzz := h.wk.hz
  have hr2 : ∀ v w : Int, roomFor (acc.length + ([v, w] : List Int).length) 1 = true := fun v w => by
    simp only [roomFor, decide_eq_true_eq, List.length_cons, List.length_nil]; omega
  rcases hs.at_ k hk with h0 | ⟨m, hm, hpB, htx, h250⟩
  · -- a new piece
    have hpl : (pcl b sh ps)[k]? = some (0, 0, ps[k]) := by rw [pcl_get b sh hk, h0]; rfl
    have hfl : (flg sh)[k]? = some false := by unfold flg; rw [List.getElem?_map, h0]; rfl
    have hfll : (flg sh).length = ps.length := by unfold flg; rw [List.length_map, hsl]
    have hnl := npc_len ps[k]
    rcases tk_ok (y := y) h.wk (by omega) with ⟨hc0, hi0⟩ | ⟨a, ha, hba, hts, hti, hw, hcc⟩
    · refine .inl ⟨h0, hc0, ?_⟩
      unfold i_Space_layText_oooo_L1
      simp (disch := omega) only [iy, Nat.zero_add, Int.toNat_natCast, hpl, hfl, pcl_len, hfll, Option.bind_some, Bool.not_false, if_true, eq_self, hi0]
    · right
      have hset : (b'.set a zeroB).set a (padB (npc ps[k])) = b'.set a (padB (npc ps[k])) := List.set_set ..
      have hab : a < b'.length := by omega
      have hlb : a < (b'.set a zeroB).length := by rw [List.length_set]; exact hab
      have e1 := s_lay_eq (x := setB x' a) (y := y) (d := npc ps[k]) (by omega) hlb (z := pt z' ((a : Nat) : Int)) (by have := hw.hz; omega) hw.hr
      have e2 := i_layPiece_eq (x := setB x' a) (y := y) (s := 1) (t := ps[k]) hpk.2 hlb (z := pt z' ((a : Nat) : Int)) (by have := hw.hz; omega) hw.hr
      rw [wub (r := 1) (by omega) (by omega)] at e2
      rw [hset] at e1
      have e2' : i_Space_layPiece_oooo ((a : Nat) : Int) 1 ps[k] (b'.set a zeroB) (setB x' a) y (pt z' ((a : Nat) : Int)) = some (b'.set a (padB (npc ps[k])), setB x' a, y, pt (pt z' ((a : Nat) : Int)) ((a : Nat) : Int)) := by rw [e2]; exact congrArg (fun w => some (w, _)) hset
      have hroom : roomFor (([83, 1, ((List.length ps[k] : Nat) : Int)] : List Int).length + (bytesOf ps[k]).length) 1 = true := by
        simp only [roomFor, decide_eq_true_eq, List.length_cons, List.length_nil, bytesOf_len2]; omega
      have enp : ([83, 1, ((List.length ps[k] : Nat) : Int)] ++ bytesOf ps[k] : List Int) = npc ps[k] := rfl
      have hnA : ((a : Nat) : Int) ∉ A := fun hh => by
        obtain ⟨j, m, _, hm, _, _, hbm, _⟩ := h.mem hh
        have : a = m := by omega
        subst this
        rw [hba] at hbm; cases hbm
      have hbx : bit x a = false := by
        have := (h.oth a (by omega) hnA).2
        rw [hba] at this; exact this.symm
      have hw2 := hw.lay (by omega) (padB_len (by omega : (npc ps[k]).length ≤ 128)) a
      rw [hset] at hw2
      refine ⟨((a : Nat) : Int), _, _, _, ⟨hw2, ?_, by rw [List.length_append, h.len]; rfl, ?_, ?_, ?_, ?_, ?_, ?_⟩, ?_, ?_⟩
      · intro c hc
        rcases List.mem_or_eq_of_mem_set hc with hc | rfl
        · exact h.bu c hc
        · exact u8_pad (npc_u8 hpk.2)
      · rw [List.nodup_append]
        refine ⟨h.nd, by simp, fun u hu v hv => ?_⟩
        rw [List.mem_singleton.1 hv]
        rintro rfl; exact hnA hu
      · intro j hj
        by_cases hjk : j = k
        · subst hjk
          refine ⟨a, by rw [List.getElem?_append_right (by rw [h.len]; exact Nat.le_refl _), h.len]; simp, ha, by rw [bit_set h.wk.hu (by omega) (by omega)]; simp, .inl ⟨h0, hbx, ?_⟩⟩
          rw [blk_set_eq hab, hgp]; rfl
        · obtain ⟨m, h1, h2, h3, h4⟩ := h.at_ j (by omega)
          have hma : a ≠ m := by
            rintro rfl
            rw [hba] at h3; cases h3
          refine ⟨m, by rw [List.getElem?_append_left (by rw [h.len]; omega), h1], h2, by rw [bit_set h.wk.hu (by omega) (by omega), h3, Bool.or_true], ?_⟩
          rw [blk_set_ne hma]
          exact h4
      · intro i hi hiA
        rw [List.mem_append, List.mem_singleton] at hiA
        have hai : a ≠ i := by rintro rfl; exact hiA (.inr rfl)
        rw [blk_set_ne hai, bit_set h.wk.hu (by omega) (by omega), decide_eq_false (Ne.symm hai), Bool.false_or]
        exact h.oth i hi fun hh => hiA (.inl hh)
      · intro i hi hbi
        rw [bit_set h.wk.hu (by omega) (by omega), h.up i hi hbi, Bool.or_true]
      · intro v hv
        obtain ⟨_, _, _, _, m1⟩ := pt_eq (z := z') (by omega) h.wk.hr ((a : Nat) : Int)
        obtain ⟨_, _, _, _, m2⟩ := pt_eq (z := pt z' ((a : Nat) : Int)) (by have := hw.hz; omega) hw.hr ((a : Nat) : Int)
        rcases (m2 v).1 hv with hv | rfl
        · rcases (m1 v).1 hv with hv | rfl
          · exact (h.zm v hv).imp id fun hh => by simp [hh]
          · exact .inr (by simp)
        · exact .inr (by simp)
      · rw [zs_take h0, if_pos rfl]
        have := h.ct
        omega
      · unfold s_l7LayText_oooo_L1
        simp (disch := omega) only [iy, Nat.zero_add, Int.toNat_natCast, hgp, h0, decide_true, Option.bind_some, hts, hroom, if_true, eq_self, enp, e1, hr2, w8d (m := a) (by omega), wub, ix64]
      · unfold i_Space_layText_oooo_L1
        simp (disch := omega) only [iy, Nat.zero_add, Int.toNat_natCast, hpl, hfl, pcl_len, hfll, Option.bind_some, Bool.not_false, if_true, eq_self, hti, Bool.not_true, Bool.false_eq_true, if_false, w64, Int.zero_add, e2', two_eq (m := a) (by omega), hr2, ix64]
        rfl
  · -- a shared piece
    right
    obtain ⟨m', hm', h33, hmb, hbm, hmy, hg⟩ := pcB_nat hpB
    obtain rfl : m = m' := by omega
    have hpl : (pcl b sh ps)[k]? = some (pcOf b ((m : Nat) : Int)) := by
      rw [pcl_get b sh hk, hm, Option.getD_some]
      unfold pcN
      rw [if_neg (by omega)]
    have hfl : (flg sh)[k]? = some true := by
      unfold flg
      rw [List.getElem?_map, hm, Option.map_some, decide_eq_true (by omega)]
    have hfll : (flg sh).length = ps.length := by unfold flg; rw [List.length_map, hsl]
    have hnA : ((m : Nat) : Int) ∉ A := fun hh => by
      obtain ⟨j, m2, hj, hm2, _, _, _, h4⟩ := h.mem hh
      obtain rfl : m = m2 := by omega
      rcases h4 with ⟨_, h5⟩ | h5
      · rw [hbm] at h5; cases h5
      · have := hs.ne j k _ hj h5 hm
        omega
    have hmn : m < n := by omega
    obtain ⟨hbk, _⟩ := h.oth m (by omega) hnA
    have hmb' : m < b'.length := by omega
    have hc := h.wk.hk _ (blk_mem hmb')
    have hu := h.bu _ (blk_mem hmb')
    have u1 := gb_u8 hu 1
    rw [← hbk] at h250 hg
    have hps := piece_set hc hu hg (gb (blk b' m) 1 + 1)
    have etx : pcTx b ((m : Nat) : Int) = textOf (((blk b' m).drop 3).take (gb (blk b' m) 2).toNat) := by unfold pcTx; rw [Int.toNat_natCast, hbk]
    have e1 := s_lay_eq (x := x') (y := y) (d := (blk b' m).set 1 (gb (blk b' m) 1 + 1)) (by rw [List.length_set]; omega) hmb' (by omega) h.wk.hr
    rw [padB_id (by rw [List.length_set]; exact hc)] at e1
    have e2 := i_layPiece_eq (x := x') (y := y) (s := gb (blk b' m) 1 + 1) (t := pcTx b ((m : Nat) : Int)) (tx_le b hpB) hmb' (z := z') (by omega) h.wk.hr
    rw [wub (r := gb (blk b' m) 1 + 1) (by omega) (by omega), etx, ← hps, ← etx] at e2
    have hw2 := h.wk.lay (by omega) (c := (blk b' m).set 1 (gb (blk b' m) 1 + 1)) (by rw [List.length_set]; exact hc) m
    refine ⟨((m : Nat) : Int), _, _, _, ⟨⟨hw2.hn, hw2.hb, hw2.hk, hw2.hx, hw2.hu, hw2.hlow, hw2.hr, by have := hw2.hz; omega⟩, ?_, by rw [List.length_append, h.len]; rfl, ?_, ?_, ?_, h.up, ?_, ?_⟩, ?_, ?_⟩
    · intro c hc'
      rcases List.mem_or_eq_of_mem_set hc' with hc' | rfl
      · exact h.bu c hc'
      · exact u8_setv hu (by omega)
    · rw [List.nodup_append]
      refine ⟨h.nd, by simp, fun u hu v hv => ?_⟩
      rw [List.mem_singleton.1 hv]
      rintro rfl; exact hnA hu
    · intro j hj
      by_cases hjk : j = k
      · subst hjk
        refine ⟨m, by rw [List.getElem?_append_right (by rw [h.len]; exact Nat.le_refl _), h.len]; simp, ⟨h33, hmn⟩, h.up m (by omega) hbm, .inr ⟨hm, ?_⟩⟩
        rw [blk_set_eq hmb', hbk]
      · obtain ⟨m2, h1, h2, h3, h4⟩ := h.at_ j (by omega)
        have hma : m ≠ m2 := by
          rintro rfl
          exact hnA (List.mem_of_getElem? h1)
        refine ⟨m2, by rw [List.getElem?_append_left (by rw [h.len]; omega), h1], h2, h3, ?_⟩
        rw [blk_set_ne hma]
        exact h4
    · intro i hi hiA
      rw [List.mem_append, List.mem_singleton] at hiA
      have hai : m ≠ i := by rintro rfl; exact hiA (.inr rfl)
      rw [blk_set_ne hai]
      exact h.oth i hi fun hh => hiA (.inl hh)
    · intro v hv
      obtain ⟨_, _, _, _, m1⟩ := pt_eq (z := z') (by omega) h.wk.hr ((m : Nat) : Int)
      rcases (m1 v).1 hv with hv | rfl
      · exact (h.zm v hv).imp id fun hh => by simp [hh]
      · exact .inr (by simp)
    · rw [zs_take hm, if_neg (by omega)]
      exact h.ct
    · have hbs := blk_some hmb'
      have hroom : roomFor (([] : List Int).length + (blk b' m).length) 1 = true := by rw [hc]; rfl
      have hg1 : (blk b' m)[1]? = some (gb (blk b' m) 1) := gb_some (by omega)
      unfold s_l7LayText_oooo_L1
      simp (disch := omega) only [iy, ino, Nat.zero_add, Int.toNat_natCast, hgp, hm, Option.bind_some, hbs, hroom, List.nil_append, show Int.toNat 1 = 1 from rfl, hg1, wub, if_true, eq_self, e1, hr2, w8d (m := m) (by omega), ix64]
    · have e3 : (pcOf b ((m : Nat) : Int)).2.1 = gb (blk b' m) 1 := by rw [hbk]; rfl
      have e4 : (pcOf b ((m : Nat) : Int)).1 = ((m : Nat) : Int) := rfl
      have e5 : (pcOf b ((m : Nat) : Int)).2.2 = pcTx b ((m : Nat) : Int) := rfl
      unfold i_Space_layText_oooo_L1
      simp (disch := omega) only [iy, Nat.zero_add, Int.toNat_natCast, hpl, hfl, pcl_len, hfll, Option.bind_some, if_true, eq_self, Bool.not_true, Bool.false_eq_true, if_false, e3, e4, e5, w64, e2, two_eq (m := m) (by omega), hr2, ix64]
      rfl
end Go.V.G

set_option linter.unusedVariables false
set_option linter.unusedSimpArgs false
set_option maxRecDepth 100000
namespace Go.V.G
open Go.V
def ats (m : Nat) (A : List Int) : List Int := [84, ((m : Nat) : Int)] ++ A.flatMap fun a => [0, a]
theorem ats_len (m : Nat) (A : List Int) : (ats m A).length = 2 + 2 * A.length := by
  unfold ats
  rw [List.length_append, List.length_flatMap]
  have : (A.map fun a => ([0, a] : List Int).length) = A.map fun _ => 2 := rfl
  rw [this]
  have e : ∀ l : List Int, (l.map fun _ => 2).sum = 2 * l.length := fun l => by
    induction l with
    | nil => rfl
    | cons a l ih => rw [List.map_cons, List.sum_cons, ih, List.length_cons]; omega
  rw [e]; rfl
theorem ats_snoc (m : Nat) (A : List Int) (a : Int) : ats m (A ++ [a]) = ats m A ++ [0, a] := by
  unfold ats
  rw [List.flatMap_append, List.append_assoc]; rfl
theorem zs_le {l : List Int} (k : Nat) : zs (l.take k) ≤ zs l := List.Sublist.countP_le (List.take_sublist k l)
theorem lay_text_loop {n q : Nat} {b : Bls} {x y z sh : List Int} {ps : List (List UInt8)} (g : RS b x y) (hb : b.length = n) (hs : Sh b x y sh ps) (hq : q ≤ 900) : ∀ (f k : Nat) (A : List Int) (b' : Bls) (x' z' : List Int), k + f = ps.length →
    Li n b x z sh ps k A b' x' z' (q + 2 * k) →
    (∃ (A' : List Int) (b2 : Bls) (x2 z2 : List Int), Li n b x z sh ps ps.length A' b2 x2 z2 (q + 2 * ps.length) ∧
      loopG s_l7LayText_oooo_L1 (sh, ats ps.length A, ps, ((ps.length : Nat) : Int), ((k : Nat) : Int), b', x', y, z') = some (ats ps.length A', b2, x2, y, z2) ∧
      loopG i_Space_layText_oooo_L1 (flg sh, ats ps.length A, pcl b sh ps, ((ps.length : Nat) : Int), ((k : Nat) : Int), b', x', y, z') = some (.inl (ats ps.length A', b2, x2, y, z2))) ∨
    (cnt x n < zs sh ∧ ∃ (b2 : Bls) (x2 z2 : List Int), loopG i_Space_layText_oooo_L1 (flg sh, ats ps.length A, pcl b sh ps, ((ps.length : Nat) : Int), ((k : Nat) : Int), b', x', y, z') = some (.inr (0, false, b2, x2, y, z2)))
  | 0, k, A, b', x', z', hk, h => by
    obtain rfl : k = ps.length := by omega
    refine .inl ⟨A, b', x', z', h, ?_, ?_⟩
    · have : s_l7LayText_oooo_L1 (sh, ats ps.length A, ps, ((ps.length : Nat) : Int), ((ps.length : Nat) : Int), b', x', y, z') = some (.inr (ats ps.length A, b', x', y, z')) := by
        unfold s_l7LayText_oooo_L1
        dsimp only
        rw [ino (by omega)]
      rw [loopG_eq, this]
    · have : i_Space_layText_oooo_L1 (flg sh, ats ps.length A, pcl b sh ps, ((ps.length : Nat) : Int), ((ps.length : Nat) : Int), b', x', y, z') = some (.inr (.inl (ats ps.length A, b', x', y, z'))) := by
        unfold i_Space_layText_oooo_L1
        dsimp only
        rw [ino (by omega)]
      rw [loopG_eq, this]
  | f + 1, k, A, b', x', z', hk, h => by
    have hm3 := hs.m3
    have hal := ats_len ps.length A
    have hl := h.len
    rcases lay_text_step (acc := ats ps.length A) g hb hs h (by omega) (by omega) (by omega) with ⟨h0, hc, hi⟩ | ⟨a, b2, x2, z2, h1, h2, h3⟩
    · refine .inr ⟨?_, b', x', z', by rw [loopG_eq, hi]⟩
      have e1 := zs_take h0
      rw [if_pos rfl] at e1
      have e2 := zs_le (l := sh) (k + 1)
      have := h.ct
      omega
    · rw [loopG_eq, h2, loopG_eq, h3, ← ats_snoc]
      exact lay_text_loop g hb hs hq f (k + 1) (A ++ [a]) b2 x2 z2 (by omega) h1
structure Lt (n : Nat) (b : Bls) (x z sh : List Int) (ps : List (List UInt8)) (A : List Int) (r : Nat) (b' : Bls) (x' z' : List Int) (q : Nat) : Prop where
  wk : Wk n b' x' z' q
  bu : ∀ c ∈ b', U8s c
  len : A.length = ps.length
  nd : A.Nodup
  rt : (33 ≤ r ∧ r < n) ∧ bit x r = false ∧ bit x' r = true ∧ blk b' r = padB (ats ps.length A) ∧ ((r : Nat) : Int) ∉ A
  at_ : ∀ j, j < ps.length → ∃ m : Nat, A[j]? = some ((m : Nat) : Int) ∧ (33 ≤ m ∧ m < n) ∧ bit x' m = true ∧
    ((sh[j]? = some 0 ∧ bit x m = false ∧ blk b' m = padB (npc (ps[j]?.getD []))) ∨ (sh[j]? = some ((m : Nat) : Int) ∧ blk b' m = (blk b m).set 1 (gb (blk b m) 1 + 1)))
  oth : ∀ i, i < 160 → ((i : Nat) : Int) ∉ A → i ≠ r → blk b' i = blk b i ∧ bit x' i = bit x i
  up : ∀ i, i < 160 → bit x i = true → bit x' i = true
  zm : ∀ v ∈ z', v ∈ z ∨ v ∈ A ∨ v = ((r : Nat) : Int)
  ct : cnt x' n + zs sh + 1 = cnt x n
theorem u8_ats {m : Nat} {A : List Int} (hm : m ≤ 255) (h : ∀ a ∈ A, 0 ≤ a ∧ a ≤ 255) : U8s (ats m A) := fun v hv => by
  unfold ats at hv
  rcases List.mem_append.1 hv with hv | hv
  · simp only [List.mem_cons, List.not_mem_nil, or_false] at hv
    rcases hv with rfl | rfl <;> omega
  · obtain ⟨a, ha, hv⟩ := List.mem_flatMap.1 hv
    simp only [List.mem_cons, List.not_mem_nil, or_false] at hv
    rcases hv with rfl | rfl
    · omega
    · exact h _ ha
theorem GS.wk {b : Bls} {x y z : List Int} (g : GS b x y z) (hu : U8s x) : Wk b.length b x z 127 := by
  obtain ⟨r1, r2⟩ := ris_of g.hz
  have hb := g.hb
  exact ⟨g.hb, rfl, g.hk, g.hx, hu, fun k hk => by
    have := g.hbits k (by omega)
    unfold bG at this
    rw [decide_eq_true hk, decide_eq_false (show ¬ b.length ≤ k by omega)] at this
    simpa using this, r1, ris_len r1 (fun i hi => by have := r2 i hi; omega)⟩
theorem layText_both {b : Bls} {x y z hv : List Int} {near : Int} {t : List UInt8} (g : GS b x y z) (h : SB b x y z) (hu : ∀ c ∈ b, U8s c) (hux : U8s x) (hh : haveF b x y near = some hv) (ht : t.length ≤ 120) :
    (∃ (A : List Int) (r : Nat) (b2 : Bls) (x2 z2 : List Int), Lt b.length b x z (shs b hv (cutT 3 t)) (cutT 3 t) A r b2 x2 z2 200 ∧
      s_l7LayText_oooo t near b x y z = some (((r : Nat) : Int), b2, x2, y, z2) ∧ i_Space_layText_oooo t near b x y z = some (((r : Nat) : Int), true, b2, x2, y, z2)) ∨
    (cnt x b.length < zs (shs b hv (cutT 3 t)) + 1 ∧ ∃ (k : Int) (b2 : Bls) (x2 z2 : List Int), i_Space_layText_oooo t near b x y z = some (k, false, b2, x2, y, z2)) := by
  have rs := g.rs h hu
  have hp := haveF_ok hh
  have hs := shs_sh hp t
  have hm3 := hs.m3
  have e1 := s_shared_eq (z := z) rs hh ht
  have e2 := i_shared_eq (z := z) (near := near) rs ht
  rw [hh] at e2
  have hb := g.hb
  unfold s_l7LayText_oooo i_Space_layText_oooo
  rw [e1, e2, Option.bind_some, Option.bind_some, s_cut_eq ht, Option.bind_some]
  dsimp only
  generalize cutT 3 t = ps at *
  generalize shs b hv ps = sh at *
  have hsl := hs.len
  rw [pcl_len, hsl, wub (r := ((ps.length : Nat) : Int)) (by omega) (by omega)]
  have hL0 : Li b.length b x z sh ps 0 [] b x z (127 + 2 * 0) := ⟨g.wk hux, hu, rfl, List.nodup_nil, fun j hj => absurd hj (by omega), fun i hi _ => ⟨rfl, rfl⟩, fun i hi hb => hb, fun v hv => .inl hv, by simp [zs]⟩
  have hA0 : ([84, ((ps.length : Nat) : Int)] : List Int) = ats ps.length [] := rfl
  rw [hA0]
  have hloop := lay_text_loop rs rfl hs (by omega) ps.length 0 [] b x z (by omega) hL0
  rcases hloop with ⟨A, b2, x2, z2, hLi, h1, h2⟩ | ⟨hlt, b2, x2, z2, h2⟩
  · have h1' : loopG s_l7LayText_oooo_L1 (sh, ats ps.length [], ps, ((ps.length : Nat) : Int), 0, b, x, y, z) = _ := h1
    have h2' : loopG i_Space_layText_oooo_L1 (flg sh, ats ps.length [], pcl b sh ps, ((ps.length : Nat) : Int), 0, b, x, y, z) = _ := h2
    rw [h1', h2', Option.bind_some, Option.bind_some]
    dsimp only
    have hct := hLi.ct
    rw [List.take_of_length_le (by omega)] at hct
    have hal := ats_len ps.length A
    have hAl := hLi.len
    rcases tk_ok (y := y) hLi.wk (by omega) with ⟨hc0, hi0⟩ | ⟨a, ha, hba, hts, hti, hw, hcc⟩
    · right
      refine ⟨by omega, 0, b2, x2, z2, ?_⟩
      rw [hi0]; rfl
    · left
      have hb2 := hLi.wk.hb
      have hx2 := hLi.wk.hx
      have hset : (b2.set a zeroB).set a (padB (ats ps.length A)) = b2.set a (padB (ats ps.length A)) := List.set_set ..
      have hab : a < b2.length := by omega
      have hlb : a < (b2.set a zeroB).length := by rw [List.length_set]; exact hab
      have f1 := s_lay_eq (x := setB x2 a) (y := y) (d := ats ps.length A) (by omega) hlb (z := pt z2 ((a : Nat) : Int)) (by have := hw.hz; omega) hw.hr
      have f2 := i_lay_eq (x := setB x2 a) (y := y) (d := padB (ats ps.length A)) (padB_len (by omega)) hlb (z := pt z2 ((a : Nat) : Int)) (by have := hw.hz; omega) hw.hr
      rw [hset] at f1 f2
      have hnA : ((a : Nat) : Int) ∉ A := fun hh => by
        obtain ⟨j, m, _, hm, _, _, hbm, _⟩ := hLi.mem hh
        obtain rfl : a = m := by omega
        rw [hba] at hbm; cases hbm
      have hbx : bit x a = false := by
        have := (hLi.oth a (by omega) hnA).2
        rw [hba] at this; exact this.symm
      have hw2 := hw.lay (by omega) (padB_len (by omega : (ats ps.length A).length ≤ 128)) a
      rw [hset] at hw2
      have hAu : ∀ v ∈ A, 0 ≤ v ∧ v ≤ 255 := fun v hv => by
        obtain ⟨j, m, _, hm, _, hmn, _⟩ := hLi.mem hv
        omega
      refine ⟨A, a, _, _, _, ⟨⟨hw2.hn, hw2.hb, hw2.hk, hw2.hx, hw2.hu, hw2.hlow, hw2.hr, by have := hw2.hz; omega⟩, ?_, hAl, hLi.nd, ⟨ha, hbx, ?_, blk_set_eq hab, hnA⟩, ?_, ?_, ?_, ?_, by omega⟩, ?_, ?_⟩
      · intro c hc
        rcases List.mem_or_eq_of_mem_set hc with hc | rfl
        · exact hLi.bu c hc
        · exact u8_pad (u8_ats (by omega) hAu)
      · rw [bit_set hLi.wk.hu (by omega) (by omega)]; simp
      · intro j hj
        obtain ⟨m, p1, p2, p3, p4⟩ := hLi.at_ j hj
        have hma : a ≠ m := by
          rintro rfl
          rw [hba] at p3; cases p3
        refine ⟨m, p1, p2, by rw [bit_set hLi.wk.hu (by omega) (by omega), p3, Bool.or_true], ?_⟩
        rw [blk_set_ne hma]
        exact p4
      · intro i hi hiA hia
        rw [blk_set_ne (Ne.symm hia), bit_set hLi.wk.hu (by omega) (by omega), decide_eq_false hia, Bool.false_or]
        exact hLi.oth i hi hiA
      · intro i hi hbi
        rw [bit_set hLi.wk.hu (by omega) (by omega), hLi.up i hi hbi, Bool.or_true]
      · intro v hv
        obtain ⟨_, _, _, _, m1⟩ := pt_eq (z := z2) (by have := hLi.wk.hz; omega) hLi.wk.hr ((a : Nat) : Int)
        obtain ⟨_, _, _, _, m2⟩ := pt_eq (z := pt z2 ((a : Nat) : Int)) (by have := hw.hz; omega) hw.hr ((a : Nat) : Int)
        rcases (m2 v).1 hv with hv | rfl
        · rcases (m1 v).1 hv with hv | rfl
          · exact (hLi.zm v hv).imp id .inl
          · exact .inr (.inr rfl)
        · exact .inr (.inr rfl)
      · rw [hts, Option.bind_some]
        dsimp only
        rw [f1]; rfl
      · rw [hti, Option.bind_some]
        dsimp only
        rw [if_neg (by simp), i_padded_eq (by omega), Option.bind_some, f2]; rfl
  · right
    have h2' : loopG i_Space_layText_oooo_L1 (flg sh, ats ps.length [], pcl b sh ps, ((ps.length : Nat) : Int), 0, b, x, y, z) = _ := h2
    exact ⟨by omega, 0, b2, x2, z2, by rw [h2']; rfl⟩
theorem w_le {b : Bls} {x y z : List Int} (hb : b.length ≤ 160) (hk : ∀ c ∈ b, c.length = 128) (hx : x.length = 20) (hy : y.length ≤ 1048576) (hz : z.length ≤ 1000) : w_Space b x y z ≤ 10000000 := by
  have hw : ∀ l : Bls, (∀ c ∈ l, c.length = 128) → wsum w_ByteS l = l.length * 128 := by
    intro l
    induction l with
    | nil => intro _; rfl
    | cons c l ih =>
      intro hh
      simp only [wsum, List.length_cons]
      rw [ih (fun d hd => hh d (by simp [hd]))]
      have e : w_ByteS c = c.length := rfl
      rw [e, hh c (by simp)]; omega
  have h1 := hw b hk
  unfold w_Space w_ByteSS w_ByteS w_IntS
  unfold w_ByteS at h1
  rw [h1]; omega
def canF (b : Bls) (x y z : List Int) (t : List UInt8) (near : Int) : Bool := gsp b x y z && (decide (t.length ≤ 120) && (haveF b x y near).isSome)
theorem s_near_eq {b : Bls} {x y z : List Int} {t : List UInt8} {near : Int} (h : SB b x y z) (hu : ∀ c ∈ b, U8s c) : s_l7Near b x y z t near = some (canF b x y z t near) := by
  unfold s_l7Near canF
  rw [s_GoodSpace_eq h, Option.bind_some]
  cases hg : gsp b x y z with
  | false => rfl
  | true =>
    have rs := (gs_of hg).rs h hu
    rw [if_neg (by simp), Option.bind_some]
    dsimp only
    by_cases ht : t.length ≤ 120
    · obtain ⟨l', e⟩ := s_pieces_eq (z := z) rs near
      rw [ino (by omega), e, Option.bind_some, decide_eq_true ht]
      unfold haveF
      by_cases hn : near = 0
      · rw [iy hn, if_pos hn]; rfl
      · rw [ino hn, if_neg hn]
        cases ptx b x y near <;> rfl
    · rw [iy (by omega), decide_eq_false ht]; rfl
theorem i_canLay_eq {b : Bls} {x y z : List Int} {t : List UInt8} {near : Int} (h : SB b x y z) (hu : ∀ c ∈ b, U8s c) : i_canLay b x y z t near = some (canF b x y z t near) := by
  unfold i_canLay canF
  rw [i_GoodSpace_eq h, Option.bind_some]
  cases hg : gsp b x y z with
  | false => rfl
  | true =>
    have rs := (gs_of hg).rs h hu
    rw [if_neg (by simp), Option.bind_some]
    dsimp only
    by_cases ht : t.length ≤ 120
    · rw [ino (by omega), i_shared_eq rs ht, Option.bind_some, decide_eq_true ht]
      cases haveF b x y near <;> rfl
    · rw [iy (by omega), decide_eq_false ht]; rfl
theorem layText_eq' {b : Bls} {x y z : List Int} {t : List UInt8} {near : Int} (h : SB b x y z) (hu : ∀ c ∈ b, U8s c) (hux : U8s x) :
    (s_LayText b x y z t near = some (0, false, [], [], [], []) ∧ i_LayText b x y z t near = some (0, false, [], [], [], [])) ∨
    ∃ (hv A : List Int) (r : Nat) (b2 : Bls) (x2 z2 : List Int), GS b x y z ∧ haveF b x y near = some hv ∧ t.length ≤ 120 ∧ Lt b.length b x z (shs b hv (cutT 3 t)) (cutT 3 t) A r b2 x2 z2 200 ∧
      s_LayText b x y z t near = some (((r : Nat) : Int), true, b2, x2, y, z2) ∧ i_LayText b x y z t near = some (((r : Nat) : Int), true, b2, x2, y, z2) := by
  unfold s_LayText i_LayText
  rw [s_near_eq h hu, i_canLay_eq h hu, Option.bind_some, Option.bind_some]
  cases hc : canF b x y z t near with
  | false => exact .inl ⟨rfl, rfl⟩
  | true =>
    unfold canF at hc
    simp only [Bool.and_eq_true, decide_eq_true_eq] at hc
    obtain ⟨hg, ht, hh⟩ := hc
    obtain ⟨hv, hh⟩ := Option.isSome_iff_exists.1 hh
    have g := gs_of hg
    have hb := g.hb
    rw [if_neg (by simp), if_neg (by simp), s_free_cnt hb.2 g.hx, Option.bind_some, s_needText_eq (g.rs h hu) hh ht, Option.bind_some, Option.bind_some, i_copiedS_eq g h, Option.bind_some]
    dsimp only
    rcases layText_both g h hu hux hh ht with ⟨A, r, b2, x2, z2, hL, h1, h2⟩ | ⟨hlt, k, b2, x2, z2, h2⟩
    · right
      refine ⟨hv, A, r, b2, x2, z2, g, hh, ht, hL, ?_, ?_⟩
      · have := hL.ct
        rw [ino (by omega), s_ownS_eq g h, Option.bind_some]
        dsimp only
        rw [h1]; rfl
      · rw [h2]; rfl
    · left
      refine ⟨?_, ?_⟩
      · rw [iy (by omega)]
      · rw [h2]; rfl
theorem layText_eq {b : Bls} {x y z : List Int} {t : List UInt8} {near : Int} (h : SB b x y z) (hu : ∀ c ∈ b, U8s c) (hux : U8s x) : ∃ r : Int × (Bool × (Bls × (List Int × (List Int × List Int)))), s_LayText b x y z t near = some r ∧ i_LayText b x y z t near = some r ∧
    (w_Space r.2.2.1 r.2.2.2.1 r.2.2.2.2.1 r.2.2.2.2.2 ≤ 10000000) := by
  rcases layText_eq' (t := t) (near := near) h hu hux with ⟨h1, h2⟩ | ⟨hv, A, r, b2, x2, z2, g, _, _, hL, h1, h2⟩
  · exact ⟨_, h1, h2, by decide⟩
  · have hb := g.hb
    exact ⟨_, h1, h2, w_le (by rw [hL.wk.hb]; exact hb.2) hL.wk.hk hL.wk.hx h.y (by have := hL.wk.hz; dsimp only; omega)⟩
end Go.V.G

namespace Go.V
theorem add_blk (g off n : Nat) : (⟨g, off, none⟩ : Addr).add n = ⟨g, off + n, none⟩ := by
  unfold Addr.add; split
  · subst_vars; rfl
  · rfl
theorem add_add (a : Addr) (i j : Nat) : (a.add i).add j = a.add (i + j) := by
  unfold Addr.add
  by_cases hi : i = 0
  · subst hi; simp
  · by_cases hj : j = 0
    · subst hj; simp [hi]
    · have : ¬ (i + j = 0) := by omega
      simp only [hi, hj, this, if_false]
      congr 1; omega
theorem cell_blk {w : World} {g : Nat} {cs : Array Value} {e : TypeId} {fr : Nat × Nat} (h : w.heap[g]? = some (.cells cs e fr)) (i : Nat) : w.cell? ⟨g, i, none⟩ = cs[i]? := by
  unfold World.cell?; rw [h]; rfl
theorem frozen_blk {w : World} {g : Nat} {cs : Array Value} {e : TypeId} {fr : Nat × Nat} (h : w.heap[g]? = some (.cells cs e fr)) (hf : ∀ i, i < cs.size → ¬ (fr.1 ≤ i ∧ i < fr.2)) {i : Nat} (hi : i < cs.size) : w.frozen? ⟨g, i, none⟩ = false := by
  unfold World.frozen?; rw [h]
  have := hf i hi
  simp only [Bool.and_eq_false_iff, decide_eq_false_iff_not]
  omega
theorem setCell_blk {w : World} {g : Nat} {cs : Array Value} {e : TypeId} {fr : Nat × Nat} (h : w.heap[g]? = some (.cells cs e fr)) (i : Nat) (v : Value) :
    (w.setCell ⟨g, i, none⟩ v).heap[g]? = some (.cells (cs.setIfInBounds i v) e fr) := by
  simp only [World.setCell, Array.getElem?_modify, if_true, h, Option.map_some]
  rfl
theorem lt_size {w : World} {g : Nat} {o : Obj} (h : w.heap[g]? = some o) : g < w.heap.size := (Array.getElem?_eq_some_iff.1 h).1
def RpL {α : Type} (p : α → List Value → List Nat → Prop) : List α → List Value → List Nat → Prop
  | [], vs, F => vs = [] ∧ F = []
  | x :: xs, vs, F => ∃ v1 v2 F1 F2, vs = v1 ++ v2 ∧ F = F1 ++ F2 ∧ p x v1 F1 ∧ RpL p xs v2 F2
def NF (fr : Nat × Nat) (n : Nat) : Prop := ∀ i, i < n → ¬ (fr.1 ≤ i ∧ i < fr.2)
structure NFt (r : Ty) (fr : Nat × Nat) (n : Nat) : Prop where
  nf : NF fr n
  at' : r ≠ .int .u8 → ¬ (fr.1 ≤ n ∧ n < fr.2)
  le : r = .int .i64 → n ≤ 9223372036854775807
theorem NFt.zero (r : Ty) {n : Nat} (h : r = .int .i64 → n ≤ 9223372036854775807) : NFt r (0, 0) n := ⟨fun i _ hx => by simp at hx, fun _ hx => by simp at hx, h⟩
def Rp (w : World) (K : Nat → Prop) : (t : Ty) → t.D → List Value → List Nat → Prop
  | .int k, n, vs, F => vs = [.int k n] ∧ F = []
  | .bool, b, vs, F => vs = [.bool b] ∧ F = []
  | .str, s, vs, F => vs = [.string ⟨s.toArray⟩] ∧ F = []
  | .unit, _, vs, F => vs = [] ∧ F = []
  | .pair a b, x, vs, F => ∃ v1 v2 F1 F2, vs = v1 ++ v2 ∧ F = F1 ++ F2 ∧ Rp w K a x.1 v1 F1 ∧ Rp w K b x.2 v2 F2
  | .sl true e r, xs, vs, F => (xs = [] ∧ F = [] ∧ vs = [.slice none 0 0]) ∨
      ∃ g off c cs fr F', vs = [.slice (some ⟨g, off, none⟩) (List.length xs) c] ∧ F = g :: F' ∧ w.heap[g]? = some (.cells cs e fr) ∧ NFt r fr cs.size ∧
        off + c * r.size ≤ cs.size ∧ List.length xs ≤ c ∧ RpL (Rp w K r) xs ((cs.toList.drop off).take (List.length xs * r.size)) F'
  | .sl false _ r, xs, vs, F => F = [] ∧ ∃ A c ws, vs = [.slice A (List.length xs) c] ∧ List.length xs ≤ c ∧ RpL (Rp w K r) xs ws [] ∧
      (xs = [] ∨ ∃ ad, A = some ad ∧ K ad.block ∧ ad.block < w.heap.size ∧ ∀ j, j < ws.length → w.cell? (ad.add j) = ws[j]?)
section
variable {α : Type} {p q : α → List Value → List Nat → Prop}
theorem RpL.mono (h : ∀ x vs F, p x vs F → q x vs F) : ∀ {xs : List α} {vs F}, RpL p xs vs F → RpL q xs vs F
  | [], _, _, hx => hx
  | _ :: _, _, _, ⟨v1, v2, F1, F2, e1, e2, h1, h2⟩ => ⟨v1, v2, F1, F2, e1, e2, h _ _ _ h1, RpL.mono h h2⟩
theorem RpL.len {n : Nat} (h : ∀ x vs F, p x vs F → vs.length = n) : ∀ {xs : List α} {vs F}, RpL p xs vs F → vs.length = xs.length * n
  | [], _, _, ⟨e, _⟩ => by subst e; simp
  | x :: xs, _, _, ⟨v1, v2, F1, F2, e1, _, h1, h2⟩ => by
    have a := h _ _ _ h1; have b := RpL.len h h2
    subst e1
    simp only [List.length_append, List.length_cons, a, b, Nat.succ_mul]; omega
theorem RpL.append : ∀ {xs ys : List α} {vs ws F G}, RpL p xs vs F → RpL p ys ws G → RpL p (xs ++ ys) (vs ++ ws) (F ++ G)
  | [], _, _, _, _, _, ⟨e1, e2⟩, h => by subst e1 e2; exact h
  | _ :: _, _, _, _, _, _, ⟨v1, v2, F1, F2, e1, e2, h1, h2⟩, h => by
    subst e1 e2
    exact ⟨v1, _, F1, _, List.append_assoc .., List.append_assoc .., h1, RpL.append h2 h⟩
theorem RpL.split : ∀ {xs ys : List α} {vs F}, RpL p (xs ++ ys) vs F → ∃ v1 v2 F1 F2, vs = v1 ++ v2 ∧ F = F1 ++ F2 ∧ RpL p xs v1 F1 ∧ RpL p ys v2 F2
  | [], _, vs, F, h => ⟨[], vs, [], F, rfl, rfl, ⟨rfl, rfl⟩, h⟩
  | _ :: _, _, _, _, ⟨v1, v2, F1, F2, e1, e2, h1, h2⟩ => by
    obtain ⟨a, b, c, d, e3, e4, h3, h4⟩ := RpL.split h2
    subst e1 e2 e3 e4
    exact ⟨v1 ++ a, b, F1 ++ c, d, (List.append_assoc ..).symm, (List.append_assoc ..).symm, ⟨v1, a, F1, c, rfl, rfl, h1, h3⟩, h4⟩
theorem RpL.get {n : Nat} (hn : ∀ x vs F, p x vs F → vs.length = n) : ∀ {xs : List α} {vs F} {i : Nat} {x : α}, RpL p xs vs F → xs[i]? = some x →
    ∃ v1 v v2 F1 G F2, vs = v1 ++ (v ++ v2) ∧ v1.length = i * n ∧ F = F1 ++ (G ++ F2) ∧ p x v G ∧
      RpL p (xs.take i) v1 F1 ∧ RpL p (xs.drop (i + 1)) v2 F2
  | [], _, _, i, _, _, hi => by simp at hi
  | y :: ys, _, _, 0, x, ⟨v1, v2, F1, F2, e1, e2, h1, h2⟩, hi => by
    simp only [List.getElem?_cons_zero, Option.some.injEq] at hi
    subst hi e1 e2
    exact ⟨[], v1, v2, [], F1, F2, rfl, by simp, rfl, h1, ⟨rfl, rfl⟩, h2⟩
  | y :: ys, _, _, i + 1, x, ⟨v1, v2, F1, F2, e1, e2, h1, h2⟩, hi => by
    simp only [List.getElem?_cons_succ] at hi
    obtain ⟨a, v, b, G1, G, G2, e3, hl, e4, hp, ht, hd⟩ := RpL.get hn h2 hi
    subst e1 e2 e3 e4
    refine ⟨v1 ++ a, v, b, F1 ++ G1, G, G2, by simp, ?_, by simp, hp, ⟨v1, a, F1, G1, rfl, rfl, h1, ht⟩, by simpa using hd⟩
    rw [List.length_append, hn _ _ _ h1, hl, Nat.succ_mul]; omega
theorem RpL.set {xs : List α} {i : Nat} {x y : α} (hi : xs[i]? = some x) {v1 v2 v F1 F2 G} (ht : RpL p (xs.take i) v1 F1) (hd : RpL p (xs.drop (i + 1)) v2 F2) (hy : p y v G) :
    RpL p (xs.set i y) (v1 ++ (v ++ v2)) (F1 ++ (G ++ F2)) := by
  have hlt : i < xs.length := (List.getElem?_eq_some_iff.1 hi).1
  rw [List.set_eq_take_append_cons_drop, if_pos hlt]
  exact RpL.append ht ⟨v, v2, G, F2, rfl, rfl, hy, hd⟩
end
theorem Rp.len {w : World} {K : Nat → Prop} : ∀ (t : Ty) (x : t.D) {vs F}, Rp w K t x vs F → vs.length = t.size
  | .int _, _, _, _, h => by simp only [Rp] at h; simp [h.1, Ty.size]
  | .bool, _, _, _, h => by simp only [Rp] at h; simp [h.1, Ty.size]
  | .str, _, _, _, h => by simp only [Rp] at h; simp [h.1, Ty.size]
  | .unit, _, _, _, h => by simp only [Rp] at h; simp [h.1, Ty.size]
  | .pair a b, x, _, _, h => by
    simp only [Rp] at h
    obtain ⟨v1, v2, F1, F2, rfl, _, h1, h2⟩ := h
    simp [Ty.size, Rp.len a _ h1, Rp.len b _ h2]
  | .sl true _ r, _, _, _, h => by
    simp only [Rp] at h
    rcases h with ⟨_, _, rfl⟩ | ⟨g, off, c, cs, fr, F', rfl, _⟩ <;> simp [Ty.size]
  | .sl false _ r, _, _, _, h => by
    simp only [Rp] at h
    obtain ⟨_, A, c, ws, rfl, _⟩ := h
    simp [Ty.size]
def Same (w w' : World) (F : List Nat) : Prop := ∀ g ∈ F, w'.heap[g]? = w.heap[g]?
def KSame (w w' : World) (K K' : Nat → Prop) : Prop := w.heap.size ≤ w'.heap.size ∧ ∀ g, K g → g < w.heap.size → w'.heap[g]? = w.heap[g]? ∧ K' g
theorem KSame.refl (w : World) (K : Nat → Prop) : KSame w w K K := ⟨Nat.le_refl _, fun _ h _ => ⟨rfl, h⟩⟩
theorem cell_same {w w' : World} {a : Addr} (h : w'.heap[a.block]? = w.heap[a.block]?) : w'.cell? a = w.cell? a := by
  unfold World.cell?; rw [h]
theorem add_block (a : Addr) (n : Nat) : (a.add n).block = a.block := by unfold Addr.add; split <;> rfl
theorem Rp.frame {w w' : World} {K K' : Nat → Prop} (hK : KSame w w' K K') : ∀ (t : Ty) (x : t.D) {vs F}, Rp w K t x vs F → Same w w' F → Rp w' K' t x vs F
  | .int _, _, _, _, h, _ => by simp only [Rp] at h ⊢; exact h
  | .bool, _, _, _, h, _ => by simp only [Rp] at h ⊢; exact h
  | .str, _, _, _, h, _ => by simp only [Rp] at h ⊢; exact h
  | .unit, _, _, _, h, _ => by simp only [Rp] at h ⊢; exact h
  | .pair a b, x, _, _, h, hF => by
    simp only [Rp] at h ⊢
    obtain ⟨v1, v2, F1, F2, rfl, rfl, h1, h2⟩ := h
    exact ⟨v1, v2, F1, F2, rfl, rfl, Rp.frame hK a _ h1 fun g hg => hF g (by simp [hg]), Rp.frame hK b _ h2 fun g hg => hF g (by simp [hg])⟩
  | .sl true _ r, xs, _, _, h, hF => by
    simp only [Rp] at h ⊢
    rcases h with h | ⟨g, off, c, cs, fr, F', rfl, rfl, hh, hn, hc, hl, hr⟩
    · exact .inl h
    · refine .inr ⟨g, off, c, cs, fr, F', rfl, rfl, by rw [hF g (by simp)]; exact hh, hn, hc, hl, ?_⟩
      have key : ∀ (ys : List r.D) (us : List Value) (G : List Nat), Same w w' G → RpL (Rp w K r) ys us G → RpL (Rp w' K' r) ys us G := by
        intro ys
        induction ys with
        | nil => intro us G _ h; exact h
        | cons y ys ih =>
          rintro us G hG ⟨v1, v2, F1, F2, rfl, rfl, h1, h2⟩
          exact ⟨v1, v2, F1, F2, rfl, rfl, Rp.frame hK r y h1 fun g hg => hG g (by simp [hg]), ih _ _ (fun g hg => hG g (by simp [hg])) h2⟩
      exact key _ _ _ (fun g hg => hF g (by simp [hg])) hr
  | .sl false _ r, xs, _, _, h, _ => by
    simp only [Rp] at h ⊢
    obtain ⟨rfl, A, c, ws, rfl, hle, hr, hx⟩ := h
    refine ⟨rfl, A, c, ws, rfl, hle, ?_, ?_⟩
    · have key : ∀ (ys : List r.D) (us : List Value) (G : List Nat), Same w w' G → RpL (Rp w K r) ys us G → RpL (Rp w' K' r) ys us G := by
        intro ys
        induction ys with
        | nil => intro us G _ h; exact h
        | cons y ys ih =>
          rintro us G hG ⟨v1, v2, F1, F2, rfl, rfl, h1, h2⟩
          exact ⟨v1, v2, F1, F2, rfl, rfl, Rp.frame hK r y h1 fun g hg => hG g (by simp [hg]), ih _ _ (fun g hg => hG g (by simp [hg])) h2⟩
      exact key _ _ _ (fun g hg => by cases hg) hr
    · rcases hx with hx | ⟨ad, e, h1, h2, h3⟩
      · exact .inl hx
      · obtain ⟨h4, h5⟩ := hK.2 _ h1 h2
        exact .inr ⟨ad, e, h5, Nat.lt_of_lt_of_le h2 hK.1, fun j hj => (cell_same (w := w) (w' := w') (a := ad.add j) (by rw [add_block]; exact h4)).trans (h3 j hj)⟩
theorem RpL.frame {w w' : World} {K K' : Nat → Prop} (hK : KSame w w' K K') (r : Ty) : ∀ (ys : List r.D) (us : List Value) (G : List Nat), Same w w' G → RpL (Rp w K r) ys us G → RpL (Rp w' K' r) ys us G := by
  intro ys
  induction ys with
  | nil => intro us G _ h; exact h
  | cons y ys ih =>
    rintro us G hG ⟨v1, v2, F1, F2, rfl, rfl, h1, h2⟩
    exact ⟨v1, v2, F1, F2, rfl, rfl, Rp.frame hK r y h1 fun g hg => hG g (by simp [hg]), ih _ _ (fun g hg => hG g (by simp [hg])) h2⟩
theorem leaf_cell {w : World} {K : Nat → Prop} {t : Ty} {x : t.D} {vs F} (hs : t.size = 1) (h : Rp w K t x vs F) : ∃ v, vs = [v] := by
  have := Rp.len t x h
  rw [hs] at this
  match vs, this with
  | [v], _ => exact ⟨v, rfl⟩
theorem setCell_leaf {t : Ty} {x z : t.D} (hp : ∀ a b, t ≠ .pair a b) (hu : t ≠ .unit) {u : Ty} {zz : u.D} {y : t.D} (h : setCell t x 0 u zz = some y) : ∃ e : u = t, y = e ▸ zz := by
  cases t with
  | pair a b => exact absurd rfl (hp a b)
  | unit => exact absurd rfl hu
  | _ => simp only [setCell] at h; split at h <;> simp_all
theorem Rp.cell {w : World} {K : Nat → Prop} : ∀ (t : Ty) (x : t.D) (j : Nat) {c : (u : Ty) × u.D} {vs F}, Rp w K t x vs F → cellAt t x j = some c →
    ∃ pre v post Fa G Fb, vs = pre ++ ([v] ++ post) ∧ pre.length = j ∧ F = Fa ++ (G ++ Fb) ∧ Rp w K c.1 c.2 [v] G ∧
      ∀ (w' : World) (K' : Nat → Prop) (y : c.1.D) (v' : Value) (G' : List Nat) (x' : t.D), setCell t x j c.1 y = some x' → Rp w' K' c.1 y [v'] G' → KSame w w' K K' →
        Same w w' Fa → Same w w' Fb → Rp w' K' t x' (pre ++ ([v'] ++ post)) (Fa ++ (G' ++ Fb))
  | .pair a b, (x, y), j, c, vs, F, h, hc => by
    simp only [Rp] at h
    obtain ⟨v1, v2, F1, F2, rfl, rfl, h1, h2⟩ := h
    have l1 := Rp.len a _ h1
    simp only [cellAt] at hc
    split at hc
    · rename_i hj
      obtain ⟨pre, v, post, Fa, G, Fb, rfl, hl, rfl, hv, hset⟩ := Rp.cell a x j h1 hc
      refine ⟨pre, v, post ++ v2, Fa, G, Fb ++ F2, by simp, hl, by simp, hv, ?_⟩
      intro w' K' z v' G' x' hs hz hK sa sb
      simp only [setCell, if_pos hj, Option.map_eq_some_iff] at hs
      obtain ⟨xa, hxa, rfl⟩ := hs
      simp only [Rp]
      refine ⟨pre ++ ([v'] ++ post), v2, Fa ++ (G' ++ Fb), F2, by simp, by simp, hset w' K' z v' G' xa hxa hz hK sa (fun g hg => sb g (by simp [hg])), ?_⟩
      exact Rp.frame hK b _ h2 fun g hg => sb g (by simp [hg])
    · rename_i hj
      obtain ⟨pre, v, post, Fa, G, Fb, rfl, hl, rfl, hv, hset⟩ := Rp.cell b y _ h2 hc
      refine ⟨v1 ++ pre, v, post, F1 ++ Fa, G, Fb, by simp, by rw [List.length_append]; omega, by simp, hv, ?_⟩
      intro w' K' z v' G' x' hs hz hK sa sb
      simp only [setCell, if_neg hj, Option.map_eq_some_iff] at hs
      obtain ⟨xb, hxb, rfl⟩ := hs
      simp only [Rp]
      refine ⟨v1, pre ++ ([v'] ++ post), F1, Fa ++ (G' ++ Fb), by simp, by simp, ?_, hset w' K' z v' G' xb hxb hz hK (fun g hg => sa g (by simp [hg])) sb⟩
      exact Rp.frame hK a _ h1 fun g hg => sa g (by simp [hg])
  | .unit, _, _, _, _, _, _, hc => by simp [cellAt] at hc
  | .int k, x, j, c, vs, F, h, hc => leafCase (fun _ _ => by simp) (by simp) rfl h hc (by cases j <;> simp [cellAt] at hc ⊢)
  | .bool, x, j, c, vs, F, h, hc => leafCase (fun _ _ => by simp) (by simp) rfl h hc (by cases j <;> simp [cellAt] at hc ⊢)
  | .str, x, j, c, vs, F, h, hc => leafCase (fun _ _ => by simp) (by simp) rfl h hc (by cases j <;> simp [cellAt] at hc ⊢)
  | .sl o e r, x, j, c, vs, F, h, hc => leafCase (fun _ _ => by simp) (by simp) rfl h hc (by cases j <;> simp [cellAt] at hc ⊢)
where
  leafCase {w : World} {K : Nat → Prop} {t : Ty} {x : t.D} {j : Nat} {c : (u : Ty) × u.D} {vs F} (hp : ∀ a b, t ≠ .pair a b) (hu : t ≠ .unit) (hs : t.size = 1)
      (h : Rp w K t x vs F) (hc : cellAt t x j = some c) (hj : j = 0) :
      ∃ pre v post Fa G Fb, vs = pre ++ ([v] ++ post) ∧ pre.length = j ∧ F = Fa ++ (G ++ Fb) ∧ Rp w K c.1 c.2 [v] G ∧
        ∀ (w' : World) (K' : Nat → Prop) (y : c.1.D) (v' : Value) (G' : List Nat) (x' : t.D), setCell t x j c.1 y = some x' → Rp w' K' c.1 y [v'] G' → KSame w w' K K' →
          Same w w' Fa → Same w w' Fb → Rp w' K' t x' (pre ++ ([v'] ++ post)) (Fa ++ (G' ++ Fb)) := by
    subst hj
    have hct : c = ⟨t, x⟩ := by
      cases t with
      | pair a b => exact absurd rfl (hp a b)
      | unit => exact absurd rfl hu
      | _ => simp only [cellAt, Option.some.injEq] at hc; exact hc.symm
    subst hct
    obtain ⟨v, rfl⟩ := leaf_cell hs h
    refine ⟨[], v, [], [], F, [], by simp, rfl, by simp, h, ?_⟩
    intro w' K' y v' G' x' hset hy _ _ _
    obtain ⟨e, rfl⟩ := setCell_leaf (z := x) hp hu hset
    simpa using hy
def adr (w : World) (h : Value) : Ty → Steps → Option Addr
  | .sl _ _ r, (i, j) :: ps => match h with
    | .slice (some a) _ _ => match ps with
      | [] => some (a.add (i * r.size + j))
      | p :: ps => match w.cell? (a.add (i * r.size + j)), cty r j with
        | some h', some t' => adr w h' t' (p :: ps)
        | _, _ => none
    | _ => none
  | _, _ => none
where
  cty : Ty → Nat → Option Ty
    | .pair a b, j => if j < a.size then cty a j else cty b (j - a.size)
    | .unit, _ => none
    | t, 0 => some t
    | _, _ + 1 => none
def hdr (w : World) (h : Value) (t : Ty) : Steps → Option Value
  | [] => some h
  | st => match adr w h t st with
    | some a => w.cell? a
    | none => none
theorem cty_cell : ∀ (t : Ty) (x : t.D) (j : Nat) {c}, cellAt t x j = some c → adr.cty t j = some c.1
  | .pair a b, (x, y), j, c, h => by
    simp only [cellAt] at h; simp only [adr.cty]
    split at h
    · rename_i hj; rw [if_pos hj]; exact cty_cell a x j h
    · rename_i hj; rw [if_neg hj]; exact cty_cell b y _ h
  | .unit, _, _, _, h => by simp [cellAt] at h
  | .int _, _, 0, _, h => by simp only [cellAt, Option.some.injEq] at h; subst h; rfl
  | .bool, _, 0, _, h => by simp only [cellAt, Option.some.injEq] at h; subst h; rfl
  | .str, _, 0, _, h => by simp only [cellAt, Option.some.injEq] at h; subst h; rfl
  | .sl _ _ _, _, 0, _, h => by simp only [cellAt, Option.some.injEq] at h; subst h; rfl
  | .int _, _, _ + 1, _, h => by simp [cellAt] at h
  | .bool, _, _ + 1, _, h => by simp [cellAt] at h
  | .str, _, _ + 1, _, h => by simp [cellAt] at h
  | .sl _ _ _, _, _ + 1, _, h => by simp [cellAt] at h
theorem run_get {α β : Type} (o : Option β) (f : β → Tr α) : (Tr.get β o f).run = o.bind fun b => (f b).run := by cases o <;> rfl
theorem run_bind {α β : Type} (t : Tr α) (f : α → Tr β) : (t.bind f).run = t.run.bind fun x => (f x).run := by
  induction t with
  | ret a => rfl
  | fail => rfl
  | br c t e ih1 ih2 => simp only [Tr.bind, Tr.run]; split <;> assumption
  | get γ o g ih => cases o <;> simp [Tr.bind, Tr.run, ih]
  | alt γ δ s g h ih1 ih2 => cases s <;> simp [Tr.bind, Tr.run, ih1, ih2]
  | rdO k g ih => rfl
  | rdC k off g ih => rfl
  | rdM k g ih => rfl
theorem take_drop_mid {α : Type} (cs : List α) (off n : Nat) (a v b : List α) (h : (cs.drop off).take n = a ++ (v ++ b)) (j : Nat) (hj : j < v.length) : cs[off + a.length + j]? = v[j]? := by
  have h1 : ((cs.drop off).take n)[a.length + j]? = v[j]? := by
    rw [h, List.getElem?_append_right (by omega), List.getElem?_append_left (by omega)]
    congr 1; omega
  rw [← h1, List.getElem?_take, List.getElem?_drop]
  have : a.length + j < n := by
    have := congrArg List.length h
    simp only [List.length_take, List.length_append] at this
    have h3 : (cs.drop off).length = cs.length - off := List.length_drop ..
    rcases Nat.lt_or_ge (a.length + j) n with h4 | h4
    · exact h4
    · omega
  rw [if_pos this]; congr 1; omega
theorem Rp.elem {w : World} {K : Nat → Prop} {e : TypeId} {r : Ty} {xs : List r.D} {h : Value} {F : List Nat} (hp : Rp w K (.sl true e r) xs [h] F) {i j : Nat} {row : r.D} {c : (u : Ty) × u.D}
    (hi : xs[i]? = some row) (hc : cellAt r row j = some c) :
    ∃ (g off cap : Nat) (cs : Array Value) (fr : Nat × Nat) (v : Value) (F1 Fa G Fb F2 : List Nat), h = .slice (some ⟨g, off, none⟩) xs.length cap ∧ F = g :: (F1 ++ ((Fa ++ (G ++ Fb)) ++ F2)) ∧ w.heap[g]? = some (.cells cs e fr) ∧ NFt r fr cs.size ∧
      off + cap * r.size ≤ cs.size ∧ xs.length ≤ cap ∧
      cs[off + (i * r.size + j)]? = some v ∧ off + (i * r.size + j) < cs.size ∧ Rp w K c.1 c.2 [v] G ∧
      ∀ (w' : World) (K' : Nat → Prop) (y : c.1.D) (v' : Value) (G' : List Nat) (row' : r.D) (cs' : Array Value), setCell r row j c.1 y = some row' → Rp w' K' c.1 y [v'] G' → KSame w w' K K' →
        w'.heap[g]? = some (.cells cs' e fr) → cs' = cs.setIfInBounds (off + (i * r.size + j)) v' → Same w w' F1 → Same w w' Fa → Same w w' Fb → Same w w' F2 →
        Rp w' K' (.sl true e r) (xs.set i row') [h] (g :: (F1 ++ ((Fa ++ (G' ++ Fb)) ++ F2))) := by
  simp only [Rp] at hp
  rcases hp with ⟨rfl, _⟩ | ⟨g, off, cap, cs, fr, F', hh, rfl, hg, hn, hoff, hlen, hr⟩
  · simp at hi
  obtain ⟨v1, v, v2, F1, G0, F2, hw, hl, rfl, hrow, ht, hd⟩ := RpL.get (fun x vs F h => Rp.len r x h) hr hi
  obtain ⟨pre, u, post, Fa, G, Fb, rfl, hpl, rfl, hu, hset⟩ := Rp.cell r row j hrow hc
  have hcell : cs[off + (i * r.size + j)]? = some u := by
    have := take_drop_mid cs.toList off _ v1 (pre ++ ([u] ++ post)) v2 hw pre.length (by simp)
    rw [List.getElem?_append_right (by omega)] at this
    simp only [Nat.sub_self, List.cons_append, List.nil_append, List.getElem?_cons_zero] at this
    rw [hl, hpl] at this
    rw [← Array.getElem?_toList, ← this]; congr 1; omega
  have hlt : off + (i * r.size + j) < cs.size := (Array.getElem?_eq_some_iff.1 hcell).1
  have hil : i < xs.length := (List.getElem?_eq_some_iff.1 hi).1
  injection hh with hh _
  refine ⟨g, off, cap, cs, fr, u, F1, Fa, G, Fb, F2, hh, rfl, hg, hn, hoff, hlen, hcell, hlt, hu, ?_⟩
  intro w' K' y v' G' row' cs' hs hy hK hg' hcs s1 sa sb s2
  subst hcs
  simp only [Rp]
  refine .inr ⟨g, off, cap, _, fr, _, by rw [List.length_set, hh], rfl, hg', by simpa using hn, by simpa using hoff, by simpa using hlen, ?_⟩
  have hnew := RpL.set hi (RpL.frame hK r _ _ _ s1 ht) (RpL.frame hK r _ _ _ s2 hd) (hset w' K' y v' G' row' hs hy hK sa sb)
  rw [List.length_set]
  have : ((cs.setIfInBounds (off + (i * r.size + j)) v').toList.drop off).take (xs.length * r.size) = v1 ++ ((pre ++ ([v'] ++ post)) ++ v2) := by
    rw [Array.toList_setIfInBounds, List.drop_set, if_neg (by omega), List.take_set, hw]
    have h1 : v1 ++ ((pre ++ ([u] ++ post)) ++ v2) = (v1 ++ pre) ++ u :: (post ++ v2) := by simp
    have h2 : v1 ++ ((pre ++ ([v'] ++ post)) ++ v2) = (v1 ++ pre) ++ v' :: (post ++ v2) := by simp
    rw [h1, h2, List.set_append_right _ _ (by rw [List.length_append]; omega)]
    have h3 : off + (i * r.size + j) - off - (v1 ++ pre).length = 0 := by rw [List.length_append]; omega
    rw [h3]; rfl
  rw [this]
  exact hnew
theorem getT_run_cons {e : TypeId} {r : Ty} {xs : List r.D} {i j : Nat} {ps : Steps} {c : (u : Ty) × u.D} (h : (getT (.sl true e r) xs ((i, j) :: ps)).run = some c) :
    ∃ row d, xs[i]? = some row ∧ cellAt r row j = some d ∧ (getT d.1 d.2 ps).run = some c := by
  simp only [getT, run_get, Option.bind_eq_some_iff] at h
  obtain ⟨row, hrow, h⟩ := h
  split at h
  · rename_i d hd; exact ⟨row, d, hrow, hd, h⟩
  · simp [Tr.run] at h
theorem nodup_mid {g : Nat} {F1 Fa G Fb F2 : List Nat} (hnd : (g :: (F1 ++ ((Fa ++ (G ++ Fb)) ++ F2))).Nodup) : G.Nodup := by
  rw [List.nodup_cons] at hnd
  have h1 := hnd.2
  rw [List.nodup_append] at h1
  have h2 := h1.2.1
  rw [List.nodup_append] at h2
  have h3 := h2.1
  rw [List.nodup_append] at h3
  have h4 := h3.2.1
  rw [List.nodup_append] at h4
  exact h4.1
theorem Rp.reach {w : World} {K : Nat → Prop} : ∀ (st : Steps) (t : Ty) (x : t.D) {h : Value} {F : List Nat} {c : (u : Ty) × u.D}, Rp w K t x [h] F → (getT t x st).run = some c →
    ∃ h' F', hdr w h t st = some h' ∧ Rp w K c.1 c.2 [h'] F' ∧ (∀ g ∈ F', g ∈ F) ∧ (F.Nodup → F'.Nodup) ∧ (st ≠ [] → ∃ a, adr w h t st = some a ∧ w.cell? a = some h' ∧ a.block ∈ F ∧ a.spot = none ∧ w.frozen? a = false)
  | [], t, x, h, F, c, hp, hg => by
    simp only [getT, Tr.run, Option.some.injEq] at hg
    subst hg
    exact ⟨h, F, rfl, hp, fun _ hg => hg, fun h => h, fun hne => absurd rfl hne⟩
  | (i, j) :: ps, t, x, h, F, c, hp, hg => by
    match t, x, hp, hg with
    | .sl true e r, xs, hp, hg =>
      obtain ⟨row, d, hrow, hd, hrest⟩ := getT_run_cons hg
      obtain ⟨g, off, cap, cs, fr, v, F1, Fa, G, Fb, F2, rfl, rfl, hh, hn, _, _, hcell, hlt, hv, _⟩ := Rp.elem hp hrow hd
      have hc? : w.cell? ⟨g, off + (i * r.size + j), none⟩ = some v := by rw [cell_blk hh]; exact hcell
      obtain ⟨h', F', hhd, hp', hsub, hnod, hne⟩ := Rp.reach ps d.1 d.2 hv hrest
      refine ⟨h', F', ?_, hp', ?_, fun hx => hnod (nodup_mid hx), ?_⟩
      · cases ps with
        | nil =>
          simp only [hdr, Option.some.injEq] at hhd
          subst hhd
          simp only [hdr, adr, add_blk]; exact hc?
        | cons p ps =>
          simp only [hdr, adr, add_blk, hc?, cty_cell r row j hd]
          simpa only [hdr] using hhd
      · intro b hb
        have := hsub b hb
        simp [*]
      · intro _
        cases ps with
        | nil =>
          simp only [hdr, Option.some.injEq] at hhd
          subst hhd
          exact ⟨⟨g, off + (i * r.size + j), none⟩, by simp only [adr, add_blk], hc?, by simp, rfl, frozen_blk hh hn.nf hlt⟩
        | cons p ps =>
          obtain ⟨a, ha, h1, h2, h3, h4⟩ := hne (by simp)
          refine ⟨a, by simp only [adr, add_blk, hc?, cty_cell r row j hd]; exact ha, h1, ?_, h3, h4⟩
          simp [*]
    | .sl false _ _, _, _, hg => simp [getT, Tr.run] at hg
    | .int _, _, _, hg => simp [getT, Tr.run] at hg
    | .bool, _, _, hg => simp [getT, Tr.run] at hg
    | .str, _, _, hg => simp [getT, Tr.run] at hg
    | .unit, _, _, hg => simp [getT, Tr.run] at hg
    | .pair _ _, _, _, hg => simp [getT, Tr.run] at hg
theorem adr_one {w w' : World} {h : Value} {t : Ty} {p : Nat × Nat} : adr w' h t [p] = adr w h t [p] := by
  cases t with
  | sl o e r =>
    cases h with
    | slice A _ _ => cases A <;> rfl
    | _ => rfl
  | _ => rfl
theorem Rp.put {w : World} {K : Nat → Prop} : ∀ (st : Steps) (t : Ty) (x : t.D) {h : Value} {F : List Nat} {c : (u : Ty) × u.D} {z : c.1.D} {y : t.D}, st ≠ [] → Rp w K t x [h] F → F.Nodup → (getT t x st).run = some c → (setT t x st c.1 z).run = some y →
    ∃ a h' Fa G Fb, adr w h t st = some a ∧ w.cell? a = some h' ∧ a.spot = none ∧ F = Fa ++ (G ++ Fb) ∧ a.block ∈ Fa ∧ Rp w K c.1 c.2 [h'] G ∧ w.frozen? a = false ∧
      ∀ (w' : World) (K' : Nat → Prop) (v' : Value) (G' : List Nat), Rp w' K' c.1 z [v'] G' → KSame w w' K K' → w'.heap[a.block]? = (w.setCell a v').heap[a.block]? →
        (∀ g ∈ Fa ++ Fb, g ≠ a.block → w'.heap[g]? = w.heap[g]?) → Rp w' K' t y [h] (Fa ++ (G' ++ Fb)) ∧ ∀ n, adr w' h t (bump st n) = adr w h t (bump st n)
  | [], _, _, _, _, _, _, _, hne, _, _, _, _ => absurd rfl hne
  | (i, j) :: ps, t, x, h, F, c, z, y, _, hp, hnd, hg, hs => by
    match t, x, y, hp, hg, hs with
    | .sl true e r, xs, y, hp, hg, hs =>
      obtain ⟨row, d, hrow, hd, hrest⟩ := getT_run_cons hg
      have hs' : ∃ yy row', (setT d.1 d.2 ps c.1 z).run = some yy ∧ setCell r row j d.1 yy = some row' ∧ y = (xs : List r.D).set i row' := by
        simp only [setT, run_get, Option.bind_eq_some_iff] at hs
        obtain ⟨row2, hrow2, hs⟩ := hs
        obtain rfl : row = row2 := by rw [hrow] at hrow2; injection hrow2
        rw [hd] at hs
        simp only [run_bind, Option.bind_eq_some_iff] at hs
        obtain ⟨yy, h1, hs⟩ := hs
        split at hs
        · rename_i row' hr; simp only [Tr.run, Option.some.injEq] at hs; exact ⟨yy, row', h1, hr, hs.symm⟩
        · simp [Tr.run] at hs
      obtain ⟨yy, row', hsy, hset, rfl⟩ := hs'
      obtain ⟨g, off, cap, cs, fr, v, F1, Fa, G, Fb, F2, rfl, rfl, hh, hn, hcap, hlen, hcell, hlt, hv, hput⟩ := Rp.elem hp hrow hd
      have hc? : w.cell? ⟨g, off + (i * r.size + j), none⟩ = some v := by rw [cell_blk hh]; exact hcell
      cases ps with
      | nil =>
        simp only [getT, Tr.run, Option.some.injEq] at hrest
        subst hrest
        simp only [setT] at hsy
        split at hsy
        · simp only [Tr.run, Option.some.injEq] at hsy
          subst hsy
          refine ⟨⟨g, off + (i * r.size + j), none⟩, v, g :: (F1 ++ Fa), G, Fb ++ F2, by simp only [adr, add_blk], hc?, rfl, by simp, by simp, hv, frozen_blk hh hn.nf hlt, ?_⟩
          intro w' K' v' G' hz hK hblk hrest
          have hnd' : ∀ b, b ∈ F1 ∨ b ∈ Fa ∨ b ∈ Fb ∨ b ∈ F2 → b ≠ g := by
            rintro b hb rfl
            rw [List.nodup_cons] at hnd
            apply hnd.1
            simp only [List.mem_append]
            rcases hb with hb | hb | hb | hb <;> simp [hb]
          have hnew : w'.heap[g]? = some (.cells (cs.setIfInBounds (off + (i * r.size + j)) v') e fr) := by
            rw [hblk]; exact setCell_blk hh _ _
          have := hput w' K' z v' G' row' _ hset hz hK hnew rfl (fun b hb => hrest b (by simp [hb]) (hnd' b (by simp [hb]))) (fun b hb => hrest b (by simp [hb]) (hnd' b (by simp [hb])))
            (fun b hb => hrest b (by simp [hb]) (hnd' b (by simp [hb]))) (fun b hb => hrest b (by simp [hb]) (hnd' b (by simp [hb])))
          exact ⟨by simpa using this, fun n => adr_one⟩
        · simp [Tr.run] at hsy
      | cons p ps =>
        have hndG : G.Nodup := nodup_mid hnd
        obtain ⟨a, h', Ga, G0, Gb, ha, h1, h2, rfl, hain, hG0, h4, hset2⟩ := Rp.put (p :: ps) d.1 d.2 (by simp) hv hndG hrest hsy
        have hag : a.block ≠ g := by
          rintro rfl
          rw [List.nodup_cons] at hnd
          apply hnd.1
          simp [hain]
        have hout : ∀ b, b ∈ F1 ∨ b ∈ Fa ∨ b ∈ Fb ∨ b ∈ F2 → b ≠ a.block := by
          rintro b hb rfl
          rw [List.nodup_cons] at hnd
          have hn2 := hnd.2
          have hA : ∀ (X Y : List Nat), (X ++ Y).Nodup → ∀ q, q ∈ X → q ∈ Y → False := fun X Y hXY q hX hY => (List.nodup_append.1 hXY).2.2 q hX q hY rfl
          rcases hb with hb | hb | hb | hb
          · exact hA F1 _ hn2 a.block hb (by simp [hain])
          · have h5 := (List.nodup_append.1 hn2).2.1
            have h6 := (List.nodup_append.1 h5).1
            exact hA Fa _ h6 a.block hb (by simp [hain])
          · have h5 := (List.nodup_append.1 hn2).2.1
            have h6 := (List.nodup_append.1 h5).1
            have h7 := (List.nodup_append.1 h6).2.1
            exact hA _ Fb h7 a.block (by simp [hain]) hb
          · have h5 := (List.nodup_append.1 hn2).2.1
            exact hA _ F2 h5 a.block (by simp [hain]) hb
        refine ⟨a, h', g :: (F1 ++ (Fa ++ Ga)), G0, Gb ++ (Fb ++ F2), by simp only [adr, add_blk, hc?, cty_cell r row j hd]; exact ha, h1, h2, by simp, by simp [hain], hG0, h4, ?_⟩
        intro w' K' v' G' hz hK hblk hrest2
        obtain ⟨hinner, hadr⟩ := hset2 w' K' v' G' hz hK hblk (fun b hb hne => hrest2 b (by simp only [List.mem_append, List.mem_cons] at hb ⊢; rcases hb with hb | hb <;> simp [hb]) hne)
        have hgs : w'.heap[g]? = some (.cells cs e fr) := by rw [hrest2 g (by simp) (Ne.symm hag)]; exact hh
        have hsame : cs = cs.setIfInBounds (off + (i * r.size + j)) v := by
          apply Array.ext_getElem?
          intro m
          rw [Array.getElem?_setIfInBounds]
          split
          · subst_vars; first | exact hcell | (rw [if_pos hlt]; exact hcell)
          · rfl
        have := hput w' K' yy v (Ga ++ (G' ++ Gb)) row' cs hset hinner hK hgs hsame (fun b hb => hrest2 b (by simp [hb]) (hout b (by simp [hb]))) (fun b hb => hrest2 b (by simp [hb]) (hout b (by simp [hb])))
            (fun b hb => hrest2 b (by simp [hb]) (hout b (by simp [hb]))) (fun b hb => hrest2 b (by simp [hb]) (hout b (by simp [hb])))
        refine ⟨by simpa using this, fun n => ?_⟩
        have hc2 : w'.cell? ⟨g, off + (i * r.size + j), none⟩ = some v := by rw [cell_blk hgs]; exact hcell
        have hb : bump ((i, j) :: p :: ps) n = (i, j) :: bump (p :: ps) n := rfl
        obtain ⟨q', ps', hq⟩ : ∃ q' ps', bump (p :: ps) n = q' :: ps' := by
          cases ps with
          | nil => obtain ⟨x, y⟩ := p; exact ⟨_, _, rfl⟩
          | cons q2 ps => exact ⟨_, _, rfl⟩
        have := hadr n
        rw [hb]
        rw [hq] at this ⊢
        simp only [adr, add_blk, hc?, hc2, cty_cell r row j hd]
        exact this
    | .sl false _ _, _, _, _, hg, _ => simp [getT, Tr.run] at hg
    | .int _, _, _, _, hg, _ => simp [getT, Tr.run] at hg
    | .bool, _, _, _, hg, _ => simp [getT, Tr.run] at hg
    | .str, _, _, _, hg, _ => simp [getT, Tr.run] at hg
    | .unit, _, _, _, hg, _ => simp [getT, Tr.run] at hg
    | .pair _ _, _, _, _, hg, _ => simp [getT, Tr.run] at hg
end Go.V

namespace Go.V
open Go.RowKit
structure Base where
  w0 : World
  Ro : Nat → Prop
  O0 : Nat → Prop
  n1 : Nat
  ms : List Nat
  fx : List (Nat × Value)
structure Cc where
  mb : Nat → Nat
  hv : Nat → Value
  F : Nat → List Nat
def Owned (S : St) (c : Cc) (g : Nat) : Prop := (∃ k, S.ms k ≠ none ∧ c.mb k = g) ∨ (∃ k, S.ow k ≠ none ∧ g ∈ c.F k)
def Kok (b : Base) (S : St) (c : Cc) (g : Nat) : Prop := (b.Ro g ∨ b.w0.heap.size ≤ g ∨ b.O0 g) ∧ ¬ Owned S c g
def WinOk (size len : Nat) (win : Option (Nat × Nat)) (h v : Value) : Prop :=
  match win with
  | none => v = h
  | some (lo, m) => ∃ A n cap A' cap' q, h = .slice A n cap ∧ v = .slice A' (min m (len - lo)) cap' ∧ min m (len - lo) ≤ cap' ∧ q + cap' ≤ cap ∧ (0 < min m (len - lo) → q = lo) ∧
      (A = none → A' = none ∧ cap' = 0) ∧ ∀ a, A = some a → A' = some (a.add (q * size))
def LeafOk (S : St) (c : Cc) (w : World) (K : Nat → Prop) : Leaf → Value → Prop
  | .v t x, v => Rp w K t x [v] []
  | .vw k st win, v => ∃ (o : Own) (e : TypeId) (r : Ty) (ys : List r.D) (h : Value), S.ow k = some o ∧ (getT (.sl true o.e o.r) o.xs st).run = some ⟨.sl true e r, ys⟩ ∧
      hdr w (c.hv k) (.sl true o.e o.r) st = some h ∧ WinOk r.size ys.length win h v
  | .qn e, v => ∃ q : Bool, v = .bool q ∧ (q = true → e = true)
  | .nil, v => v = .slice none 0 0
  | .no, _ => True
inductive All2 {α β : Type} (p : α → β → Prop) : List α → List β → Prop
  | nil : All2 p [] []
  | cons {a b as bs} : p a b → All2 p as bs → All2 p (a :: as) (b :: bs)
def PlOk (S : St) (c : Cc) (p : Nat × Nat) (v : Value) : Prop := ∃ n, S.ms p.1 = some n ∧ v = .pointer (some ⟨c.mb p.1, p.2, none⟩)
def S1Ok (S : St) (c : Cc) (w : World) (K : Nat → Prop) : S1 → Value → Prop
  | .one l, v => LeafOk S c w K l v
  | .ag ls, v => ∃ vs : List Value, v = .agg vs.toArray ∧ All2 (LeafOk S c w K) ls vs
  | .pl k off, v => ∃ n, S.ms k = some n ∧ v = .pointer (some ⟨c.mb k, off, none⟩)
  | .el k st, v => ∃ (o : Own) (a : Addr), S.ow k = some o ∧ adr w (c.hv k) (.sl true o.e o.r) st = some a ∧ v = .pointer (some a) ∧
      ∃ (pre : Steps) (p : Nat × Nat) (d : (u : Ty) × u.D), st = pre ++ [p] ∧ (getT (.sl true o.e o.r) o.xs pre).run = some d
  | .rp t x off, v => ∃ (a : Addr) (vs : List Value), v = .pointer (some (a.add off)) ∧ Rp w K t x vs [] ∧ K a.block ∧ a.block < w.heap.size ∧ ∀ j, j < vs.length → w.cell? (a.add j) = vs[j]?
  | .fv f cs, v => ∃ vs : List Value, v = .func (.func f) #[] vs.toArray ∧ All2 (PlOk S c) cs vs
def SVOk (S : St) (c : Cc) (w : World) (K : Nat → Prop) : SV → Value → Prop
  | .s x, v => S1Ok S c w K x v
  | .tu xs, v => ∃ vs : List Value, v = .tuple vs.toArray ∧ All2 (S1Ok S c w K) xs vs
  | .un, v => v = undef
  | .no, _ => True
structure Inv (b : Base) (S : St) (w : World) (c : Cc) : Prop where
  ms : ∀ k n, S.ms k = some n → ∃ cs e fr, w.heap[c.mb k]? = some (.cells cs e fr) ∧ cs.size = n ∧ NF fr cs.size ∧ ∀ i v, cs[i]? = some v → LeafOk S c w (Kok b S c) (S.mc k i) v
  ow : ∀ k o, S.ow k = some o → Rp w (Kok b S c) (.sl true o.e o.r) o.xs [c.hv k] (c.F k)
  nd : ∀ k, S.ow k ≠ none → (c.F k).Nodup
  oo : ∀ k k', k ≠ k' → S.ow k ≠ none → S.ow k' ≠ none → ∀ g, g ∈ c.F k → g ∉ c.F k'
  mm : ∀ k k', k ≠ k' → S.ms k ≠ none → S.ms k' ≠ none → c.mb k ≠ c.mb k'
  mo : ∀ k k', S.ms k ≠ none → S.ow k' ≠ none → c.mb k ∉ c.F k'
  fr : ∀ g, Owned S c g → g < w.heap.size ∧ (b.w0.heap.size ≤ g ∨ b.O0 g)
  fix : ∀ g, g < b.w0.heap.size → ¬ b.O0 g → w.heap[g]? = b.w0.heap[g]?
  os : w.os = b.w0.os
  tape : w.tape = b.w0.tape
  output : w.output = b.w0.output
  size : b.w0.heap.size ≤ w.heap.size
  an : ∀ m g, b.ms[m]? = some g → c.mb (b.n1 + m) = g
structure Slots (N : Nat) (S : St) (c : Cc) (w : World) (K : Nat → Prop) (a : Act) : Prop where
  ok : ∀ i, SVOk S c w K (S.sl i) (a.tmps.getD i undef)
  n : a.tmps.size = N
  d : a.defers = []
def Sim (b : Base) (N : Nat) (S : St) (a : Act) (w : World) : Prop := ∃ c, Inv b S w c ∧ Slots N S c w (Kok b S c) a ∧ ∀ p, p ∈ b.fx → a.tmps.getD p.1 undef = p.2
theorem put_fx {b : Base} {a : Act} (h : ∀ p, p ∈ b.fx → a.tmps.getD p.1 undef = p.2) {d : Option Nat} {v : Value} (hd : ∀ k, d = some k → ∀ p, p ∈ b.fx → p.1 ≠ k) : ∀ p, p ∈ b.fx → (a.put d v).tmps.getD p.1 undef = p.2 := by
  intro p hp
  cases d with
  | none => exact h p hp
  | some k =>
    have hne := hd k rfl p hp
    have : (a.put (some k) v).tmps.getD p.1 undef = a.tmps.getD p.1 undef := by
      simp [Act.put, Array.getElem?_setIfInBounds_ne (Ne.symm hne)]
    rw [this]; exact h p hp
section
variable {α β γ : Type} {p : α → β → Prop}
theorem All2.mono {q : α → β → Prop} {as bs} (h : ∀ a b, p a b → q a b) (hx : All2 p as bs) : All2 q as bs := by
  induction hx with
  | nil => exact .nil
  | cons h1 _ ih => exact .cons (h _ _ h1) ih
theorem All2.map {f : α → γ} {q : γ → β → Prop} {as bs} (h : ∀ a b, p a b → q (f a) b) (hx : All2 p as bs) : All2 q (as.map f) bs := by
  induction hx with
  | nil => exact .nil
  | cons h1 _ ih => exact .cons (h _ _ h1) ih
theorem All2.len {as bs} (hx : All2 p as bs) : as.length = bs.length := by
  induction hx with
  | nil => rfl
  | cons _ _ ih => simp [ih]
theorem All2.get {as bs} (hx : All2 p as bs) : ∀ {i : Nat} {a}, as[i]? = some a → ∃ b, bs[i]? = some b ∧ p a b := by
  induction hx with
  | nil => intro i a h; simp at h
  | cons h1 _ ih =>
    intro i a h
    cases i with
    | zero => simp only [List.getElem?_cons_zero, Option.some.injEq] at h; subst h; exact ⟨_, rfl, h1⟩
    | succ i => simp only [List.getElem?_cons_succ] at h ⊢; exact ih h
theorem All2.append {as bs as' bs'} (hx : All2 p as bs) (hy : All2 p as' bs') : All2 p (as ++ as') (bs ++ bs') := by
  induction hx with
  | nil => exact hy
  | cons h1 _ ih => exact .cons h1 ih
theorem All2.take {as bs} (hx : All2 p as bs) : ∀ n, All2 p (as.take n) (bs.take n) := by
  induction hx with
  | nil => intro n; simp; exact .nil
  | cons h1 _ ih =>
    intro n
    cases n with
    | zero => exact .nil
    | succ n => exact .cons h1 (ih n)
theorem All2.drop {as bs} (hx : All2 p as bs) : ∀ n, All2 p (as.drop n) (bs.drop n) := by
  induction hx with
  | nil => intro n; simp; exact .nil
  | cons h1 h2 ih =>
    intro n
    cases n with
    | zero => exact .cons h1 h2
    | succ n => exact ih n
theorem All2.set {as bs} (hx : All2 p as bs) : ∀ (n : Nat) {a b}, p a b → All2 p (as.set n a) (bs.set n b) := by
  induction hx with
  | nil => intro n _ _ _; exact .nil
  | cons h1 h2 ih =>
    intro n _ _ h
    cases n with
    | zero => exact .cons h h2
    | succ n => exact .cons h1 (ih n h)
end
structure Step (w w' : World) (T : Nat → Prop) : Prop where
  os : w'.os = w.os
  tape : w'.tape = w.tape
  output : w'.output = w.output
  size : w.heap.size ≤ w'.heap.size
  same : ∀ g, g < w.heap.size → ¬ T g → w'.heap[g]? = w.heap[g]?
theorem Step.refl (w : World) (T : Nat → Prop) : Step w w T := ⟨rfl, rfl, rfl, Nat.le_refl _, fun _ _ _ => rfl⟩
theorem Step.mono {w w' : World} {T T' : Nat → Prop} (h : Step w w' T) (ht : ∀ g, T g → T' g) : Step w w' T' := ⟨h.os, h.tape, h.output, h.size, fun g hg hn => h.same g hg fun x => hn (ht g x)⟩
theorem Step.trans {w w1 w2 : World} {T : Nat → Prop} (h : Step w w1 T) (k : Step w1 w2 T) : Step w w2 T :=
  ⟨k.os.trans h.os, k.tape.trans h.tape, k.output.trans h.output, Nat.le_trans h.size k.size, fun g hg hn => (k.same g (Nat.lt_of_lt_of_le hg h.size) hn).trans (h.same g hg hn)⟩
theorem adr_same {w w' : World} {K : Nat → Prop} : ∀ (st : Steps) (t : Ty) (x : t.D) {h : Value} {F : List Nat} {c : (u : Ty) × u.D}, Rp w K t x [h] F → Same w w' F → (getT t x st).run = some c → adr w' h t st = adr w h t st
  | [], t, x, h, F, c, _, _, _ => by cases t <;> rfl
  | (i, j) :: ps, t, x, h, F, c, hp, hs, hg => by
    match t, x, hp, hg with
    | .sl true e r, xs, hp, hg =>
      obtain ⟨row, d, hrow, hd, hrest⟩ := getT_run_cons hg
      obtain ⟨g, off, cap, cs, fr, v, F1, Fa, G, Fb, F2, rfl, rfl, hh, hn, _, _, hcell, hlt, hv, _⟩ := Rp.elem hp hrow hd
      have hh' : w'.heap[g]? = some (.cells cs e fr) := by rw [hs g (by simp)]; exact hh
      have h1 : w.cell? ⟨g, off + (i * r.size + j), none⟩ = some v := by rw [cell_blk hh]; exact hcell
      have h2 : w'.cell? ⟨g, off + (i * r.size + j), none⟩ = some v := by rw [cell_blk hh']; exact hcell
      cases ps with
      | nil => simp only [adr]
      | cons p ps =>
        simp only [adr, add_blk, h1, h2, cty_cell r row j hd]
        exact adr_same (p :: ps) d.1 d.2 hv (fun g hg => hs g (by simp [hg])) hrest
    | .sl false _ _, _, _, hg => simp [getT, Tr.run] at hg
    | .int _, _, _, hg => simp [getT, Tr.run] at hg
    | .bool, _, _, hg => simp [getT, Tr.run] at hg
    | .str, _, _, hg => simp [getT, Tr.run] at hg
    | .unit, _, _, hg => simp [getT, Tr.run] at hg
    | .pair _ _, _, _, hg => simp [getT, Tr.run] at hg
theorem hdr_same {w w' : World} {K : Nat → Prop} {st : Steps} {t : Ty} {x : t.D} {h : Value} {F : List Nat} {c : (u : Ty) × u.D} (hp : Rp w K t x [h] F) (hs : Same w w' F) (hg : (getT t x st).run = some c) : hdr w' h t st = hdr w h t st := by
  cases st with
  | nil => rfl
  | cons p ps =>
    obtain ⟨h', F', _, _, _, _, hne⟩ := Rp.reach (p :: ps) t x hp hg
    obtain ⟨a, ha, hc, hb, _, _⟩ := hne (by simp)
    simp only [hdr, adr_same (p :: ps) t x hp hs hg, ha]
    exact cell_same (hs _ hb)
theorem adr_same' {w w' : World} {K : Nat → Prop} : ∀ (st : Steps) (t : Ty) (x : t.D) {h : Value} {F : List Nat} {c : (u : Ty) × u.D} (p : Nat × Nat), Rp w K t x [h] F → Same w w' F → (getT t x st).run = some c → adr w' h t (st ++ [p]) = adr w h t (st ++ [p])
  | [], t, x, h, F, c, p, _, _, _ => adr_one
  | (i, j) :: ps, t, x, h, F, c, p, hp, hs, hg => by
    match t, x, hp, hg with
    | .sl true e r, xs, hp, hg =>
      obtain ⟨row, d, hrow, hd, hrest⟩ := getT_run_cons hg
      obtain ⟨g, off, cap, cs, fr, v, F1, Fa, G, Fb, F2, rfl, rfl, hh, hn, _, _, hcell, hlt, hv, _⟩ := Rp.elem hp hrow hd
      have hh' : w'.heap[g]? = some (.cells cs e fr) := by rw [hs g (by simp)]; exact hh
      have h1 : w.cell? ⟨g, off + (i * r.size + j), none⟩ = some v := by rw [cell_blk hh]; exact hcell
      have h2 : w'.cell? ⟨g, off + (i * r.size + j), none⟩ = some v := by rw [cell_blk hh']; exact hcell
      have ih := adr_same' ps d.1 d.2 p hv (fun g hg => hs g (by simp [hg])) hrest
      cases ps with
      | nil =>
        simp only [List.nil_append] at ih
        simp only [List.cons_append, List.nil_append, adr, add_blk, h1, h2, cty_cell r row j hd]; exact ih
      | cons q ps =>
        simp only [List.cons_append] at ih
        simp only [List.cons_append, adr, add_blk, h1, h2, cty_cell r row j hd]; exact ih
    | .sl false _ _, _, _, hg => simp [getT, Tr.run] at hg
    | .int _, _, _, hg => simp [getT, Tr.run] at hg
    | .bool, _, _, hg => simp [getT, Tr.run] at hg
    | .str, _, _, hg => simp [getT, Tr.run] at hg
    | .unit, _, _, hg => simp [getT, Tr.run] at hg
    | .pair _ _, _, _, hg => simp [getT, Tr.run] at hg
theorem bump_snoc : ∀ (pre : Steps) (i j n : Nat), bump (pre ++ [(i, j)]) n = pre ++ [(i, j + n)]
  | [], _, _, _ => rfl
  | [p], i, j, n => rfl
  | p :: q :: ps, i, j, n => by
    show p :: bump (q :: ps ++ [(i, j)]) n = _
    rw [bump_snoc (q :: ps) i j n]; rfl
theorem adr_snoc {w : World} : ∀ (st : Steps) {h : Value} {t : Ty} {e : TypeId} {r : Ty} {o : Bool} {a : Addr} {n cap : Nat} {x : t.D} {ys : List r.D} {K : Nat → Prop} {F : List Nat} (i : Nat), Rp w K t x [h] F → (getT t x st).run = some ⟨.sl o e r, ys⟩ → hdr w h t st = some (.slice (some a) n cap) →
    adr w h t (st ++ [(i, 0)]) = some (a.add (i * r.size))
  | [], h, t, e, r, o, a, n, cap, x, ys, K, F, i, hp, hg, hh => by
    simp only [hdr, Option.some.injEq] at hh
    subst hh
    simp only [getT, Tr.run, Option.some.injEq] at hg
    injection hg with hg _
    subst hg
    simp only [List.nil_append, adr, Nat.add_zero]
  | (i0, j) :: ps, h, t, e, r, o, a, n, cap, x, ys, K, F, i, hp, hg, hh => by
    match t, x, hp, hg, hh with
    | .sl true e0 r0, xs, hp, hg, hh =>
      obtain ⟨row, d, hrow, hd, hrest⟩ := getT_run_cons hg
      obtain ⟨g, off, cap', cs, fr, v, F1, Fa, G, Fb, F2, rfl, rfl, hb, hn, _, _, hcell, hlt, hv, _⟩ := Rp.elem hp hrow hd
      have h1 : w.cell? ⟨g, off + (i0 * r0.size + j), none⟩ = some v := by rw [cell_blk hb]; exact hcell
      have hh' : hdr w v d.1 ps = some (.slice (some a) n cap) := by
        cases ps with
        | nil => simp only [hdr, adr, add_blk, h1, Option.some.injEq] at hh; simp only [hdr, hh]
        | cons p ps => simp only [hdr, adr, add_blk, h1, cty_cell r0 row j hd] at hh; simpa only [hdr] using hh
      have ih := adr_snoc ps i hv hrest hh'
      cases ps with
      | nil =>
        simp only [List.nil_append] at ih
        simp only [List.cons_append, List.nil_append, adr, add_blk, h1, cty_cell r0 row j hd]; exact ih
      | cons q ps =>
        simp only [List.cons_append] at ih
        simp only [List.cons_append, adr, add_blk, h1, cty_cell r0 row j hd]; exact ih
    | .sl false _ _, _, _, hg, _ => simp [getT, Tr.run] at hg
    | .int _, _, _, hg, _ => simp [getT, Tr.run] at hg
    | .bool, _, _, hg, _ => simp [getT, Tr.run] at hg
    | .str, _, _, hg, _ => simp [getT, Tr.run] at hg
    | .unit, _, _, hg, _ => simp [getT, Tr.run] at hg
    | .pair _ _, _, _, hg, _ => simp [getT, Tr.run] at hg
theorem adr_bump {w : World} : ∀ (st : Steps) {h : Value} {t : Ty} {a : Addr} (n : Nat), adr w h t st = some a → adr w h t (bump st n) = some (a.add n)
  | [], h, t, a, n, ha => by cases t <;> simp [adr] at ha
  | [(i, j)], h, t, a, n, ha => by
    cases t with
    | sl o e r =>
      cases h with
      | slice A m cp =>
        cases A with
        | none => simp [adr] at ha
        | some A =>
          simp only [adr, Option.some.injEq] at ha
          subst ha
          simp only [bump, adr, add_add, Option.some.injEq]
          congr 1; omega
      | _ => simp [adr] at ha
    | _ => simp [adr] at ha
  | (i, j) :: q :: ps, h, t, a, n, ha => by
    cases t with
    | sl o e r =>
      cases h with
      | slice A m cp =>
        cases A with
        | none => simp [adr] at ha
        | some A =>
          have hb : bump ((i, j) :: q :: ps) n = (i, j) :: bump (q :: ps) n := rfl
          have hq : ∃ q' ps', bump (q :: ps) n = q' :: ps' := by
            cases ps with
            | nil => obtain ⟨x, y⟩ := q; exact ⟨_, _, rfl⟩
            | cons q2 ps => exact ⟨_, _, rfl⟩
          obtain ⟨q', ps', hq⟩ := hq
          rw [hb, hq]
          simp only [adr] at ha ⊢
          split at ha
          · rename_i h' t' h1 h2
            have := adr_bump (q :: ps) n ha
            rw [hq] at this
            exact this
          · cases ha
      | _ => simp [adr] at ha
    | _ => simp [adr] at ha
structure Stay (S S' : St) (c c' : Cc) (w w' : World) (K K' : Nat → Prop) (ks : List Kl) : Prop where
  vw : ∀ k st win v, ks.all (fun x => x.okV k st) = true → LeafOk S c w K (.vw k st win) v → LeafOk S' c' w' K' (.vw k st win) v
  el : ∀ k st v, ks.all (fun x => x.okE k st) = true → S1Ok S c w K (.el k st) v → S1Ok S' c' w' K' (.el k st) v
  pl : ∀ k off v, ks.all (fun x => x.okM k) = true → S1Ok S c w K (.pl k off) v → S1Ok S' c' w' K' (.pl k off) v
  kk : KSame w w' K K'
section
variable {S S' : St} {c c' : Cc} {w w' : World} {K K' : Nat → Prop} {ks : List Kl}
theorem Stay.leaf (h : Stay S S' c c' w w' K K' ks) {l : Leaf} {v : Value} (hl : LeafOk S c w K l v) : LeafOk S' c' w' K' (l.kp ks) v := by
  cases l with
  | v t x => exact Rp.frame h.kk t x hl fun g hg => by cases hg
  | vw k st win =>
    simp only [Leaf.kp]
    split
    · rename_i hk; exact h.vw k st win v hk hl
    · trivial
  | qn e => exact hl
  | nil => exact hl
  | no => trivial
theorem Stay.s1 (h : Stay S S' c c' w w' K K' ks) {x : S1} {v : Value} (hx : S1Ok S c w K x v) : S1Ok S' c' w' K' (x.kp ks) v := by
  cases x with
  | one l => exact h.leaf hx
  | ag ls =>
    obtain ⟨vs, e, hv⟩ := hx
    exact ⟨vs, e, hv.map fun _ _ => h.leaf⟩
  | pl k off =>
    simp only [S1.kp]
    split
    · rename_i hk; exact h.pl k off v hk hx
    · trivial
  | el k st =>
    simp only [S1.kp]
    split
    · rename_i hk; exact h.el k st v hk hx
    · trivial
  | rp t x off =>
    obtain ⟨a, vs, e, hr, hk, hs, hc⟩ := hx
    obtain ⟨h1, h2⟩ := h.kk.2 _ hk hs
    exact ⟨a, vs, e, Rp.frame h.kk t x hr (fun g hg => by cases hg), h2, Nat.lt_of_lt_of_le hs h.kk.1,
      fun j hj => (cell_same (w := w) (w' := w') (a := a.add j) (by rw [add_block]; exact h1)).trans (hc j hj)⟩
  | fv f cs =>
    simp only [S1.kp]
    split
    · rename_i hk
      obtain ⟨vs, e, hv⟩ := hx
      refine ⟨vs, e, ?_⟩
      clear e
      induction hv with
      | nil => exact .nil
      | cons h1 _ ih =>
        refine .cons ?_ (ih ?_)
        · exact h.pl _ _ _ (List.all_eq_true.2 fun x hx => by have := List.all_eq_true.1 hk x hx; simp only [List.all_cons, Bool.and_eq_true] at this; exact this.1) h1
        · exact List.all_eq_true.2 fun x hx => by have := List.all_eq_true.1 hk x hx; simp only [List.all_cons, Bool.and_eq_true] at this; exact this.2
    · trivial
theorem Stay.sv (h : Stay S S' c c' w w' K K' ks) {x : SV} {v : Value} (hx : SVOk S c w K x v) : SVOk S' c' w' K' (x.kp ks) v := by
  cases x with
  | s x => exact h.s1 hx
  | tu xs =>
    obtain ⟨vs, e, hv⟩ := hx
    exact ⟨vs, e, hv.map fun _ _ => h.s1⟩
  | un => exact hx
  | no => trivial
theorem Stay.slots {N : Nat} {a : Act} (h : Stay S S' c c' w w' K K' ks) (hs : Slots N S c w K a) (hsl : ∀ i, S'.sl i = (S.sl i).kp ks) (d : Option Nat) (x : SV) (v : Value) (hd : ∀ k, d = some k → k < N)
    (hx : SVOk S' c' w' K' x v) (hrest : ∀ l v, LeafOk (S'.putO d x) c' w' K' l v ↔ LeafOk S' c' w' K' l v) (hrest1 : ∀ l v, S1Ok (S'.putO d x) c' w' K' l v ↔ S1Ok S' c' w' K' l v) :
    Slots N (S'.putO d x) c' w' K' (a.put d v) := by
  have hsv : ∀ l v, SVOk (S'.putO d x) c' w' K' l v ↔ SVOk S' c' w' K' l v := by
    intro l v
    cases l with
    | s y => exact hrest1 y v
    | tu ys =>
      constructor
      · rintro ⟨vs, e, hv⟩; exact ⟨vs, e, hv.mono fun y v => (hrest1 y v).1⟩
      · rintro ⟨vs, e, hv⟩; exact ⟨vs, e, hv.mono fun y v => (hrest1 y v).2⟩
    | un => exact Iff.rfl
    | no => exact Iff.rfl
  cases d with
  | none =>
    refine ⟨fun i => ?_, hs.n, hs.d⟩
    rw [hsv]
    show SVOk S' c' w' K' (S'.sl i) _
    rw [hsl]; exact h.sv (hs.ok i)
  | some d =>
    refine ⟨fun i => ?_, by simp [Act.put, hs.n], hs.d⟩
    rw [hsv]
    show SVOk S' c' w' K' (if i = d then x else S'.sl i) _
    split
    · rename_i e; subst e
      have : (a.put (some i) v).tmps.getD i undef = v := by
        have := hd i rfl
        simp [Act.put, hs.n, this]
      rw [this]; exact hx
    · rename_i e
      have : (a.put (some d) v).tmps.getD i undef = a.tmps.getD i undef := by
        simp [Act.put, Array.getElem?_setIfInBounds_ne (Ne.symm e)]
      rw [this, hsl]; exact h.sv (hs.ok i)
end
theorem leaf_same {S S' : St} {c : Cc} {w : World} {K : Nat → Prop} (ho : S'.ow = S.ow) (l : Leaf) (v : Value) : LeafOk S' c w K l v ↔ LeafOk S c w K l v := by
  cases l <;> simp only [LeafOk, ho]
theorem s1_same {S S' : St} {c : Cc} {w : World} {K : Nat → Prop} (ho : S'.ow = S.ow) (hm : S'.ms = S.ms) (x : S1) (v : Value) : S1Ok S' c w K x v ↔ S1Ok S c w K x v := by
  cases x with
  | one l => exact leaf_same ho l v
  | ag ls =>
    constructor
    · rintro ⟨vs, e, hv⟩; exact ⟨vs, e, hv.mono fun l v => (leaf_same ho l v).1⟩
    · rintro ⟨vs, e, hv⟩; exact ⟨vs, e, hv.mono fun l v => (leaf_same ho l v).2⟩
  | pl k off => simp only [S1Ok, hm]
  | el k st => simp only [S1Ok, ho]
  | rp t x off => exact Iff.rfl
  | fv f cs =>
    constructor
    · rintro ⟨vs, e, hv⟩; exact ⟨vs, e, hv.mono fun p v ⟨n, h, h'⟩ => ⟨n, by rw [← hm]; exact h, h'⟩⟩
    · rintro ⟨vs, e, hv⟩; exact ⟨vs, e, hv.mono fun p v ⟨n, h, h'⟩ => ⟨n, by rw [hm]; exact h, h'⟩⟩
theorem owned_same {S S' : St} {c : Cc} (ho : S'.ow = S.ow) (hm : S'.ms = S.ms) (g : Nat) : Owned S' c g ↔ Owned S c g := by
  simp only [Owned, ho, hm]
theorem kok_same {b : Base} {S S' : St} {c : Cc} (ho : S'.ow = S.ow) (hm : S'.ms = S.ms) : Kok b S' c = Kok b S c := by
  funext g; simp only [Kok, owned_same ho hm]
theorem putO_ow (S : St) (d : Option Nat) (x : SV) : (S.putO d x).ow = S.ow := by cases d <;> rfl
theorem putO_ms (S : St) (d : Option Nat) (x : SV) : (S.putO d x).ms = S.ms := by cases d <;> rfl
theorem putO_mc (S : St) (d : Option Nat) (x : SV) : (S.putO d x).mc = S.mc := by cases d <;> rfl
theorem Leaf.kp_nil (l : Leaf) : l.kp [] = l := by cases l <;> simp [Leaf.kp]
theorem S1.kp_nil (x : S1) : x.kp [] = x := by
  cases x with
  | one l => simp [S1.kp, Leaf.kp_nil]
  | ag ls => simp only [S1.kp]; congr 1; exact (List.map_congr_left fun l _ => Leaf.kp_nil l).trans (List.map_id ls)
  | _ => simp [S1.kp]
theorem SV.kp_nil (x : SV) : x.kp [] = x := by
  cases x with
  | s x => simp [SV.kp, S1.kp_nil]
  | tu xs => simp only [SV.kp]; congr 1; exact (List.map_congr_left fun x _ => S1.kp_nil x).trans (List.map_id xs)
  | un => rfl
  | no => rfl
theorem kp_sl (S : St) (ks : List Kl) (i : Nat) : (S.kp ks).sl i = (S.sl i).kp ks := by
  cases ks with
  | nil => exact (SV.kp_nil _).symm
  | cons k ks => rfl
theorem kp_mc (S : St) (ks : List Kl) (k i : Nat) : (S.kp ks).mc k i = (S.mc k i).kp ks := by
  cases ks with
  | nil => exact (Leaf.kp_nil _).symm
  | cons k ks => rfl
theorem kp_ow (S : St) (ks : List Kl) : (S.kp ks).ow = S.ow := by cases ks <;> rfl
theorem kp_ms (S : St) (ks : List Kl) : (S.kp ks).ms = S.ms := by cases ks <;> rfl
theorem ups_sl (us : List U) : ∀ S : St, (S.ups us).sl = S.sl := by
  induction us with
  | nil => intro S; rfl
  | cons u us ih => intro S; rw [St.ups, ih]; cases u <;> rfl
theorem Inv.put {b : Base} {S S' : St} {w : World} {c : Cc} (ho : S'.ow = S.ow) (hm : S'.ms = S.ms) (hc : S'.mc = S.mc) (h : Inv b S w c) : Inv b S' w c := by
  have hk : Kok b S' c = Kok b S c := kok_same ho hm
  refine ⟨?_, ?_, ?_, ?_, ?_, ?_, ?_, h.fix, h.os, h.tape, h.output, h.size, h.an⟩
  · intro k n hn
    rw [hm] at hn
    obtain ⟨cs, e, fr, h1, h2, h3, h4⟩ := h.ms k n hn
    exact ⟨cs, e, fr, h1, h2, h3, fun i v hv => by rw [hk, hc]; exact (leaf_same ho _ _).2 (h4 i v hv)⟩
  · intro k o hk'; rw [hk]; rw [ho] at hk'; exact h.ow k o hk'
  · intro k hk'; rw [ho] at hk'; exact h.nd k hk'
  · intro k k' hne h1 h2; rw [ho] at h1 h2; exact h.oo k k' hne h1 h2
  · intro k k' hne h1 h2; rw [hm] at h1 h2; exact h.mm k k' hne h1 h2
  · intro k k' h1 h2; rw [hm] at h1; rw [ho] at h2; exact h.mo k k' h1 h2
  · intro g hg; exact h.fr g ((owned_same ho hm g).1 hg)
end Go.V

namespace Go.V
open Go.RowKit
theorem all_of {ks : List Kl} {p : Kl → Bool} (h : ks.all p = true) {k : Kl} (hk : k ∈ ks) : p k = true := List.all_eq_true.1 h k hk
theorem Stay.of {b : Base} {S S' : St} {c c' : Cc} {w w' : World} {ks : List Kl} (hi : Inv b S w c)
    (h1 : ∀ k o, S.ow k = some o → .all k ∈ ks ∨ (S'.ow k = some o ∧ c'.hv k = c.hv k ∧ Same w w' (c.F k)) ∨
      (.deep k ∈ ks ∧ c'.hv k = c.hv k ∧ ∃ xs', S'.ow k = some ⟨o.e, o.r, xs'⟩ ∧ xs'.length = o.xs.length))
    (h2 : ∀ k n, S.ms k = some n → .m k ∈ ks ∨ (S'.ms k = some n ∧ c'.mb k = c.mb k))
    (kk : KSame w w' (Kok b S c) (Kok b S' c')) : Stay S S' c c' w w' (Kok b S c) (Kok b S' c') ks := by
  refine ⟨?_, ?_, ?_, kk⟩
  · rintro k st win v hk ⟨o, e, r, ys, h, ho, hg, hh, hw⟩
    rcases h1 k o ho with hx | ⟨h3, h4, h5⟩ | ⟨hx, h4, xs', h5, h6⟩
    · have := all_of hk hx
      simp [Kl.okV] at this
    · exact ⟨o, e, r, ys, h, h3, hg, by rw [h4, hdr_same (hi.ow k o ho) h5 hg]; exact hh, hw⟩
    · have := all_of hk hx
      simp only [Kl.okV, beq_self_eq_true, Bool.not_true, Bool.false_or, List.isEmpty_iff] at this
      subst this
      simp only [getT, Tr.run, Option.some.injEq] at hg
      injection hg with ha hb
      injection ha with _ he hr
      obtain ⟨oe, or, oxs⟩ := o
      simp only at he hr h5 h6 hb
      subst he hr
      obtain rfl := eq_of_heq hb
      exact ⟨_, oe, or, xs', h, h5, rfl, by rw [h4]; exact hh, by rw [h6]; exact hw⟩
  · rintro k st v hk ⟨o, a, ho, ha, rfl, pre, p, d, rfl, hd⟩
    rcases h1 k o ho with hx | ⟨h3, h4, h5⟩ | ⟨hx, h4, xs', h5, h6⟩
    · have := all_of hk hx
      simp [Kl.okE] at this
    · exact ⟨o, a, h3, by rw [h4, adr_same' pre _ _ p (hi.ow k o ho) h5 hd]; exact ha, rfl, pre, p, d, rfl, hd⟩
    · have := all_of hk hx
      simp only [Kl.okE, beq_self_eq_true, Bool.not_true, Bool.false_or, decide_eq_true_eq, List.length_append, List.length_cons, List.length_nil] at this
      obtain rfl : pre = [] := List.eq_nil_of_length_eq_zero (by omega)
      exact ⟨_, a, h5, by rw [h4]; rw [List.nil_append] at ha ⊢; rw [adr_one (w := w)]; exact ha, rfl, [], p, _, rfl, rfl⟩
  · rintro k off v hk ⟨n, hn, rfl⟩
    rcases h2 k n hn with hx | ⟨h3, h4⟩
    · have := all_of hk hx
      simp [Kl.okM] at this
    · exact ⟨n, h3, by rw [h4]⟩
theorem ksame {b : Base} {S S' : St} {c c' : Cc} {w w' : World} {T : Nat → Prop} (hst : Step w w' T) (hT : ∀ g, T g → Owned S c g) (ho : ∀ g, Owned S' c' g → Owned S c g ∨ w.heap.size ≤ g) :
    KSame w w' (Kok b S c) (Kok b S' c') :=
  ⟨hst.size, fun g ⟨h1, h2⟩ hg => ⟨hst.same g hg fun ht => h2 (hT g ht), h1, fun hx => (ho g hx).elim h2 fun h3 => by omega⟩⟩
theorem Inv.fix' {b : Base} {S : St} {c : Cc} {w w' : World} {T : Nat → Prop} (hi : Inv b S w c) (hst : Step w w' T) (hT : ∀ g, T g → Owned S c g) : ∀ g, g < b.w0.heap.size → ¬ b.O0 g → w'.heap[g]? = b.w0.heap[g]? := by
  intro g hg hn
  have hl := hi.size
  rw [hst.same g (by omega) fun ht => ?_]
  · exact hi.fix g hg hn
  · rcases (hi.fr g (hT g ht)).2 with h | h
    · omega
    · exact hn h
theorem Inv.newMem {b : Base} {S : St} {c : Cc} {w w' : World} (hi : Inv b S w c) (d : Nat) (hdn : d < b.n1) (row : List Leaf) (vs : List Value) (e : TypeId) (hw : w' = { w with heap := w.heap.push (.cells vs.toArray e) })
    (hrow : All2 (LeafOk S c w (Kok b S c)) row vs) :
    ∃ c', c'.mb d = w.heap.size ∧ Inv b ((S.kp [.m d]).up (.ms d row)) w' c' ∧ Stay S ((S.kp [.m d]).up (.ms d row)) c c' w w' (Kok b S c) (Kok b ((S.kp [.m d]).up (.ms d row)) c') [.m d] := by
  let c' : Cc := ⟨fun k => if k = d then w.heap.size else c.mb k, c.hv, c.F⟩
  generalize hS : (S.kp [.m d]).up (.ms d row) = S'
  have how : S'.ow = S.ow := by subst hS; rfl
  have hms : ∀ k, S'.ms k = if k = d then some row.length else S.ms k := by subst hS; intro k; rfl
  have hmc : ∀ k i, S'.mc k i = if k = d then row.getD i .no else (S.mc k i).kp [.m d] := by subst hS; intro k i; rfl
  have hst : Step w w' fun _ => False := by
    subst hw
    exact ⟨rfl, rfl, rfl, by simp, fun g hg _ => by simp [Array.getElem?_push, show ¬ (g = w.heap.size) by omega]⟩
  have hown : ∀ g, Owned S' c' g → Owned S c g ∨ w.heap.size ≤ g := by
    rintro g (⟨k, hk, rfl⟩ | ⟨k, hk, hg⟩)
    · by_cases hkd : k = d
      · subst hkd; right; simp [c']
      · left; left; exact ⟨k, by rw [hms, if_neg hkd] at hk; exact hk, by simp [c', hkd]⟩
    · left; right; exact ⟨k, by rw [how] at hk; exact hk, hg⟩
  have kk := ksame (b := b) hst (fun _ h => h.elim) hown
  have stay : Stay S S' c c' w w' (Kok b S c) (Kok b S' c') [.m d] := by
    refine Stay.of hi ?_ ?_ kk
    · intro k o ho
      exact .inr (.inl ⟨by rw [how]; exact ho, rfl, fun g hg => hst.same g (hi.fr g (.inr ⟨k, by rw [ho]; simp, hg⟩)).1 (fun h => h)⟩)
    · intro k n hn
      by_cases hkd : k = d
      · subst hkd; exact .inl (by simp)
      · exact .inr ⟨by rw [hms, if_neg hkd]; exact hn, by simp [c', hkd]⟩
  refine ⟨c', by simp [c'], ?_, stay⟩
  refine ⟨?_, ?_, ?_, ?_, ?_, ?_, ?_, hi.fix' hst (fun _ h => h.elim), hst.os.trans hi.os, hst.tape.trans hi.tape, hst.output.trans hi.output, Nat.le_trans hi.size hst.size, fun m g hg => by have := hi.an m g hg; simpa [c', show ¬ (b.n1 + m = d) by omega] using this⟩
  · intro k n hn
    rw [hms] at hn
    by_cases hkd : k = d
    · subst hkd
      rw [if_pos rfl] at hn
      injection hn with hn
      refine ⟨vs.toArray, e, (0, 0), ?_, ?_, ?_, ?_⟩
      · subst hw; simp [c']
      · rw [List.size_toArray, ← hrow.len]; exact hn
      · intro i _ h; simp at h
      · intro i v hv
        rw [List.getElem?_toArray] at hv
        have hi' : i < row.length := by rw [hrow.len]; exact (List.getElem?_eq_some_iff.1 hv).1
        obtain ⟨v', h1, h2⟩ := hrow.get (List.getElem?_eq_getElem hi')
        rw [hv] at h1
        injection h1 with h1
        subst h1
        rw [hmc, if_pos rfl, List.getD_eq_getElem?_getD, List.getElem?_eq_getElem hi', Option.getD_some]
        have h3 := stay.leaf h2
        have h4 : ∀ l : Leaf, l.kp [.m k] = l := by intro l; cases l <;> simp [Leaf.kp, Kl.okV]
        rw [h4] at h3
        exact h3
    · rw [if_neg hkd] at hn
      obtain ⟨cs, e', fr, h1, h2, h3, h4⟩ := hi.ms k n hn
      refine ⟨cs, e', fr, ?_, h2, h3, ?_⟩
      · have : c'.mb k = c.mb k := by simp [c', hkd]
        rw [this, hst.same _ (lt_size h1) (fun h => h)]; exact h1
      · intro i v hv
        rw [hmc, if_neg hkd]
        exact stay.leaf (h4 i v hv)
  · intro k o ho
    rw [how] at ho
    exact Rp.frame kk _ _ (hi.ow k o ho) fun g hg => hst.same g (hi.fr g (.inr ⟨k, by rw [ho]; simp, hg⟩)).1 (fun h => h)
  · intro k hk; rw [how] at hk; exact hi.nd k hk
  · intro k k' hne h1 h2; rw [how] at h1 h2; exact hi.oo k k' hne h1 h2
  · intro k k' hne h1 h2
    rw [hms] at h1 h2
    by_cases hkd : k = d
    · have hkd' : ¬ k' = d := fun h => hne (hkd.trans h.symm)
      rw [if_neg hkd'] at h2
      have := (hi.fr (c.mb k') (.inl ⟨k', h2, rfl⟩)).1
      simp only [c', hkd, if_true, hkd', if_false]; omega
    · rw [if_neg hkd] at h1
      have h5 := (hi.fr (c.mb k) (.inl ⟨k, h1, rfl⟩)).1
      by_cases hkd' : k' = d
      · simp only [c', hkd, if_false, hkd', if_true]; omega
      · rw [if_neg hkd'] at h2
        simp only [c', hkd, hkd', if_false]; exact hi.mm k k' hne h1 h2
  · intro k k' h1 h2
    rw [hms] at h1; rw [how] at h2
    by_cases hkd : k = d
    · simp only [c', hkd, if_true]
      intro hg
      have := (hi.fr _ (.inr ⟨k', h2, hg⟩)).1
      omega
    · rw [if_neg hkd] at h1
      simp only [c', hkd, if_false]; exact hi.mo k k' h1 h2
  · intro g hg
    rcases hown g hg with h | h
    · have := hi.fr g h
      exact ⟨Nat.lt_of_lt_of_le this.1 hst.size, this.2⟩
    · refine ⟨?_, .inl (Nat.le_trans hi.size h)⟩
      rcases hg with ⟨k, hk, rfl⟩ | ⟨k, hk, hg⟩
      · by_cases hkd : k = d
        · subst hw; simp [c', hkd]
        · rw [hms, if_neg hkd] at hk
          have := (hi.fr (c.mb k) (.inl ⟨k, hk, rfl⟩)).1
          have h6 : c'.mb k = c.mb k := by simp [c', hkd]
          rw [h6]; exact Nat.lt_of_lt_of_le this hst.size
      · rw [how] at hk
        exact Nat.lt_of_lt_of_le (hi.fr g (.inr ⟨k, hk, hg⟩)).1 hst.size
theorem Inv.setMem {b : Base} {S S' : St} {c : Cc} {w w' : World} (hi : Inv b S w c) (k off n : Nat) (l : Leaf) (v : Value) (hk : S.ms k = some n) (ho : off < n) (hl : LeafOk S c w (Kok b S c) l v)
    (hS : S' = S.up (.mc k off l)) (hw : w' = w.setCell ⟨c.mb k, off, none⟩ v) :
    Inv b S' w' c ∧ Stay S S' c c w w' (Kok b S c) (Kok b S' c) [] := by
  have how : S'.ow = S.ow := by subst hS; rfl
  have hms : S'.ms = S.ms := by subst hS; rfl
  have hmc : ∀ i j, S'.mc i j = if i = k then (if j = off then l else S.mc i j) else S.mc i j := by subst hS; intro i j; rfl
  have hKok : Kok b S' c = Kok b S c := kok_same how hms
  have hst : Step w w' fun g => g = c.mb k := by
    subst hw
    exact ⟨rfl, rfl, rfl, by simp [World.setCell], fun g _ hg => Below.heap_setCell _ _ _ _ hg⟩
  have hT : ∀ g, g = c.mb k → Owned S c g := fun g hg => .inl ⟨k, by rw [hk]; simp, hg.symm⟩
  have hF : ∀ k', S.ow k' ≠ none → Same w w' (c.F k') := fun k' hk' g hg => hst.same g (hi.fr g (.inr ⟨k', hk', hg⟩)).1 fun e => hi.mo k k' (by rw [hk]; simp) hk' (e ▸ hg)
  have kk : KSame w w' (Kok b S c) (Kok b S' c) := ksame hst hT (fun g hg => .inl ((owned_same how hms g).1 hg))
  have stay : Stay S S' c c w w' (Kok b S c) (Kok b S' c) [] := by
    refine Stay.of hi ?_ ?_ kk
    · intro k' o ho'
      exact .inr (.inl ⟨by rw [how]; exact ho', rfl, hF k' (by rw [ho']; simp)⟩)
    · intro k' n' hn'
      exact .inr ⟨by rw [hms]; exact hn', rfl⟩
  refine ⟨?_, stay⟩
  have hleaf : ∀ {l v}, LeafOk S c w (Kok b S c) l v → LeafOk S' c w' (Kok b S' c) l v := fun {l v} h => by
    have := stay.leaf h
    rwa [Leaf.kp_nil] at this
  refine ⟨?_, ?_, ?_, ?_, ?_, ?_, ?_, hi.fix' hst hT, hst.os.trans hi.os, hst.tape.trans hi.tape, hst.output.trans hi.output, Nat.le_trans hi.size hst.size, hi.an⟩
  · intro k' n' hn'
    rw [hms] at hn'
    obtain ⟨cs, e, fr, h1, h2, h3, h4⟩ := hi.ms k' n' hn'
    by_cases hkk : k' = k
    · subst hkk
      rw [hk] at hn'
      injection hn' with hn'
      refine ⟨cs.setIfInBounds off v, e, fr, by subst hw; exact setCell_blk h1 _ _, by simpa using h2, by simpa using h3, ?_⟩
      intro i u hu
      rw [hmc, if_pos rfl]
      by_cases hio : i = off
      · subst hio
        rw [if_pos rfl]
        rw [Array.getElem?_setIfInBounds_self_of_lt (by omega)] at hu
        injection hu with hu
        subst hu
        exact hleaf hl
      · rw [if_neg hio]
        rw [Array.getElem?_setIfInBounds_ne (Ne.symm hio)] at hu
        exact hleaf (h4 i u hu)
    · refine ⟨cs, e, fr, ?_, h2, h3, fun i u hu => ?_⟩
      · rw [hst.same _ (lt_size h1) (hi.mm k' k hkk (by rw [hn']; simp) (by rw [hk]; simp))]; exact h1
      · rw [hmc, if_neg hkk]; exact hleaf (h4 i u hu)
  · intro k' o ho'
    rw [how] at ho'
    exact Rp.frame kk _ _ (hi.ow k' o ho') (hF k' (by rw [ho']; simp))
  · intro k' hk'; rw [how] at hk'; exact hi.nd k' hk'
  · intro k1 k2 hne h1 h2; rw [how] at h1 h2; exact hi.oo k1 k2 hne h1 h2
  · intro k1 k2 hne h1 h2; rw [hms] at h1 h2; exact hi.mm k1 k2 hne h1 h2
  · intro k1 k2 h1 h2; rw [hms] at h1; rw [how] at h2; exact hi.mo k1 k2 h1 h2
  · intro g hg
    have := hi.fr g ((owned_same how hms g).1 hg)
    exact ⟨Nat.lt_of_lt_of_le this.1 hst.size, this.2⟩
theorem Inv.setOwn {b : Base} {S S' : St} {c : Cc} {w w' : World} (hi : Inv b S w c) (κ : Nat) (o' : Own) (gs : List Nat) (ks : List Kl) (h' : Value) (F' : List Nat)
    (how : ∀ k, S'.ow k = if k = κ then some o' else if k ∈ gs then none else S.ow k) (hms : S'.ms = S.ms) (hmc : ∀ k i, S'.mc k i = (S.mc k i).kp ks)
    (hgs : ∀ k, k ∈ gs → .all k ∈ ks) (hκ : ∀ o, S.ow κ = some o → .all κ ∈ ks ∨ (.deep κ ∈ ks ∧ h' = c.hv κ ∧ ∃ xs', o' = ⟨o.e, o.r, xs'⟩ ∧ xs'.length = o.xs.length))
    (hst : Step w w' fun g => ∃ k, (k = κ ∨ k ∈ gs) ∧ S.ow k ≠ none ∧ g ∈ c.F k)
    (hF : ∀ g, g ∈ F' → g < w'.heap.size ∧ ((∃ k, (k = κ ∨ k ∈ gs) ∧ S.ow k ≠ none ∧ g ∈ c.F k) ∨ w.heap.size ≤ g)) (hnd : F'.Nodup)
    (hR : ∀ K', KSame w w' (Kok b S c) K' → (∀ g, w.heap.size ≤ g → g ∉ F' → K' g) → Rp w' K' (.sl true o'.e o'.r) o'.xs [h'] F') :
    ∃ c', c'.mb = c.mb ∧ c'.hv κ = h' ∧ c'.F κ = F' ∧ Inv b S' w' c' ∧ Stay S S' c c' w w' (Kok b S c) (Kok b S' c') ks ∧ ∀ k, k ≠ κ → c'.hv k = c.hv k ∧ c'.F k = c.F k := by
  let c' : Cc := ⟨c.mb, fun k => if k = κ then h' else c.hv k, fun k => if k = κ then F' else c.F k⟩
  have hcF : ∀ k, k ≠ κ → c'.F k = c.F k := fun k hk => by simp [c', hk]
  have hch : ∀ k, k ≠ κ → c'.hv k = c.hv k := fun k hk => by simp [c', hk]
  have hcκ : c'.F κ = F' := by simp [c']
  have hT : ∀ g, (∃ k, (k = κ ∨ k ∈ gs) ∧ S.ow k ≠ none ∧ g ∈ c.F k) → Owned S c g := fun g ⟨k, _, h1, h2⟩ => .inr ⟨k, h1, h2⟩
  have hkept : ∀ k, k ≠ κ → S'.ow k ≠ none → k ∉ gs ∧ S.ow k ≠ none := by
    intro k hk h
    rw [how, if_neg hk] at h
    by_cases hg : k ∈ gs
    · rw [if_pos hg] at h; exact absurd rfl h
    · rw [if_neg hg] at h; exact ⟨hg, h⟩
  have hown : ∀ g, Owned S' c' g → Owned S c g ∨ w.heap.size ≤ g := by
    rintro g (⟨k, hk, rfl⟩ | ⟨k, hk, hg⟩)
    · exact .inl (.inl ⟨k, by rw [hms] at hk; exact hk, rfl⟩)
    · by_cases hkκ : k = κ
      · subst hkκ
        rw [hcκ] at hg
        rcases (hF g hg).2 with h | h
        · exact .inl (hT g h)
        · exact .inr h
      · rw [hcF k hkκ] at hg
        exact .inl (.inr ⟨k, (hkept k hkκ hk).2, hg⟩)
  have kk : KSame w w' (Kok b S c) (Kok b S' c') := ksame hst hT hown
  have hsame : ∀ k, k ≠ κ → k ∉ gs → S.ow k ≠ none → Same w w' (c.F k) := fun k hk hg ho g hgF => hst.same g (hi.fr g (.inr ⟨k, ho, hgF⟩)).1 (by
    rintro ⟨k2, h1, h2, h3⟩
    have hne : k ≠ k2 := by rintro rfl; exact h1.elim hk hg
    exact hi.oo k k2 hne ho h2 g hgF h3)
  have stay : Stay S S' c c' w w' (Kok b S c) (Kok b S' c') ks := by
    refine Stay.of hi ?_ ?_ kk
    · intro k o ho
      by_cases hkκ : k = κ
      · subst hkκ
        rcases hκ o ho with h | ⟨h1, h2, xs', h3, h4⟩
        · exact .inl h
        · exact .inr (.inr ⟨h1, by simp [c', h2], xs', by rw [how, if_pos rfl, h3], h4⟩)
      · by_cases hg : k ∈ gs
        · exact .inl (hgs k hg)
        · exact .inr (.inl ⟨by rw [how, if_neg hkκ, if_neg hg]; exact ho, hch k hkκ, hsame k hkκ hg (by rw [ho]; simp)⟩)
    · intro k n hn
      exact .inr ⟨by rw [hms]; exact hn, rfl⟩
  refine ⟨c', rfl, by simp [c'], hcκ, ?_, stay, fun k hk => ⟨hch k hk, hcF k hk⟩⟩
  refine ⟨?_, ?_, ?_, ?_, ?_, ?_, ?_, hi.fix' hst hT, hst.os.trans hi.os, hst.tape.trans hi.tape, hst.output.trans hi.output, Nat.le_trans hi.size hst.size, hi.an⟩
  · intro k n hn
    rw [hms] at hn
    obtain ⟨cs, e, fr, h1, h2, h3, h4⟩ := hi.ms k n hn
    refine ⟨cs, e, fr, ?_, h2, h3, fun i u hu => by rw [hmc]; exact stay.leaf (h4 i u hu)⟩
    show w'.heap[c.mb k]? = _
    rw [hst.same _ (lt_size h1) (by rintro ⟨k2, _, h5, h6⟩; exact hi.mo k k2 (by rw [hn]; simp) h5 h6)]; exact h1
  · intro k o ho
    by_cases hkκ : k = κ
    · subst hkκ
      rw [how, if_pos rfl] at ho
      injection ho with ho
      subst ho
      have : c'.hv k = h' := by simp [c']
      rw [this, hcκ]
      refine hR _ kk fun g hg hgF => ⟨.inr (.inl (Nat.le_trans hi.size hg)), ?_⟩
      rintro (⟨k2, h1, rfl⟩ | ⟨k2, h1, h2⟩)
      · rw [hms] at h1
        have := (hi.fr (c.mb k2) (.inl ⟨k2, h1, rfl⟩)).1
        have h9 : c'.mb k2 = c.mb k2 := rfl
        omega
      · by_cases hk2 : k2 = k
        · subst hk2; rw [hcκ] at h2; exact hgF h2
        · rw [hcF k2 hk2] at h2
          have := (hi.fr g (.inr ⟨k2, (hkept k2 hk2 h1).2, h2⟩)).1
          omega
    · have h1 := hkept k hkκ (by rw [ho]; simp)
      rw [how, if_neg hkκ, if_neg h1.1] at ho
      rw [hch k hkκ, hcF k hkκ]
      exact Rp.frame kk _ _ (hi.ow k o ho) (hsame k hkκ h1.1 h1.2)
  · intro k hk
    by_cases hkκ : k = κ
    · subst hkκ; rw [hcκ]; exact hnd
    · rw [hcF k hkκ]; exact hi.nd k (hkept k hkκ hk).2
  · intro k1 k2 hne h1 h2 g hg
    by_cases hk1 : k1 = κ
    · have hk2 : k2 ≠ κ := fun h => hne (hk1.trans h.symm)
      have h4 := hkept k2 hk2 h2
      rw [hcF k2 hk2]
      subst hk1
      rw [hcκ] at hg
      rcases (hF g hg).2 with ⟨k3, h5, h6, h7⟩ | h5
      · have hne3 : k3 ≠ k2 := by rintro rfl; exact h5.elim hk2 h4.1
        exact hi.oo k3 k2 hne3 h6 h4.2 g h7
      · intro hx
        have := (hi.fr g (.inr ⟨k2, h4.2, hx⟩)).1
        omega
    · have h3 := hkept k1 hk1 h1
      rw [hcF k1 hk1] at hg
      by_cases hk2 : k2 = κ
      · subst hk2
        rw [hcκ]
        intro hx
        rcases (hF g hx).2 with ⟨k3, h5, h6, h7⟩ | h5
        · have hne3 : k1 ≠ k3 := by rintro rfl; exact h5.elim hk1 h3.1
          exact hi.oo k1 k3 hne3 h3.2 h6 g hg h7
        · have := (hi.fr g (.inr ⟨k1, h3.2, hg⟩)).1
          omega
      · rw [hcF k2 hk2]
        exact hi.oo k1 k2 hne h3.2 (hkept k2 hk2 h2).2 g hg
  · intro k1 k2 hne h1 h2; rw [hms] at h1 h2; exact hi.mm k1 k2 hne h1 h2
  · intro k1 k2 h1 h2
    rw [hms] at h1
    by_cases hk2 : k2 = κ
    · subst hk2
      rw [hcκ]
      intro hx
      rcases (hF _ hx).2 with ⟨k3, _, h6, h7⟩ | h5
      · exact hi.mo k1 k3 h1 h6 h7
      · have := (hi.fr (c.mb k1) (.inl ⟨k1, h1, rfl⟩)).1
        have h9 : c'.mb k1 = c.mb k1 := rfl
        omega
    · rw [hcF k2 hk2]; exact hi.mo k1 k2 h1 (hkept k2 hk2 h2).2
  · intro g hg
    refine ⟨?_, ?_⟩
    · rcases hg with ⟨k, hk, rfl⟩ | ⟨k, hk, hg⟩
      · rw [hms] at hk
        exact Nat.lt_of_lt_of_le (hi.fr (c.mb k) (.inl ⟨k, hk, rfl⟩)).1 hst.size
      · by_cases hkκ : k = κ
        · subst hkκ; rw [hcκ] at hg; exact (hF g hg).1
        · rw [hcF k hkκ] at hg
          exact Nat.lt_of_lt_of_le (hi.fr g (.inr ⟨k, (hkept k hkκ hk).2, hg⟩)).1 hst.size
    · rcases hown g hg with h | h
      · exact (hi.fr g h).2
      · exact .inl (Nat.le_trans hi.size h)
end Go.V

namespace Go.V
open Go.RowKit
def zeroV : Ty → Value
  | .int k => .int k 0
  | .bool => .bool false
  | .str => .string ⟨#[]⟩
  | _ => .slice none 0 0
def zeroIs : Ty → Value → Bool
  | .int k, .int k' n => k == k' && n == 0
  | .bool, .bool b => !b
  | .str, .string s => s.data.isEmpty
  | .sl _ _ _, .slice none 0 0 => true
  | _, _ => false
theorem zeroIs_eq {t : Ty} {v : Value} (h : zeroIs t v = true) : v = zeroV t ∧ t.size = 1 ∧ ∀ a b, t ≠ .pair a b := by
  unfold zeroIs at h
  split at h
  · simp only [Bool.and_eq_true, beq_iff_eq] at h
    obtain ⟨rfl, rfl⟩ := h
    exact ⟨rfl, rfl, by simp⟩
  · rename_i b
    cases b
    · exact ⟨rfl, rfl, by simp⟩
    · cases h
  · rename_i s
    obtain ⟨d⟩ := s
    simp only [Array.isEmpty_iff] at h
    subst h
    exact ⟨rfl, rfl, by simp⟩
  · exact ⟨rfl, rfl, by simp⟩
  · cases h
def zerosAre : List Ty → List Value → Bool
  | [], [] => true
  | t :: ts, v :: vs => zeroIs t v && zerosAre ts vs
  | _, _ => false
theorem zerosAre_eq : ∀ {ts : List Ty} {vs : List Value}, zerosAre ts vs = true → vs = ts.map zeroV ∧ ∀ t ∈ ts, t.size = 1 ∧ ∀ a b, t ≠ .pair a b
  | [], [], _ => ⟨rfl, by simp⟩
  | t :: ts, v :: vs, h => by
    simp only [zerosAre, Bool.and_eq_true] at h
    obtain ⟨h1, h2⟩ := zeroIs_eq h.1
    obtain ⟨h3, h4⟩ := zerosAre_eq h.2
    refine ⟨by rw [h1, h3]; rfl, ?_⟩
    intro u hu
    rcases List.mem_cons.1 hu with rfl | hu
    · exact h2
    · exact h4 u hu
  | [], _ :: _, h => by simp [zerosAre] at h
  | _ :: _, [], h => by simp [zerosAre] at h
def descIs : Ty → TypeDesc → Bool
  | .int k, .int k' => k == k'
  | .bool, .bool => true
  | .str, .string => true
  | _, _ => false
def isAggD : TypeDesc → Bool
  | .struct _ | .array _ _ => true
  | _ => false
def fieldsAre (P : Program) : List (Nat × Nat × Bool) → List Field → Bool
  | [], [] => true
  | (o, n, ag) :: fs, f :: gs => f.offset == o && !(n == 0) && (match P.info? f.type with | some i => i.size == n | none => false) &&
      (match P.underlying f.type with | some d => isAggD d == ag | none => false) && fieldsAre P fs gs
  | _, _ => false
def eqAre (P : Program) : List Ty → List Field → Bool
  | [], [] => true
  | t :: ts, f :: gs => !(f.name == "_") && (match P.underlying f.type with | some d => descIs t d | none => false) && eqAre P ts gs
  | _, _ => false
def offsAre : List (Nat × Nat × Bool) → Nat → Bool
  | [], _ => true
  | (o, n, ag) :: fs, i => o == i && n == 1 && !ag && offsAre fs (i + 1)
def tyOk (P : Program) (t : TypeId) : TI → Bool
  | .cell u => (match P.underlying t with | some d => descIs u d | none => false) &&
      (match P.info? t with | some i => i.size == 1 && (match i.zero with | some z => zeroIs u z | none => false) | none => false)
  | .slice e ts bytes => (match P.underlying t with | some (.slice e') => e == e' | _ => false) &&
      (match P.info? t with | some i => i.size == 1 && (match i.zero with | some z => zeroIs (.sl true 0 .unit) z | none => false) | none => false) &&
      (match P.info? e with | some i => i.size == ts.length && i.bytes == bytes && !(bytes == 0) && !(ts.isEmpty) && (match i.zero with | some z => zerosAre ts z.cells.toList && !(ts.length == 1 && isAggD ((P.underlying e).getD .invalid) && false) | none => false) | none => false)
  | .struct fs row eq => (match P.underlying t with
      | some (.struct fields) => fieldsAre P fs fields.toList && (!eq || (eqAre P row fields.toList && offsAre fs 0 && !P.stoodInHeld t && !P.eqGuardType P.depth t))
      | _ => false) &&
      (match P.info? t with | some i => i.size == row.length && (match i.zero with | some (.agg cs) => zerosAre row cs.toList | _ => false) | none => false)
  | .ptr e => (match P.underlying t with | some (.pointer e') => e == e' | _ => false)
  | .other => true
def TabOk (P : Program) (ti : TypeId → TI) : Prop := ∀ t, tyOk P t (ti t) = true
section
variable {P : Program} {ti : TypeId → TI} (h : TabOk P ti) {t : TypeId}
include h
theorem TabOk.cell {u : Ty} (ht : ti t = .cell u) : (∃ d, P.underlying t = some d ∧ descIs u d = true) ∧ ∃ i, P.info? t = some i ∧ i.size = 1 ∧ i.zero = some (zeroV u) ∧ u.size = 1 := by
  have := h t
  rw [ht] at this
  simp only [tyOk, Bool.and_eq_true] at this
  obtain ⟨h1, h2⟩ := this
  split at h1
  · rename_i d hd
    refine ⟨⟨d, hd, h1⟩, ?_⟩
    split at h2
    · rename_i i hi
      simp only [Bool.and_eq_true, beq_iff_eq] at h2
      obtain ⟨h3, h4⟩ := h2
      split at h4
      · rename_i z hz; exact ⟨i, hi, h3, by rw [hz, (zeroIs_eq h4).1], (zeroIs_eq h4).2.1⟩
      · cases h4
    · cases h2
  · cases h1
theorem TabOk.slice {e : TypeId} {ts : List Ty} {bytes : Nat} (ht : ti t = .slice e ts bytes) : P.underlying t = some (.slice e) ∧ (∃ i, P.info? t = some i ∧ i.size = 1 ∧ i.zero = some (.slice none 0 0)) ∧
    0 < bytes ∧ 0 < ts.length ∧ ∃ i z, P.info? e = some i ∧ i.size = ts.length ∧ i.bytes = bytes ∧ i.zero = some z ∧ z.cells.toList = ts.map zeroV ∧ ∀ t ∈ ts, t.size = 1 ∧ ∀ a b, t ≠ .pair a b := by
  have := h t
  rw [ht] at this
  simp only [tyOk, Bool.and_eq_true] at this
  obtain ⟨⟨h1, h2⟩, h3⟩ := this
  refine ⟨?_, ?_, ?_⟩
  · split at h1
    · rename_i e' he; simp only [beq_iff_eq] at h1; rw [he, h1]
    · cases h1
  · split at h2
    · rename_i i hi
      simp only [Bool.and_eq_true, beq_iff_eq] at h2
      obtain ⟨h4, h5⟩ := h2
      split at h5
      · rename_i z hz; exact ⟨i, hi, h4, by rw [hz, (zeroIs_eq h5).1]; rfl⟩
      · cases h5
    · cases h2
  · split at h3
    · rename_i i hi
      simp only [Bool.and_eq_true, beq_iff_eq, Bool.not_eq_true', beq_eq_false_iff_ne] at h3
      obtain ⟨⟨⟨⟨h4, h5⟩, h6⟩, h7⟩, h8⟩ := h3
      split at h8
      · rename_i z hz
        simp only [Bool.and_eq_true] at h8
        obtain ⟨h9, h10⟩ := zerosAre_eq h8.1
        refine ⟨by omega, ?_, i, z, hi, h4, h5, hz, h9, h10⟩
        cases ts with
        | nil => simp at h7
        | cons a b => simp
      · cases h8
    · cases h3
theorem TabOk.struct {fs : List (Nat × Nat × Bool)} {row : List Ty} {eq : Bool} (ht : ti t = .struct fs row eq) : ∃ fields, P.underlying t = some (.struct fields) ∧ fieldsAre P fs fields.toList = true ∧
    (eq = true → eqAre P row fields.toList = true ∧ offsAre fs 0 = true ∧ P.stoodInHeld t = false ∧ P.eqGuardType P.depth t = false) ∧
    ∃ i, P.info? t = some i ∧ i.size = row.length ∧ i.zero = some (.agg (row.map zeroV).toArray) ∧ ∀ t ∈ row, t.size = 1 ∧ ∀ a b, t ≠ .pair a b := by
  have := h t
  rw [ht] at this
  simp only [tyOk, Bool.and_eq_true] at this
  obtain ⟨h1, h2⟩ := this
  split at h1
  · rename_i fields hf
    simp only [Bool.and_eq_true, Bool.or_eq_true, Bool.not_eq_true'] at h1
    refine ⟨fields, hf, h1.1, ?_, ?_⟩
    · intro he
      rcases h1.2 with h3 | h3
      · rw [he] at h3; cases h3
      · exact ⟨h3.1.1.1, h3.1.1.2, h3.1.2, h3.2⟩
    · split at h2
      · rename_i i hi
        simp only [Bool.and_eq_true, beq_iff_eq] at h2
        obtain ⟨h4, h5⟩ := h2
        split at h5
        · rename_i cs hz
          obtain ⟨h6, h7⟩ := zerosAre_eq h5
          refine ⟨i, hi, h4, ?_, h7⟩
          rw [hz, ← h6]
        · cases h5
      · cases h2
  · cases h1
theorem TabOk.ptr {e : TypeId} (ht : ti t = .ptr e) : P.underlying t = some (.pointer e) := by
  have := h t
  rw [ht] at this
  simp only [tyOk] at this
  split at this
  · rename_i e' he; simp only [beq_iff_eq] at this; rw [he, this]
  · cases this
end
def Tr.ev {α : Type} (S : St) : Tr α → Option α
  | .ret a => some a
  | .fail => none
  | .br c t e => if c = true then t.ev S else e.ev S
  | .get _ o f => o.bind fun b => (f b).ev S
  | .alt _ _ s f g => match s with
    | .inl b => (f b).ev S
    | .inr b => (g b).ev S
  | .rdO k f => (f (S.ow k)).ev S
  | .rdC k off f => (f (S.mc k off)).ev S
  | .rdM k f => (f (S.ms k)).ev S
theorem ev_bind {α β : Type} (S : St) (t : Tr α) (f : α → Tr β) : (t.bind f).ev S = (t.ev S).bind fun x => (f x).ev S := by
  induction t with
  | ret a => rfl
  | fail => rfl
  | br c t e ih1 ih2 => simp only [Tr.bind, Tr.ev]; split <;> assumption
  | get γ o g ih => cases o <;> simp [Tr.bind, Tr.ev, ih]
  | alt γ δ s g h ih1 ih2 => cases s <;> simp [Tr.bind, Tr.ev, ih1, ih2]
  | rdO k g ih => simp [Tr.bind, Tr.ev, ih]
  | rdC k off g ih => simp [Tr.bind, Tr.ev, ih]
  | rdM k g ih => simp [Tr.bind, Tr.ev, ih]
theorem at_ev {α : Type} (S : St) (t : Tr α) : ∀ (g : List Lg) {x : α} {l : List Lg}, (t.at S g).run = some (x, l) → t.ev S = some x := by
  induction t with
  | ret a => intro g x l h; simp only [Tr.at, Tr.run, Option.some.injEq, Prod.mk.injEq] at h; simp [Tr.ev, h.1]
  | fail => intro g x l h; simp [Tr.at, Tr.run] at h
  | br c t e ih1 ih2 =>
    intro g x l h
    simp only [Tr.at, Tr.run] at h
    simp only [Tr.ev]
    split at h
    · rename_i hc; rw [if_pos hc]; exact ih1 g h
    · rename_i hc; rw [if_neg hc]; exact ih2 g h
  | get γ o f ih =>
    intro g x l h
    simp only [Tr.at, run_get, Option.bind_eq_some_iff] at h
    obtain ⟨b, hb, h⟩ := h
    simp only [Tr.ev, hb, Option.bind_some]
    exact ih b g h
  | alt γ δ s f f' ih1 ih2 =>
    intro g x l h
    cases s with
    | inl b => exact ih1 b g h
    | inr b => exact ih2 b g h
  | rdO k f ih => intro g x l h; exact ih _ _ h
  | rdC k off f ih => intro g x l h; exact ih _ _ h
  | rdM k f ih => intro g x l h; exact ih _ _ h
theorem ev_iff {α : Type} {S : St} {c : Bool} {t : Tr α} {a : α} (h : (Tr.iff c t).ev S = some a) : c = true ∧ t.ev S = some a := by
  simp only [Tr.ev] at h
  split at h
  · exact ⟨by assumption, h⟩
  · cases h
theorem ev_get {S : St} : ∀ (st : Steps) (t : Ty) (x : t.D), (getT t x st).ev S = (getT t x st).run
  | [], _, _ => rfl
  | (i, j) :: ps, t, x => by
    match t, x with
    | .sl true e r, xs =>
      simp only [getT, Tr.ev, run_get]
      congr 1; funext row
      split
      · rename_i d _; exact ev_get ps d.1 d.2
      · rfl
    | .sl false _ _, _ => rfl
    | .int _, _ => rfl
    | .bool, _ => rfl
    | .str, _ => rfl
    | .unit, _ => rfl
    | .pair _ _, _ => rfl
theorem ev_set {S : St} : ∀ (st : Steps) (t : Ty) (x : t.D) (u : Ty) (z : u.D), (setT t x st u z).ev S = (setT t x st u z).run
  | [], t, x, u, z => by simp only [setT]; split <;> rfl
  | (i, j) :: ps, t, x, u, z => by
    match t, x with
    | .sl true e r, xs =>
      simp only [setT, Tr.ev, run_get]
      congr 1; funext row
      split
      · rename_i d _
        rw [ev_bind, run_bind, ev_set ps d.1 d.2 u z]
        congr 1; funext y
        split <;> rfl
      · rfl
    | .sl false _ _, _ => rfl
    | .int _, _ => rfl
    | .bool, _ => rfl
    | .str, _ => rfl
    | .unit, _ => rfl
    | .pair _ _, _ => rfl
theorem const_ok {S : St} {c : Cc} {w : World} {K : Nat → Prop} (v : Value) : SVOk S c w K (constSV v) v := by
  unfold constSV
  split
  · simp [SVOk, S1Ok, LeafOk, Rp]
  · simp [SVOk, S1Ok, LeafOk, Rp]
  · rename_i s; simp [SVOk, S1Ok, LeafOk, Rp]
  · simp [SVOk, S1Ok, LeafOk]
  · trivial
theorem opnd_ok {N : Nat} {S : St} {c : Cc} {w : World} {K : Nat → Prop} {a : Act} (hs : Slots N S c w K a) (x : Operand) : SVOk S c w K (opnd S x) (a.eval x) := by
  cases x with
  | tmp t => exact hs.ok t
  | const v => exact const_ok v
  | global g => trivial
  | func f => exact ⟨[], rfl, .nil⟩
theorem Rp.one {w : World} {K : Nat → Prop} : ∀ (t : Ty) (x : t.D) {vs F}, Rp w K t x vs F → ∀ v ∈ vs, v.oneCell' = true
  | .int _, _, _, _, h => by simp only [Rp] at h; simp [h.1, Value.oneCell']
  | .bool, _, _, _, h => by simp only [Rp] at h; simp [h.1, Value.oneCell']
  | .str, _, _, _, h => by simp only [Rp] at h; simp [h.1, Value.oneCell']
  | .unit, _, _, _, h => by simp only [Rp] at h; simp [h.1]
  | .pair a b, x, _, _, h => by
    simp only [Rp] at h
    obtain ⟨v1, v2, F1, F2, rfl, _, h1, h2⟩ := h
    intro v hv
    rcases List.mem_append.1 hv with hv | hv
    · exact Rp.one a _ h1 v hv
    · exact Rp.one b _ h2 v hv
  | .sl true _ r, _, _, _, h => by
    simp only [Rp] at h
    rcases h with ⟨_, _, rfl⟩ | ⟨g, off, c, cs, fr, F', rfl, _⟩ <;> simp [Value.oneCell']
  | .sl false _ r, _, _, _, h => by
    simp only [Rp] at h
    obtain ⟨_, A, c, ws, rfl, _⟩ := h
    simp [Value.oneCell']
theorem own_slice {w : World} {K : Nat → Prop} {e : TypeId} {r : Ty} {xs : List r.D} {h : Value} {F : List Nat} (hp : Rp w K (.sl true e r) xs [h] F) : ∃ A cap, h = .slice A xs.length cap ∧ (A = none → xs = [] ∧ cap = 0 ∧ F = []) := by
  simp only [Rp] at hp
  rcases hp with ⟨rfl, rfl, h1⟩ | ⟨g, off, cap, cs, fr, F', h1, _⟩
  · injection h1 with h1; exact ⟨none, 0, h1, fun _ => ⟨rfl, rfl, rfl⟩⟩
  · injection h1 with h1; exact ⟨_, cap, h1, fun h => by cases h⟩
theorem win_slice {size len : Nat} {win : Option (Nat × Nat)} {A : Option Addr} {cap : Nat} {v : Value} (h : WinOk size len win (.slice A len cap) v) : ∃ A' n cap', v = .slice A' n cap' := by
  cases win with
  | none => exact ⟨A, len, cap, h⟩
  | some p =>
    obtain ⟨lo, m⟩ := p
    obtain ⟨A0, n0, cap0, A', cap', q, _, h2, _⟩ := h
    exact ⟨A', _, cap', h2⟩
theorem vw_slice {b : Base} {S : St} {c : Cc} {w : World} {K : Nat → Prop} (hi : Inv b S w c) {k : Nat} {st : Steps} {win : Option (Nat × Nat)} {v : Value} (h : LeafOk S c w K (.vw k st win) v) : ∃ A n cap, v = .slice A n cap := by
  obtain ⟨o, e, r, ys, hd, ho, hg, hh, hw⟩ := h
  obtain ⟨h', F', h1, h2, _⟩ := Rp.reach st _ _ (hi.ow k o ho) hg
  rw [hh] at h1
  injection h1 with h1
  subst h1
  obtain ⟨A, cap, rfl, _⟩ := own_slice h2
  exact win_slice hw
theorem leaf_one {b : Base} {S : St} {c : Cc} {w : World} {K : Nat → Prop} (hi : Inv b S w c) {l : Leaf} {v : Value} (h : LeafOk S c w K l v) (hl : l.is = true) : v.oneCell' = true := by
  cases l with
  | v t x => exact Rp.one t x h v (by simp)
  | vw k st win => obtain ⟨A, n, cap, rfl⟩ := vw_slice hi h; rfl
  | qn e => obtain ⟨q, rfl, _⟩ := h; rfl
  | nil => rw [show v = .slice none 0 0 from h]; rfl
  | no => cases hl
theorem one_cells {v : Value} (h : v.oneCell' = true) : v.cells = #[v] := by cases v <;> first | rfl | (simp [Value.oneCell'] at h)
theorem leaves_ok {b : Base} {S : St} {c : Cc} {w : World} {K : Nat → Prop} (hi : Inv b S w c) {x : SV} {v : Value} {ls : List Leaf} (hx : SVOk S c w K x v) (hl : leaves x = some ls) :
    ∃ vs : List Value, v.cells = vs.toArray ∧ All2 (LeafOk S c w K) ls vs ∧ (∀ u ∈ vs, u.oneCell' = true) := by
  match x, hx, hl with
  | .s (.one l), hx, hl =>
    simp only [leaves] at hl
    split at hl
    · rename_i hl'
      injection hl with hl
      subst hl
      have := leaf_one hi hx hl'
      exact ⟨[v], one_cells this, .cons hx .nil, by simpa using this⟩
    · cases hl
  | .s (.ag ls'), hx, hl =>
    simp only [leaves] at hl
    split at hl
    · rename_i hl'
      injection hl with hl
      subst hl
      obtain ⟨vs, rfl, hv⟩ := hx
      refine ⟨vs, rfl, hv, ?_⟩
      intro u hu
      have key : ∀ (ls : List Leaf) (vs : List Value), All2 (LeafOk S c w K) ls vs → ls.all Leaf.is = true → ∀ u ∈ vs, u.oneCell' = true := by
        intro ls vs h
        induction h with
        | nil => intro _ u hu; cases hu
        | cons h1 _ ih =>
          intro hall u hu
          simp only [List.all_cons, Bool.and_eq_true] at hall
          rcases List.mem_cons.1 hu with rfl | hu
          · exact leaf_one hi h1 hall.1
          · exact ih hall.2 u hu
      exact key _ _ hv hl' u hu
    · cases hl
  | .s (.pl ..), _, hl => simp [leaves] at hl
  | .s (.el ..), _, hl => simp [leaves] at hl
  | .s (.rp ..), _, hl => simp [leaves] at hl
  | .s (.fv ..), _, hl => simp [leaves] at hl
  | .tu _, _, hl => simp [leaves] at hl
  | .un, _, hl => simp [leaves] at hl
  | .no, _, hl => simp [leaves] at hl
end Go.V

namespace Go.V
open Go.RowKit
def Did (b : Base) (S : St) (c : Cc) (w : World) (out : Out) (v : Value) (w' : World) : Prop :=
  ∃ c', Inv b ((S.kp out.ks).ups out.us) w' c' ∧ Stay S ((S.kp out.ks).ups out.us) c c' w w' (Kok b S c) (Kok b ((S.kp out.ks).ups out.us) c') out.ks ∧
    SVOk ((S.kp out.ks).ups out.us) c' w' (Kok b ((S.kp out.ks).ups out.us) c') out.x v
theorem Did.same {b : Base} {S : St} {c : Cc} {w : World} (hi : Inv b S w c) {x : SV} {v : Value} (hx : SVOk S c w (Kok b S c) x v) : Did b S c w ⟨x, [], []⟩ v w :=
  ⟨c, hi, ⟨fun _ _ _ _ _ h => h, fun _ _ _ _ h => h, fun _ _ _ _ h => h, KSame.refl _ _⟩, hx⟩
theorem Did.sim {b : Base} {N : Nat} {S : St} {c : Cc} {w w' : World} {a : Act} {out : Out} {v : Value} (hs : Slots N S c w (Kok b S c) a) (h : Did b S c w out v w') (d : Option Nat) (hd : ∀ k, d = some k → k < N)
    (hfx : ∀ p, p ∈ b.fx → a.tmps.getD p.1 undef = p.2) (hdx : ∀ k, d = some k → ∀ p, p ∈ b.fx → p.1 ≠ k) :
    Sim b N (S.app d out) (a.put d v) w' := by
  obtain ⟨c', h1, h2, h3⟩ := h
  refine ⟨c', h1.put (putO_ow ..) (putO_ms ..) (putO_mc ..), ?_, put_fx hfx hdx⟩
  show Slots N (((S.kp out.ks).ups out.us).putO d out.x) c' w' (Kok b (((S.kp out.ks).ups out.us).putO d out.x) c') _
  rw [kok_same (putO_ow _ d out.x) (putO_ms _ d out.x)]
  exact h2.slots hs (fun i => by rw [ups_sl, kp_sl]) d out.x v hd h3 (fun l v => leaf_same (putO_ow ..) l v) (fun x v => s1_same (putO_ow ..) (putO_ms ..) x v)
section
variable {P : Program} {w : World} {K : Nat → Prop} {S : St} {c : Cc}
theorem ba_toList (l : List UInt8) : (⟨l.toArray⟩ : ByteArray).toList = l := by
  simp
theorem int_leaf {k : IntKind} {n : Int} {v : Value} (h : LeafOk S c w K (.v (.int k) n) v) : v = .int k n := by
  have := h; simp only [LeafOk, Rp] at this; simpa using this.1
theorem bool_leaf {n : Bool} {v : Value} (h : LeafOk S c w K (.v .bool n) v) : v = .bool n := by
  have := h; simp only [LeafOk, Rp] at this; simpa using this.1
theorem str_leaf {n : List UInt8} {v : Value} (h : LeafOk S c w K (.v .str n) v) : v = .string ⟨n.toArray⟩ := by
  have := h; simp only [LeafOk, Rp] at this; simpa using this.1
theorem mk_int {k : IntKind} {n : Int} : LeafOk S c w K (.v (.int k) n) (.int k n) := by simp [LeafOk, Rp]
theorem mk_bool {n : Bool} : LeafOk S c w K (.v .bool n) (.bool n) := by simp [LeafOk, Rp]
theorem mk_str {n : List UInt8} : LeafOk S c w K (.v .str n) (.string ⟨n.toArray⟩) := by simp [LeafOk, Rp]
theorem sv_leaf {l : Leaf} {v : Value} (h : LeafOk S c w K l v) : SVOk S c w K (.s (.one l)) v := h
theorem leaf_sv {l : Leaf} {v : Value} (h : SVOk S c w K (.s (.one l)) v) : LeafOk S c w K l v := h
theorem guard_one (op : BinOp) (t : TypeId) (x y : Operand) {u v : Value} (hu : u.oneCell' = true) (hn : u ≠ .nilIface) : eqGuard op t x y u v = pure () := by
  cases u <;> first | (simp [Value.oneCell'] at hu; done) | (exact absurd rfl hn) | (cases op <;> rfl)
theorem equalIn_bool (d : Nat) (t : TypeId) (a b : Bool) (ht : P.underlying t = some .bool) : (Op.equalIn (d + 1) t (.bool a) (.bool b)).run P w = .ok (a == b) w := by
  simp only [Op.equalIn, Sem.run_bind, run_underlying ht, Result.andThen_ok, Sem.run_pure]
theorem equalIn_int (d : Nat) (t : TypeId) (k k' : IntKind) (a b : Int) (ht : P.underlying t = some (.int k')) : (Op.equalIn (d + 1) t (.int k a) (.int k b)).run P w = .ok (a == b) w := by
  simp only [Op.equalIn, Sem.run_bind, run_underlying ht, Result.andThen_ok, if_true, Sem.run_pure]
theorem bool_eql (t : TypeId) (a b : Bool) (ht : P.underlying t = some .bool) : (binOp .eql t (.bool a) (.bool b)).run P w = .ok (.bool (a == b)) w := by
  simp only [binOp, Op.equal, Sem.run_bind, show Op.maxDepth = 9999 + 1 from rfl, equalIn_bool _ _ _ _ ht, Result.andThen_ok, Sem.run_pure]
theorem bool_neq (t : TypeId) (a b : Bool) (ht : P.underlying t = some .bool) : (binOp .neq t (.bool a) (.bool b)).run P w = .ok (.bool (a != b)) w := by
  simp only [binOp, Op.equal, Sem.run_bind, show Op.maxDepth = 9999 + 1 from rfl, equalIn_bool _ _ _ _ ht, Result.andThen_ok, Sem.run_pure]
  rfl
theorem vbin_ok (op : BinOp) (t : TypeId) (x y : Leaf) (u v : Value) (l : Leaf) (hx : LeafOk S c w K x u) (hy : LeafOk S c w K y v) (h : (vbin op x y).ev S = some l)
    (ht : ∀ a, x = .v .bool a → P.underlying t = some .bool) : ∃ r, (binOp op t u v).run P w = .ok r w ∧ LeafOk S c w K l r := by
  unfold vbin at h
  split at h
  · rename_i k a k' b'
    obtain rfl := int_leaf hx
    obtain rfl := int_leaf hy
    split at h
    · obtain ⟨h1, h2⟩ := ev_iff h
      simp only [decide_eq_true_eq] at h1
      simp only [Tr.ev, Option.some.injEq] at h2
      subst h2
      have : ¬ ((b' : Int) < 0) := Int.not_lt.2 h1
      exact ⟨_, by simp [binOp, Op.shift, this], mk_int⟩
    · obtain ⟨h1, h2⟩ := ev_iff h
      simp only [decide_eq_true_eq] at h1
      simp only [Tr.ev, Option.some.injEq] at h2
      subst h2
      have : ¬ ((b' : Int) < 0) := Int.not_lt.2 h1
      exact ⟨_, by simp [binOp, Op.shift, this], mk_int⟩
    · rename_i hs1 hs2
      split at h
      · rename_i hk
        subst hk
        split at h
        case h_4 | h_5 =>
          obtain ⟨h1, h2⟩ := ev_iff h
          simp only [decide_eq_true_eq] at h1
          simp only [Tr.ev, Option.some.injEq] at h2
          subst h2
          exact ⟨_, by simp [binOp, Op.intDiv, h1], mk_int⟩
        case h_16 => simp [Tr.ev] at h
        all_goals
          simp only [Tr.ev, Option.some.injEq] at h
          subst h
        · exact ⟨_, by simp [binOp, Op.intArith] <;> rfl, mk_int⟩
        · exact ⟨_, by simp [binOp, Op.intArith] <;> rfl, mk_int⟩
        · exact ⟨_, by simp [binOp, Op.intArith] <;> rfl, mk_int⟩
        · exact ⟨_, by simp [binOp, Op.intBits] <;> rfl, mk_int⟩
        · exact ⟨_, by simp [binOp, Op.intBits] <;> rfl, mk_int⟩
        · exact ⟨_, by simp [binOp, Op.intBits] <;> rfl, mk_int⟩
        · exact ⟨_, by simp [binOp, Op.intBits] <;> rfl, mk_int⟩
        · exact ⟨_, by simp [binOp, Op.intCmp] <;> rfl, mk_bool⟩
        · exact ⟨_, by simp [binOp, Op.intCmp] <;> rfl, mk_bool⟩
        · exact ⟨_, by simp [binOp, Op.intCmp] <;> rfl, mk_bool⟩
        · exact ⟨_, by simp [binOp, Op.intCmp] <;> rfl, mk_bool⟩
        · exact ⟨_, by simp [binOp, Op.intCmp] <;> rfl, mk_bool⟩
        · exact ⟨_, by simp [binOp, Op.intCmp] <;> rfl, mk_bool⟩
      · simp [Tr.ev] at h
  · rename_i a b'
    obtain rfl := bool_leaf hx
    obtain rfl := bool_leaf hy
    have htt := ht a rfl
    split at h
    · simp only [Tr.ev, Option.some.injEq] at h; subst h; exact ⟨_, bool_eql t a b' htt, mk_bool⟩
    · simp only [Tr.ev, Option.some.injEq] at h; subst h; exact ⟨_, bool_neq t a b' htt, mk_bool⟩
    · simp [Tr.ev] at h
  · rename_i a b'
    obtain rfl := str_leaf hx
    obtain rfl := str_leaf hy
    have e1 := ba_toList a
    have e2 := ba_toList b'
    split at h
    · obtain ⟨h1, h2⟩ := ev_iff h
      simp only [decide_eq_true_eq] at h1
      simp only [Tr.ev, Option.some.injEq] at h2
      subst h2
      refine ⟨.string (⟨(List.toArray a)⟩ ++ ⟨List.toArray b'⟩), ?_, ?_⟩
      · have : ¬ ((9223372036854775807 : Int) < (List.length a : Int) + (List.length b' : Int)) := by omega
        simp [binOp, Op.stringOp, ByteArray.size, this]
      · have : (⟨(List.toArray a)⟩ ++ ⟨List.toArray b'⟩ : ByteArray) = ⟨((a : List UInt8) ++ b').toArray⟩ := by
          apply ByteArray.ext; simp
        rw [this]; exact mk_str
    · simp only [Tr.ev, Option.some.injEq] at h; subst h; exact ⟨_, by simp [binOp, Op.stringOp, e1, e2] <;> rfl, mk_bool⟩
    · simp only [Tr.ev, Option.some.injEq] at h; subst h; exact ⟨_, by simp [binOp, Op.stringOp, e1, e2] <;> rfl, mk_bool⟩
    · simp only [Tr.ev, Option.some.injEq] at h; subst h; exact ⟨_, by simp [binOp, Op.stringOp, e1, e2] <;> rfl, mk_bool⟩
    · simp only [Tr.ev, Option.some.injEq] at h; subst h; exact ⟨_, by simp [binOp, Op.stringOp, e1, e2] <;> rfl, mk_bool⟩
    · simp only [Tr.ev, Option.some.injEq] at h; subst h; exact ⟨_, by simp [binOp, Op.stringOp, e1, e2] <;> rfl, mk_bool⟩
    · simp only [Tr.ev, Option.some.injEq] at h; subst h; exact ⟨_, by simp [binOp, Op.stringOp, e1, e2] <;> rfl, mk_bool⟩
    · simp [Tr.ev] at h
  · simp [Tr.ev] at h
theorem vun_ok (op : UnOp) (x : Leaf) (u : Value) (l : Leaf) (hx : LeafOk S c w K x u) (h : (vun op x).ev S = some l) : ∃ r, (Op.unary op u).run P w = .ok r w ∧ LeafOk S c w K l r := by
  unfold vun at h
  split at h
  · obtain rfl := int_leaf hx
    split at h
    · simp only [Tr.ev, Option.some.injEq] at h; subst h; exact ⟨_, by simp [Op.unary, Op.intArith] <;> rfl, mk_int⟩
    · simp only [Tr.ev, Option.some.injEq] at h; subst h; exact ⟨_, by simp [Op.unary, Op.intBits] <;> rfl, mk_int⟩
    · simp [Tr.ev] at h
  · obtain rfl := bool_leaf hx
    split at h
    · simp only [Tr.ev, Option.some.injEq] at h; subst h; exact ⟨_, by simp [Op.unary] <;> rfl, mk_bool⟩
    · simp [Tr.ev] at h
  · simp [Tr.ev] at h
end
end Go.V

namespace Go.V
open Go.RowKit
theorem drop_take_take {α : Type} (l : List α) (a b n k : Nat) (h : a + b ≤ n) : (((l.drop k).take n).drop a).take b = (l.drop (k + a)).take b := by
  rw [List.drop_take, List.drop_drop, List.take_take]
  congr 1; omega
theorem own_win {w : World} {K : Nat → Prop} {e : TypeId} {r : Ty} {ys : List r.D} {h v : Value} {F : List Nat} {lo m : Nat} (hp : Rp w K (.sl true e r) ys [h] F) (hnd : F.Nodup) (hw : WinOk r.size ys.length (some (lo, m)) h v) :
    ∃ F', Rp w K (.sl true e r) ((ys.drop lo).take m) [v] F' ∧ (∀ g, g ∈ F' → g ∈ F) ∧ F'.Nodup := by
  obtain ⟨A, n, cap, A', cap', q, hh, hv, hle, hq, hlo, hnone, hsome⟩ := hw
  have hlen : ((ys.drop lo).take m).length = min m (ys.length - lo) := by rw [List.length_take, List.length_drop]
  simp only [Rp] at hp ⊢
  rcases hp with ⟨rfl, rfl, h1⟩ | ⟨g, off, c, cs, fr, F0, h1, rfl, hg, hn, hoff, hc, hr⟩
  · injection h1 with h1
    rw [hh] at h1
    injection h1 with h2 h3 h4
    obtain ⟨h5, h6⟩ := hnone h2
    subst h5 h6
    refine ⟨[], .inl ⟨by simp, rfl, ?_⟩, by simp, by simp⟩
    rw [hv]; simp
  · injection h1 with h1 _
    rw [hh] at h1
    injection h1 with h2 h3 h4
    subst h2 h3 h4
    have hA := hsome _ rfl
    subst hA
    have hsplit : ys = ys.take lo ++ ((ys.drop lo).take m ++ (ys.drop lo).drop m) := by rw [List.take_append_drop, List.take_append_drop]
    rw [hsplit] at hr
    obtain ⟨v1, v23, F1, F23, e1, rfl, r1, r23⟩ := RpL.split hr
    obtain ⟨v2, v3, F2, F3, rfl, rfl, r2, r3⟩ := RpL.split r23
    have l1 := RpL.len (fun x vs F h => Rp.len r x h) r1
    have l2 := RpL.len (fun x vs F h => Rp.len r x h) r2
    have l3 := RpL.len (fun x vs F h => Rp.len r x h) r3
    refine ⟨g :: F2, .inr ⟨g, off + q * r.size, cap', cs, fr, F2, ?_, rfl, hg, hn, ?_, ?_, ?_⟩, ?_, ?_⟩
    · rw [hv, hlen, add_blk]
    · have : (q + cap') * r.size ≤ cap * r.size := Nat.mul_le_mul_right _ hq
      rw [Nat.add_mul] at this; omega
    · rw [hlen]; exact hle
    · rw [hlen]
      rcases Nat.eq_zero_or_pos (min m (ys.length - lo)) with hz | hz
      · rw [hz]
        have hnil : (ys.drop lo).take m = [] := List.eq_nil_of_length_eq_zero (by rw [hlen, hz])
        rw [hnil] at r2 ⊢
        simp only [Nat.zero_mul, List.take_zero]
        exact ⟨rfl, r2.2⟩
      · have hqlo := hlo hz
        subst hqlo
        rw [List.take_append_drop, List.take_append_drop] at e1
        have hlo' : q < ys.length := by omega
        have hl1 : v1.length = q * r.size := by rw [l1, List.length_take]; congr 1; omega
        have hl2 : v2.length = min m (ys.length - q) * r.size := by rw [l2, hlen]
        have : (cs.toList.drop (off + q * r.size)).take (min m (ys.length - q) * r.size) = v2 := by
          have hb : q * r.size + min m (ys.length - q) * r.size ≤ ys.length * r.size := by rw [← Nat.add_mul]; exact Nat.mul_le_mul_right _ (by omega)
          have := drop_take_take cs.toList (q * r.size) (min m (ys.length - q) * r.size) (ys.length * r.size) off hb
          rw [← this, e1, ← hl1, List.drop_left, ← hl2, List.take_left]
        rw [this]; exact r2
    · intro b hb
      rcases List.mem_cons.1 hb with rfl | hb
      · simp
      · simp [hb]
    · rw [List.nodup_cons] at hnd ⊢
      refine ⟨fun hb => hnd.1 (by simp [hb]), ?_⟩
      exact (List.nodup_append.1 (List.nodup_append.1 hnd.2).2.1).1
theorem view_own {b : Base} {S : St} {c : Cc} {w : World} (hi : Inv b S w c) {k : Nat} {st : Steps} {win : Option (Nat × Nat)} {v : Value} {o : Own} (h : LeafOk S c w (Kok b S c) (.vw k st win) v) (hv : (viewT k st win).ev S = some o) :
    S.ow k ≠ none ∧ ∃ F', Rp w (Kok b S c) (.sl true o.e o.r) o.xs [v] F' ∧ (∀ g, g ∈ F' → g ∈ c.F k) ∧ F'.Nodup := by
  obtain ⟨o0, e, r, ys, hd, ho, hg, hh, hw⟩ := h
  refine ⟨by rw [ho]; simp, ?_⟩
  simp only [viewT, Tr.ev, ho, ev_bind, Option.bind_eq_some_iff] at hv
  obtain ⟨c0, hc0, hv⟩ := hv
  rw [ev_get] at hc0
  rw [hg] at hc0
  injection hc0 with hc0
  subst hc0
  have hown := hi.ow k o0 ho
  have hndk := hi.nd k (by rw [ho]; simp)
  obtain ⟨h', F', h1, h2, h3, h9, _⟩ := Rp.reach st _ _ hown hg
  rw [hh] at h1
  injection h1 with h1
  subst h1
  have hnd' : F'.Nodup := h9 hndk
  cases win with
  | none =>
    simp only [Tr.ev, Option.some.injEq] at hv
    subst hv
    have hw' : v = hd := hw
    subst hw'
    exact ⟨F', h2, h3, hnd'⟩
  | some p =>
    obtain ⟨lo, m⟩ := p
    simp only [Tr.ev, Option.some.injEq] at hv
    subst hv
    obtain ⟨F2, h4, h5, h6⟩ := own_win h2 hnd' hw
    exact ⟨F2, h4, fun g hg => h3 g (h5 g hg), h6⟩
def winLen (win : Option (Nat × Nat)) (n : Nat) : Nat := match win with | none => n | some (lo, m) => min m (n - lo)
theorem view_info {b : Base} {S : St} {c : Cc} {w : World} (hi : Inv b S w c) {k : Nat} {st : Steps} {win : Option (Nat × Nat)} {v : Value} {o : Own} (h : LeafOk S c w (Kok b S c) (.vw k st win) v) (hv : (viewT k st win).ev S = some o) :
    ∃ (o0 : Own) (ys : List o.r.D) (A : Option Addr) (cap : Nat), S.ow k = some o0 ∧ (getT (.sl true o0.e o0.r) o0.xs st).run = some ⟨.sl true o.e o.r, ys⟩ ∧ hdr w (c.hv k) (.sl true o0.e o0.r) st = some (.slice A ys.length cap) ∧
      (A = none → ys.length = 0 ∧ cap = 0) ∧ WinOk o.r.size ys.length win (.slice A ys.length cap) v ∧ o.xs.length = winLen win ys.length ∧
      Rp w (Kok b S c) (.sl true o0.e o0.r) o0.xs [c.hv k] (c.F k) := by
  obtain ⟨o0, e, r, ys, hd, hk, hg, hh, hw⟩ := h
  simp only [viewT, Tr.ev, hk, ev_bind, Option.bind_eq_some_iff] at hv
  obtain ⟨c0, hc0, hv⟩ := hv
  rw [ev_get, hg] at hc0
  injection hc0 with hc0
  subst hc0
  have hown := hi.ow k o0 hk
  obtain ⟨hd', Fd, g1, g2, _⟩ := Rp.reach st _ _ hown hg
  rw [hh] at g1
  injection g1 with g1
  subst g1
  obtain ⟨Ad, capd, rfl, hnd'⟩ := own_slice g2
  have hz : Ad = none → ys.length = 0 ∧ capd = 0 := fun hA => ⟨by have h8 : ys = [] := (hnd' hA).1; rw [h8]; rfl, (hnd' hA).2.1⟩
  cases win with
  | none => simp only [Tr.ev, Option.some.injEq] at hv; subst hv; exact ⟨o0, ys, Ad, capd, hk, hg, hh, hz, hw, rfl, hown⟩
  | some p =>
    obtain ⟨lo, m⟩ := p
    simp only [Tr.ev, Option.some.injEq] at hv; subst hv
    exact ⟨o0, ys, Ad, capd, hk, hg, hh, hz, hw, by simp [List.length_take, List.length_drop, winLen], hown⟩
theorem own_read {w : World} {K : Nat → Prop} {e : TypeId} {r : Ty} {xs : List r.D} {v : Value} {F : List Nat} (hp : Rp w K (.sl true e r) xs [v] F) :
    ∃ A cap ws F', v = .slice A xs.length cap ∧ RpL (Rp w K r) xs ws F' ∧ (∀ g, g ∈ F' → g ∈ F) ∧ (A = none → xs = [] ∧ cap = 0) ∧
      (xs = [] ∨ ∃ ad, A = some ad ∧ ad.block < w.heap.size ∧ ∀ j, j < ws.length → w.cell? (ad.add j) = ws[j]?) := by
  simp only [Rp] at hp
  rcases hp with ⟨rfl, rfl, h1⟩ | ⟨g, off, cap, cs, fr, F', h1, rfl, hg, hn, hoff, hc, hr⟩
  · injection h1 with h1
    exact ⟨none, 0, [], [], h1, ⟨rfl, rfl⟩, by simp, fun _ => ⟨rfl, rfl⟩, .inl rfl⟩
  · injection h1 with h1
    refine ⟨_, cap, _, F', h1, hr, fun b hb => by simp [hb], fun h => (by cases h), .inr ⟨_, rfl, lt_size hg, fun j hj => ?_⟩⟩
    rw [add_blk, cell_blk hg, List.getElem?_take, List.getElem?_drop, ← Array.getElem?_toList]
    rw [List.length_take] at hj
    rw [if_pos (by omega)]
theorem data_read {b : Base} {S : St} {c : Cc} {w : World} (hi : Inv b S w c) {l : Leaf} {v : Value} {o : Own} (h : LeafOk S c w (Kok b S c) l v) (hv : (dataT l).ev S = some o) :
    ∃ A cap ws F', v = .slice A o.xs.length cap ∧ RpL (Rp w (Kok b S c) o.r) o.xs ws F' ∧
      (o.xs = [] ∨ ∃ ad, A = some ad ∧ ad.block < w.heap.size ∧ ∀ j, j < ws.length → w.cell? (ad.add j) = ws[j]?) := by
  unfold dataT at hv
  split at hv
  · rename_i o' e r xs
    simp only [Tr.ev, Option.some.injEq] at hv
    subst hv
    cases o' with
    | true =>
      obtain ⟨A, cap, ws, F', h1, h2, _, _, h3⟩ := own_read h
      exact ⟨A, cap, ws, F', h1, h2, h3⟩
    | false =>
      simp only [LeafOk, Rp] at h
      obtain ⟨_, A, cap, ws, h1, _, h2, h3⟩ := h
      injection h1 with h1
      refine ⟨A, cap, ws, [], h1, h2, ?_⟩
      rcases h3 with h3 | ⟨ad, h4, _, h5, h6⟩
      · exact .inl h3
      · exact .inr ⟨ad, h4, h5, h6⟩
  · obtain ⟨_, F', h1, _, _⟩ := view_own hi h hv
    obtain ⟨A, cap, ws, F2, h2, h3, _, _, h4⟩ := own_read h1
    exact ⟨A, cap, ws, F2, h2, h3, h4⟩
  · simp [Tr.ev] at hv
theorem len_ok {b : Base} {S : St} {c : Cc} {w : World} (hi : Inv b S w c) {t : TI} {l : Leaf} {v : Value} {n : Nat} (h : LeafOk S c w (Kok b S c) l v) (hv : (lenT t l).ev S = some n) :
    (∃ s : ByteArray, v = .string s ∧ s.size = n ∧ t.isStr = true) ∨ (t.isSl = true ∧ ∃ A cap, v = .slice A n cap) := by
  unfold lenT at hv
  split at hv
  · split at hv
    · simp only [Tr.ev, Option.some.injEq] at hv
      subst hv
      rw [str_leaf h]
      exact .inl ⟨_, rfl, by simp [ByteArray.size], by assumption⟩
    · simp [Tr.ev] at hv
  · rename_i o e r xs
    split at hv
    · simp only [Tr.ev, Option.some.injEq] at hv
      subst hv
      obtain ⟨A, cap, ws, F', h1, _⟩ := data_read (o := ⟨e, r, xs⟩) hi h (by simp [dataT, Tr.ev])
      exact .inr ⟨by assumption, A, cap, h1⟩
    · simp [Tr.ev] at hv
  · split at hv
    · simp only [ev_bind, Option.bind_eq_some_iff, Tr.ev, Option.some.injEq] at hv
      obtain ⟨o, ho, rfl⟩ := hv
      obtain ⟨A, cap, ws, F', h1, _⟩ := data_read hi h (by simpa [dataT] using ho)
      exact .inr ⟨by assumption, A, cap, h1⟩
    · simp [Tr.ev] at hv
  · split at hv
    · simp only [Tr.ev, Option.some.injEq] at hv
      subst hv
      rw [show v = .slice none 0 0 from h]
      exact .inr ⟨by assumption, none, 0, rfl⟩
    · simp [Tr.ev] at hv
  · simp [Tr.ev] at hv
theorem win_cut {size len : Nat} {win : Option (Nat × Nat)} {h v : Value} {A : Option Addr} {n cap : Nat} (hl : h = .slice A len cap ∧ (A = none → len = 0 ∧ cap = 0)) (hv : WinOk size len win h v) {A1 : Option Addr} {cap1 : Nat}
    (hv1 : v = .slice A1 n cap1) {lo m mx : Nat} (hle : lo + m ≤ n) (hmx : lo + m ≤ mx) (hcap : mx ≤ cap1) (A2 : Option Addr) (hA : A2 = if mx = lo then A1 else A1.map (·.add (lo * size)))
    (hlen : ∀ p, win = some p → n = min p.2 (len - p.1)) (hlen0 : win = none → n = len) : WinOk size len (cutWin win lo m) h (.slice A2 m (mx - lo)) := by
  subst hA
  obtain ⟨rfl, hnone⟩ := hl
  cases win with
  | none =>
    have hv' : v = .slice A len cap := hv
    rw [hv'] at hv1
    injection hv1 with e1 e2 e3
    subst e1 e2 e3
    refine ⟨A, len, cap, (if mx = lo then A else A.map (·.add (lo * size))), mx - lo, if mx = lo then 0 else lo, rfl, ?_, ?_, ?_, ?_, ?_, ?_⟩
    · congr 1; omega
    · have : min m (len - lo) = m := by omega
      omega
    · split <;> omega
    · intro hz; rw [if_neg (by omega)]
    · intro hn
      obtain ⟨h1, h2⟩ := hnone hn
      subst hn
      refine ⟨?_, by omega⟩
      split <;> rfl
    · intro a ha
      subst ha
      split
      · simp [Addr.add]
      · rfl
  | some p =>
    obtain ⟨l0, m0⟩ := p
    obtain ⟨A0, n0, cap0, A', cap', q, e0, e1, h1, h2, h3, h4, h5⟩ := hv
    injection e0 with f1 f2 f3
    subst f1 f2 f3
    rw [e1] at hv1
    injection hv1 with f1 f2 f3
    subst f1 f3
    have hn := hlen _ rfl
    simp only at hn
    refine ⟨A, len, cap, (if mx = lo then A' else A'.map (·.add (lo * size))), mx - lo, if mx = lo then q else q + lo, rfl, ?_, ?_, ?_, ?_, ?_, ?_⟩
    · congr 1; omega
    · have : min m (len - (l0 + lo)) = m := by omega
      omega
    · split <;> omega
    · intro hz
      rw [if_neg (by omega)]
      have := h3 (by omega)
      omega
    · intro hA
      obtain ⟨g1, g2⟩ := h4 hA
      refine ⟨?_, by omega⟩
      subst g1
      split <;> rfl
    · intro a ha
      have := h5 a ha
      subst this
      split
      · rfl
      · simp only [Option.map_some, add_add, Option.some.injEq]
        congr 1; rw [Nat.add_mul]
end Go.V

namespace Go.V
open Go.RowKit
section
variable {P : Program} {ti : TypeId → TI} {w : World}
theorem isStr_eq {t : TI} (h : t.isStr = true) : t = .cell .str := by
  unfold TI.isStr at h; split at h
  · rfl
  · cases h
theorem isSlOf_eq {t : TI} {n : Nat} (h : t.isSlOf n = true) : ∃ e ts bytes, t = .slice e ts bytes ∧ ts.length = n := by
  unfold TI.isSlOf at h; split at h
  · exact ⟨_, _, _, rfl, by simpa using h⟩
  · cases h
theorem isSl_eq {t : TI} (h : t.isSl = true) : ∃ e ts bytes, t = .slice e ts bytes := by
  unfold TI.isSl at h; split at h
  · exact ⟨_, _, _, rfl⟩
  · cases h
theorem str_under (hT : TabOk P ti) {t : TypeId} (h : (ti t).isStr = true) : P.underlying t = some .string := by
  obtain ⟨⟨d, hd, he⟩, _⟩ := hT.cell (isStr_eq h)
  rw [hd]; cases d <;> first | rfl | (simp [descIs] at he; done)
theorem rowTy_size : ∀ (ts : List Ty), (∀ t ∈ ts, t.size = 1) → (rowTy ts).size = ts.length
  | [], _ => rfl
  | [t], h => by simpa [rowTy] using h t (by simp)
  | t :: u :: ts, h => by
    have := rowTy_size (u :: ts) fun x hx => h x (by simp [hx])
    simp only [rowTy, Ty.size, h t (by simp), this, List.length_cons]; omega
theorem sl_under (hT : TabOk P ti) {t : TypeId} {n : Nat} (h : (ti t).isSlOf n = true) : ∃ e i, P.underlying t = some (.slice e) ∧ P.info? e = some i ∧ i.size = n := by
  obtain ⟨e, ts, bytes, he, hn⟩ := isSlOf_eq h
  obtain ⟨h1, _, _, _, i, z, h2, h3, _⟩ := hT.slice he
  exact ⟨e, i, h1, h2, by rw [h3, hn]⟩
theorem sl_under' (hT : TabOk P ti) {t : TypeId} (h : (ti t).isSl = true) : ∃ e i, P.underlying t = some (.slice e) ∧ P.info? e = some i := by
  obtain ⟨e, ts, bytes, he⟩ := isSl_eq h
  obtain ⟨h1, _, _, _, i, z, h2, _⟩ := hT.slice he
  exact ⟨e, i, h1, h2⟩
theorem bound_ok {N : Nat} {S : St} {c : Cc} {a : Act} {K : Nat → Prop} (hs : Slots N S c w K a) {x : Option Operand} {d : Nat} {n : Int} (h : (bound (x.map (opnd S)) d).ev S = some n) :
    (x = none ∧ n = d) ∨ ∃ y k, x = some y ∧ a.eval y = .int k n := by
  cases x with
  | none => simp only [Option.map_none, bound, Tr.ev, Option.some.injEq] at h; exact .inl ⟨rfl, h.symm⟩
  | some y =>
    simp only [Option.map_some] at h
    have hy := opnd_ok hs y
    unfold bound at h
    split at h
    · simp at *
    · rename_i k n' he
      injection he with he
      rw [he] at hy
      simp only [Tr.ev, Option.some.injEq] at h
      subst h
      have hy' : LeafOk S c w K (.v (.int k) n') (a.eval y) := hy
      exact .inr ⟨y, k, rfl, int_leaf hy'⟩
    · simp [Tr.ev] at h
theorem bounds_ok {N : Nat} {S : St} {c : Cc} {a : Act} {K : Nat → Prop} (hs : Slots N S c w K a) {len : Nat} {lo hi mx : Option Operand} {f : Nat → Nat → Tr SV} {r : SV}
    (h : (boundsT len (lo.map (opnd S)) (hi.map (opnd S)) (mx.map (opnd S)) f).ev S = some r) (isS : Bool) (cap : Nat) (hcap : len ≤ cap) (hmx : isS = false → mx = none) :
    ∃ l n m, (f l n).ev S = some r ∧ l + n ≤ len ∧ l + n ≤ m ∧ m ≤ cap ∧ (mx = none → m = cap) ∧ (Instr.sliceBounds isS len cap (lo.map a.eval) (hi.map a.eval) (mx.map a.eval)).run P w = .ok (l, l + n, m) w := by
  simp only [boundsT, ev_bind, Option.bind_eq_some_iff] at h
  obtain ⟨l, hl, hh, hhh, m, hm, g0⟩ := h
  obtain ⟨c1, g1⟩ := ev_iff g0
  obtain ⟨c2, g2⟩ := ev_iff g1
  obtain ⟨c3, g3⟩ := ev_iff g2
  obtain ⟨c4, g4⟩ := ev_iff g3
  obtain ⟨c5, g5⟩ := ev_iff g4
  simp only [decide_eq_true_eq] at c2 c3 c4 c5
  have hlo := bound_ok hs hl
  have hhi := bound_ok hs hhh
  have hmm := bound_ok hs hm
  obtain ⟨l', rfl⟩ := Int.eq_ofNat_of_zero_le c2
  obtain ⟨h', rfl⟩ := Int.eq_ofNat_of_zero_le (show (0 : Int) ≤ hh by omega)
  obtain ⟨m', rfl⟩ := Int.eq_ofNat_of_zero_le (show (0 : Int) ≤ m by omega)
  simp only [Int.toNat_natCast] at g5
  have c3' : l' ≤ h' := by omega
  have c4' : h' ≤ m' := by omega
  have c5' : m' ≤ len := by omega
  have e : l' + (h' - l') = h' := by omega
  have s1 : ∀ (x : Operand) (k : IntKind) (i y : Nat) (code : BoundsCode), a.eval x = .int k (i : Int) → i ≤ y → (Instr.sliceBound (a.eval x) y code).run P w = .ok i w := by
    intro x k i y code hx hiy
    rw [hx]
    simp only [Instr.sliceBound, asIntOf, Sem.run_bind, Sem.run_pure, Result.andThen_ok, Sem.run_ite]
    rw [if_pos ⟨by omega, by omega⟩]; simp
  rcases hmm with ⟨rfl, hm0⟩ | ⟨my, mk, rfl, hme⟩
  · refine ⟨l', h' - l', cap, g5, by omega, by omega, Nat.le_refl _, fun _ => rfl, ?_⟩
    rw [e]
    rcases hhi with ⟨rfl, hh0⟩ | ⟨hy, hk, rfl, hhe⟩
    · obtain rfl : h' = len := by omega
      rcases hlo with ⟨rfl, hl0⟩ | ⟨ly, lk, rfl, hle⟩
      · obtain rfl : l' = 0 := by omega
        simp [Instr.sliceBounds]
      · simp [Instr.sliceBounds, s1 ly lk l' _ _ hle c3']
    · rcases hlo with ⟨rfl, hl0⟩ | ⟨ly, lk, rfl, hle⟩
      · obtain rfl : l' = 0 := by omega
        cases isS <;> simp [Instr.sliceBounds, s1 hy hk h' _ _ hhe (show h' ≤ cap by omega)]
      · cases isS <;> simp [Instr.sliceBounds, s1 hy hk h' _ _ hhe (show h' ≤ cap by omega), s1 ly lk l' _ _ hle c3']
  · rcases hhi with ⟨rfl, hh0⟩ | ⟨hy, hk, rfl, hhe⟩
    · simp at c1
    · refine ⟨l', h' - l', m', g5, by omega, by omega, by omega, fun hx => (by cases hx), ?_⟩
      rw [e]
      cases isS with
      | false => cases hmx rfl
      | true =>
        rcases hlo with ⟨rfl, hl0⟩ | ⟨ly, lk, rfl, hle⟩
        · obtain rfl : l' = 0 := by omega
          simp [Instr.sliceBounds, s1 my mk m' _ _ hme (show m' ≤ cap by omega), s1 hy hk h' _ _ hhe c4']
        · simp [Instr.sliceBounds, s1 my mk m' _ _ hme (show m' ≤ cap by omega), s1 hy hk h' _ _ hhe c4', s1 ly lk l' _ _ hle c3']
theorem extract_str (s : List UInt8) (l n : Nat) (_h : l + n ≤ s.length) : (⟨s.toArray⟩ : ByteArray).extract l (l + n) = ⟨((s.drop l).take n).toArray⟩ := by
  apply ByteArray.ext
  simp only [ByteArray.data_extract]
  apply Array.ext'
  simp [List.extract_eq_take_drop]
theorem slice_ok {b : Base} {N : Nat} {S : St} {c : Cc} {a : Act} (hT : TabOk P ti) (hi : Inv b S w c) (hs : Slots N S c w (Kok b S c) a) {t : TypeId} {x : Leaf} {v : Value} {lo hi' mx : Option Operand} {r : SV}
    (hx : LeafOk S c w (Kok b S c) x v) (h : (sliceT (ti t) x (lo.map (opnd S)) (hi'.map (opnd S)) (mx.map (opnd S))).ev S = some r) :
    ∃ u, (Instr.sliceAt t v (lo.map a.eval) (hi'.map a.eval) (mx.map a.eval)).run P w = .ok u w ∧ SVOk S c w (Kok b S c) r u := by
  unfold sliceT at h
  split at h
  · rename_i s
    split at h
    · rename_i hc
      simp only [Bool.and_eq_true, Option.isNone_iff_eq_none, Option.map_eq_none_iff] at hc
      obtain ⟨hc, rfl⟩ := hc
      obtain rfl := str_leaf hx
      have hu := str_under hT hc
      obtain ⟨l, n, m, h1, h2, h3, h4, h5, h6⟩ := bounds_ok (P := P) hs h false s.length (Nat.le_refl _) (fun _ => rfl)
      simp only [Tr.ev, Option.some.injEq] at h1
      subst h1
      simp only [Option.map_none] at h6
      refine ⟨.string ⟨((s.drop l).take n).toArray⟩, ?_, sv_leaf mk_str⟩
      simp only [Instr.sliceAt, Instr.slice, Sem.run_bind, run_underlying hu, Result.andThen_ok, Option.map_none, Option.isSome_none, Bool.false_eq_true, if_false]
      have hsz : (ByteArray.mk s.toArray).size = s.length := by simp [ByteArray.size]
      simp [hsz, h6, extract_str s l n h2]
    · simp [Tr.ev] at h
  · rename_i e r' xs
    split at h
    · rename_i hc
      obtain ⟨e', i, hu, hie, hsz⟩ := sl_under hT hc
      simp only [LeafOk, Rp] at hx
      obtain ⟨_, A, cap, ws, hv, hcap, hr, hxs⟩ := hx
      injection hv with hv
      subst hv
      obtain ⟨l, n, m, h1, h2, h3, h4, h5, h6⟩ := bounds_ok (P := P) hs h true cap hcap (fun hx => (by cases hx))
      simp only [Tr.ev, Option.some.injEq] at h1
      subst h1
      refine ⟨.slice (if m = l then A else A.map (·.add (l * r'.size))) n (m - l), ?_, ?_⟩
      · simp only [Instr.sliceAt, Instr.slice, Sem.run_bind, run_underlying hu, Result.andThen_ok, h6, sizeOf, typeInfo, Sem.run_pure]
        simp [hie, hsz, Nat.add_sub_cancel_left]
      · have hlen : ((xs.drop l).take n).length = n := by rw [List.length_take, List.length_drop]; omega
        have hsplit : xs = xs.take l ++ ((xs.drop l).take n ++ (xs.drop l).drop n) := by rw [List.take_append_drop, List.take_append_drop]
        rw [hsplit] at hr
        obtain ⟨v1, v23, F1, F23, e1, eF, r1, r23⟩ := RpL.split hr
        obtain ⟨v2, v3, F2, F3, rfl, rfl, r2, r3⟩ := RpL.split r23
        have l1 := RpL.len (fun x vs F h => Rp.len r' x h) r1
        have hF2 : F2 = [] := by
          have := congrArg List.length eF
          simp only [List.length_nil, List.length_append] at this
          exact List.eq_nil_of_length_eq_zero (by omega)
        subst hF2
        simp only [SVOk, S1Ok, LeafOk, Rp]
        refine ⟨trivial, _, _, v2, by rw [hlen], by rw [hlen]; omega, r2, ?_⟩
        rcases Nat.eq_zero_or_pos n with hz | hz
        · left; exact List.eq_nil_of_length_eq_zero (by rw [hlen, hz])
        · right
          rcases hxs with rfl | ⟨ad, rfl, k1, k2, k3⟩
          · simp at h2; omega
          · refine ⟨ad.add (l * r'.size), by rw [if_neg (by omega)]; rfl, by rw [add_block]; exact k1, by rw [add_block]; exact k2, fun j hj => ?_⟩
            rw [add_add, k3 _ (by rw [e1]; simp only [List.length_append]; rw [l1, List.length_take, Nat.min_eq_left (by omega)]; omega), e1]
            have : l * r'.size = v1.length := by rw [l1, List.length_take, Nat.min_eq_left (by omega)]
            rw [this, List.getElem?_append_right (by omega), List.getElem?_append_left (by omega)]
            congr 1; omega
    · simp [Tr.ev] at h
  · rename_i k st win
    simp only [ev_bind, Option.bind_eq_some_iff] at h
    obtain ⟨o, ho, h⟩ := h
    split at h
    · rename_i hc
      obtain ⟨e', i, hu, hie, hsz⟩ := sl_under hT hc
      obtain ⟨hne, F', hp, hsub, hnd⟩ := view_own hi hx ho
      obtain ⟨A, cap, ws, F2, rfl, hr, _, hnone, hxs⟩ := own_read hp
      have hcap : o.xs.length ≤ cap := by
        simp only [Rp] at hp
        rcases hp with ⟨h1, _⟩ | ⟨g, off, c1, cs, fr, F0, h1, _, _, _, _, h2, _⟩
        · rw [h1]; simp
        · injection h1 with h1 _; injection h1 with _ _ h1; omega
      obtain ⟨l, n, m, h1, h2, h3, h4, h5, h6⟩ := bounds_ok (P := P) hs h true cap hcap (fun hx => (by cases hx))
      simp only [Tr.ev, Option.some.injEq] at h1
      subst h1
      refine ⟨.slice (if m = l then A else A.map (·.add (l * o.r.size))) n (m - l), ?_, ?_⟩
      · simp only [Instr.sliceAt, Instr.slice, Sem.run_bind, run_underlying hu, Result.andThen_ok, h6, sizeOf, typeInfo, Sem.run_pure]
        simp [hie, hsz, Nat.add_sub_cancel_left]
      · obtain ⟨o0, ys, Ad, capd, hk, hg, hh, hz, hw, hl, _⟩ := view_info hi hx ho
        refine ⟨o0, _, o.r, ys, _, hk, hg, hh, ?_⟩
        refine win_cut (n := o.xs.length) ⟨rfl, hz⟩ hw rfl h2 h3 h4 _ rfl ?_ ?_
        · intro p hp'; subst hp'; exact hl
        · intro hp'; subst hp'; exact hl
    · simp [Tr.ev] at h
  · split at h
    · rename_i hc
      obtain ⟨e', i, hu, hie⟩ := sl_under' hT hc
      obtain rfl : v = .slice none 0 0 := hx
      obtain ⟨l, n, m, h1, h2, h3, h4, h5, h6⟩ := bounds_ok (P := P) hs h true 0 (Nat.le_refl _) (fun hx => (by cases hx))
      simp only [Tr.ev, Option.some.injEq] at h1
      subst h1
      obtain rfl : l = 0 := by omega
      obtain rfl : n = 0 := by omega
      obtain rfl : m = 0 := by omega
      refine ⟨.slice none 0 0, ?_, rfl⟩
      simp only [Instr.sliceAt, Instr.slice, Sem.run_bind, run_underlying hu, Result.andThen_ok, h6, sizeOf, typeInfo, Sem.run_pure]
      simp [hie]
    · simp [Tr.ev] at h
  · simp [Tr.ev] at h
theorem index_ok {b : Base} {S : St} {c : Cc} (hT : TabOk P ti) (hi : Inv b S w c) {t : TypeId} {x : Leaf} {v : Value} {k : IntKind} {i : Int} {r : SV}
    (hx : LeafOk S c w (Kok b S c) x v) (h : (indexT (ti t) x i).ev S = some r) :
    ∃ u, (Instr.indexAt t v (.int k i)).run P w = .ok u w ∧ SVOk S c w (Kok b S c) r u := by
  unfold indexT at h
  replace h := ev_iff h
  obtain ⟨c1, h⟩ := h
  simp only [decide_eq_true_eq] at c1
  obtain ⟨j, rfl⟩ := Int.eq_ofNat_of_zero_le c1
  simp only [Int.toNat_natCast] at h
  split at h
  · rename_i e r' xs
    split at h
    · rename_i hc
      obtain ⟨e', ie, hu, hie, hsz⟩ := sl_under hT hc
      simp only [Tr.ev, Option.bind_eq_some_iff, Option.some.injEq] at h
      obtain ⟨row, hrow, rfl⟩ := h
      have hj : j < xs.length := (List.getElem?_eq_some_iff.1 hrow).1
      simp only [LeafOk, Rp] at hx
      obtain ⟨_, A, cap, ws, hv, hcap, hr, hxs⟩ := hx
      injection hv with hv
      subst hv
      rcases hxs with rfl | ⟨ad, rfl, k1, k2, k3⟩
      · simp at hj
      obtain ⟨v1, u, v2, F1, G, F2, rfl, l1, hF, hp, _, _⟩ := RpL.get (fun x vs F h => Rp.len r' x h) hr hrow
      have hG : G = [] := by
        have := congrArg List.length hF
        simp only [List.length_nil, List.length_append] at this
        exact List.eq_nil_of_length_eq_zero (by omega)
      subst hG
      refine ⟨.pointer (some (ad.add (j * r'.size))), ?_, ⟨ad.add (j * r'.size), u, by simp [Addr.add], hp, by rw [add_block]; exact k1, by rw [add_block]; exact k2, fun m hm => ?_⟩⟩
      · have hlt : (j : Int) < (List.length xs : Int) := by omega
        simp only [Instr.indexAt, run_underlying hu, asIntOf, sizeOf, typeInfo, hie, Sem.run_bind, Result.andThen_ok, Sem.run_pure, Sem.run_ite, run_program]
        rw [if_pos ⟨c1, hlt⟩]; simp [hsz]
      · rw [add_add, k3 _ (by simp only [List.length_append]; omega)]
        rw [List.getElem?_append_right (by omega), List.getElem?_append_left (by omega)]
        congr 1; omega
    · simp [Tr.ev] at h
  · rename_i k' st win
    simp only [ev_bind, Option.bind_eq_some_iff] at h
    obtain ⟨o, ho, h⟩ := h
    split at h
    · rename_i hc
      obtain ⟨e', ie, hu, hie, hsz⟩ := sl_under hT hc
      replace h := ev_iff h
      obtain ⟨c2, h⟩ := h
      simp only [decide_eq_true_eq] at c2
      have hj : j < o.xs.length := by omega
      simp only [Tr.ev, Option.some.injEq] at h
      subst h
      obtain ⟨o0, ys, Ad, capd, hk, hg, hh, hz, hw, hl, hown⟩ := view_info hi hx ho
      have hval : ∃ a0 cap', v = .slice (some (a0.add (winLo win * o.r.size))) o.xs.length cap' ∧ Ad = some a0 := by
        cases Ad with
        | none =>
          have h8 := (hz rfl).1
          rw [h8] at hl
          cases win with
          | none => simp only [winLen] at hl; omega
          | some p => obtain ⟨lo, m'⟩ := p; simp only [winLen] at hl; omega
        | some a0 =>
          cases win with
          | none =>
            have hw' : v = .slice (some a0) ys.length capd := hw
            exact ⟨a0, capd, by rw [hw', hl]; simp [Addr.add, winLo, winLen], rfl⟩
          | some p =>
            obtain ⟨lo, m'⟩ := p
            obtain ⟨A0, n0, cap0, A', cap', q, e0, e1, h1, h2, h3, h4, h5⟩ := hw
            injection e0 with f1 f2 f3
            subst f1
            have := h5 a0 rfl
            subst this
            simp only [winLen] at hl
            have hq : q = lo := h3 (by omega)
            subst hq
            exact ⟨a0, cap', by rw [e1, hl]; rfl, rfl⟩
      obtain ⟨a0, cap', rfl, rfl⟩ := hval
      refine ⟨.pointer (some ((a0.add (winLo win * o.r.size)).add (j * o.r.size))), ?_, ?_⟩
      · have hlt : (j : Int) < (List.length o.xs : Int) := by omega
        simp only [Instr.indexAt, run_underlying hu, asIntOf, sizeOf, typeInfo, hie, Sem.run_bind, Result.andThen_ok, Sem.run_pure, Sem.run_ite, run_program]
        rw [if_pos ⟨c1, hlt⟩]; simp [hsz]
      · refine ⟨o0, _, hk, ?_, rfl, st, _, _, rfl, hg⟩
        rw [add_add, ← Nat.add_mul]
        exact adr_snoc st _ hown hg hh
    · simp [Tr.ev] at h
  · simp [Tr.ev] at h
end
end Go.V

namespace Go.V
open Go.RowKit
section
variable {P : Program} {ti : TypeId → TI}
theorem size_of (hT : TabOk P ti) {t : TypeId} {ts : List Ty} (h : (ti t).cells = some ts) : ∃ i, P.info? t = some i ∧ i.size = ts.length ∧ (∃ d, P.underlying t = some d ∧ isAggD d = (ti t).isAgg) ∧
    ((ti t).isAgg = false → ∃ u, ts = [u]) ∧ ∃ z, i.zero = some z ∧ z.cells.toList = ts.map zeroV ∧ ∀ u ∈ ts, u.size = 1 ∧ ∀ a b, u ≠ .pair a b := by
  cases ht : ti t with
  | cell u =>
    rw [ht] at h
    simp only [TI.cells, Option.some.injEq] at h
    subst h
    obtain ⟨⟨d, hd, hdd⟩, i, hi, h1, h2, h3⟩ := hT.cell ht
    refine ⟨i, hi, h1, ⟨d, hd, ?_⟩, fun _ => ⟨u, rfl⟩, _, h2, ?_, ?_⟩
    · cases u <;> cases d <;> first | rfl | (simp [descIs] at hdd; done)
    · cases u <;> first | rfl | (simp [Ty.size] at h3; done) | (cases d <;> simp [descIs] at hdd)
    · intro v hv
      simp only [List.mem_singleton] at hv
      subst hv
      refine ⟨h3, ?_⟩
      cases v <;> cases d <;> first | (simp [descIs] at hdd; done) | simp
  | slice e ts' bytes =>
    rw [ht] at h
    simp only [TI.cells, Option.some.injEq] at h
    subst h
    obtain ⟨h1, ⟨i, hi, h2, h3⟩, _⟩ := hT.slice ht
    exact ⟨i, hi, h2, ⟨_, h1, rfl⟩, fun _ => ⟨_, rfl⟩, _, h3, rfl, by simp [Ty.size]⟩
  | struct fs row eq =>
    rw [ht] at h
    simp only [TI.cells, Option.some.injEq] at h
    subst h
    obtain ⟨fields, h1, _, _, i, hi, h2, h3, h4⟩ := hT.struct ht
    exact ⟨i, hi, h2, ⟨_, h1, rfl⟩, fun h => (by cases h), _, h3, by simp [Value.cells], h4⟩
  | ptr e => rw [ht] at h; cases h
  | other => rw [ht] at h; cases h
theorem run_size {t : TypeId} {i : TypeInfo} (h : P.info? t = some i) (w : World) : (sizeOf t).run P w = .ok i.size w := by simp [sizeOf, typeInfo, h]
theorem run_zero {t : TypeId} {i : TypeInfo} {z : Value} (h : P.info? t = some i) (hz : i.zero = some z) (w : World) : (zeroValue t).run P w = .ok z w := by simp [zeroValue, typeInfo, h, hz]
theorem run_isAgg {t : TypeId} {d : TypeDesc} (h : P.underlying t = some d) (w : World) : (isAgg t).run P w = .ok (isAggD d) w := by
  unfold isAgg
  simp only [Sem.run_bind, run_underlying h, Result.andThen_ok]
  cases d <;> rfl
theorem zeroLeaf_ok {S : St} {c : Cc} {w : World} {K : Nat → Prop} : ∀ (ts : List Ty), (∀ u ∈ ts, u.size = 1 ∧ ∀ a b, u ≠ .pair a b) → All2 (LeafOk S c w K) (ts.map zeroLeaf) (ts.map zeroV)
  | [], _ => .nil
  | t :: ts, h => by
    refine .cons ?_ (zeroLeaf_ok ts fun u hu => h u (by simp [hu]))
    have := h t (by simp)
    cases t with
    | pair a b => exact absurd rfl (this.2 a b)
    | unit => simp [Ty.size] at this
    | int k => simp [zeroLeaf, zeroV, LeafOk, Rp, Ty.zero]
    | bool => simp [zeroLeaf, zeroV, LeafOk, Rp, Ty.zero]
    | str => simp [zeroLeaf, zeroV, LeafOk, Rp, Ty.zero]
    | sl o e r => simp [zeroLeaf, zeroV, LeafOk]
theorem newMem_did {b : Base} {S : St} {c : Cc} {w : World} (hi : Inv b S w c) (d : Nat) (hdn : d < b.n1) (row : List Leaf) (vs : List Value) (e : TypeId) (hrow : All2 (LeafOk S c w (Kok b S c)) row vs) :
    Did b S c w ⟨.s (.pl d 0), [.m d], [.ms d row]⟩ (.pointer (some ⟨w.heap.size, 0, none⟩)) { w with heap := w.heap.push (.cells vs.toArray e) } := by
  obtain ⟨c', h1, h2, h3⟩ := hi.newMem d hdn row vs e rfl hrow
  exact ⟨c', h2, h3, row.length, by simp [St.ups, St.up], by rw [h1]⟩
theorem run_newVar (t : TypeId) (v : Value) (w : World) : (newVar t v).run P w = .ok ⟨w.heap.size, 0, none⟩ { w with heap := w.heap.push (.cells v.cells t) } := by
  simp [newVar, newRow]
theorem alloc_ok {b : Base} {S : St} {c : Cc} {w : World} (hT : TabOk P ti) (hi : Inv b S w c) {t : TypeId} {ts : List Ty} (h : (ti t).cells = some ts) (d : Nat) (hdn : d < b.n1) :
    ∃ v w', (Instr.alloc t true (.tuple #[])).run P w = .ok v w' ∧ Did b S c w ⟨.s (.pl d 0), [.m d], [.ms d (ts.map zeroLeaf)]⟩ v w' := by
  obtain ⟨i, h1, _, _, _, z, h2, h3, h4⟩ := size_of hT h
  refine ⟨_, _, ?_, newMem_did hi d hdn _ (ts.map zeroV) t (zeroLeaf_ok ts h4)⟩
  simp only [Instr.alloc, Sem.run_bind, run_zero h1 h2, Result.andThen_ok, run_newVar, Sem.run_pure]
  rw [← h3]
theorem box_ok {b : Base} {S : St} {c : Cc} {w : World} (hi : Inv b S w c) {t : TypeId} {x : SV} {v : Value} {ls : List Leaf} (hx : SVOk S c w (Kok b S c) x v) (hl : leaves x = some ls) (d : Nat) (hdn : d < b.n1) :
    ∃ u w', (Instr.box t v).run P w = .ok u w' ∧ Did b S c w ⟨.s (.pl d 0), [.m d], [.ms d ls]⟩ u w' := by
  obtain ⟨vs, h1, h2, h3⟩ := leaves_ok hi hx hl
  refine ⟨_, _, ?_, newMem_did hi d hdn ls vs t h2⟩
  simp only [Instr.box, Sem.run_bind, run_newVar, Result.andThen_ok, Sem.run_pure, h1]
theorem cellAt_leaf : ∀ (t : Ty) (x : t.D) (j : Nat) {c}, cellAt t x j = some c → (∀ a b, c.1 ≠ .pair a b) ∧ c.1 ≠ .unit
  | .pair a b, (x, y), j, c, h => by
    simp only [cellAt] at h
    split at h
    · exact cellAt_leaf a x j h
    · exact cellAt_leaf b y _ h
  | .unit, _, _, _, h => by simp [cellAt] at h
  | .int _, _, 0, _, h => by simp only [cellAt, Option.some.injEq] at h; subst h; simp
  | .bool, _, 0, _, h => by simp only [cellAt, Option.some.injEq] at h; subst h; simp
  | .str, _, 0, _, h => by simp only [cellAt, Option.some.injEq] at h; subst h; simp
  | .sl _ _ _, _, 0, _, h => by simp only [cellAt, Option.some.injEq] at h; subst h; simp
  | .int _, _, _ + 1, _, h => by simp [cellAt] at h
  | .bool, _, _ + 1, _, h => by simp [cellAt] at h
  | .str, _, _ + 1, _, h => by simp [cellAt] at h
  | .sl _ _ _, _, _ + 1, _, h => by simp [cellAt] at h
theorem getT_leaf : ∀ (st : Steps) (t : Ty) (x : t.D) {c : (u : Ty) × u.D}, st ≠ [] → (getT t x st).run = some c → (∀ a b, c.1 ≠ .pair a b) ∧ c.1 ≠ .unit
  | [], _, _, _, hne, _ => absurd rfl hne
  | (i, j) :: ps, t, x, c, _, h => by
    match t, x, h with
    | .sl true e r, xs, h =>
      obtain ⟨row, d, hrow, hd, hrest⟩ := getT_run_cons h
      cases ps with
      | nil => simp only [getT, Tr.run, Option.some.injEq] at hrest; subst hrest; exact cellAt_leaf r row j hd
      | cons p ps => exact getT_leaf (p :: ps) d.1 d.2 (by simp) hrest
    | .sl false _ _, _, hg => simp [getT, Tr.run] at hg
    | .int _, _, hg => simp [getT, Tr.run] at hg
    | .bool, _, hg => simp [getT, Tr.run] at hg
    | .str, _, hg => simp [getT, Tr.run] at hg
    | .unit, _, hg => simp [getT, Tr.run] at hg
    | .pair _ _, _, hg => simp [getT, Tr.run] at hg
theorem ldCell_ok {b : Base} {S : St} {c : Cc} {w : World} (hi : Inv b S w c) {a : S1} {v : Value} {n : Nat} {l : Leaf} (ha : S1Ok S c w (Kok b S c) a v) (h : (ldCell a n).ev S = some l) :
    ∃ ad u, v = .pointer (some ad) ∧ w.cell? (ad.add n) = some u ∧ LeafOk S c w (Kok b S c) l u := by
  cases a with
  | one l' => simp [ldCell, Tr.ev] at h
  | ag ls => simp [ldCell, Tr.ev] at h
  | fv f cs => simp [ldCell, Tr.ev] at h
  | pl k off =>
    obtain ⟨m, hm, rfl⟩ := ha
    simp only [ldCell, Tr.ev, hm] at h
    split at h
    · rename_i hlt
      simp only [Tr.ev] at h
      obtain ⟨cs, e, fr, h1, h2, h3, h4⟩ := hi.ms k m hm
      have hlt' : off + n < cs.size := by omega
      have hcell : cs[off + n]? = some cs[off + n] := Array.getElem?_eq_getElem hlt'
      refine ⟨_, _, rfl, by rw [add_blk, cell_blk h1]; exact hcell, ?_⟩
      have := h4 _ _ hcell
      split at h
      · simp [Tr.ev] at h
      · simp only [Tr.ev, Option.some.injEq] at h; subst h; exact this
    · simp [Tr.ev] at h
  | el k st =>
    obtain ⟨o, ad, ho, had, rfl, pre, ⟨i, j⟩, d, rfl, hd⟩ := ha
    simp only [ldCell, Tr.ev, ho, ev_bind, Option.bind_eq_some_iff] at h
    obtain ⟨c0, hc0, h⟩ := h
    rw [ev_get] at hc0
    simp only [Option.some.injEq] at h
    subst h
    have hne : bump (pre ++ [(i, j)]) n ≠ [] := by rw [bump_snoc]; simp
    obtain ⟨h', F', h1, h2, h3, _, h4⟩ := Rp.reach _ _ _ (hi.ow k o ho) hc0
    obtain ⟨a', h5, h6, _⟩ := h4 hne
    have := adr_bump _ n had
    rw [this] at h5
    injection h5 with h5
    subst h5
    refine ⟨ad, h', rfl, h6, ?_⟩
    have hleaf := getT_leaf _ _ _ hne hc0
    obtain ⟨t0, x0⟩ := c0
    cases t0 with
    | pair a b => exact absurd rfl (hleaf.1 a b)
    | unit => exact absurd rfl hleaf.2
    | int k => simp only [leafOf, LeafOk, Rp] at h2 ⊢; exact ⟨h2.1, trivial⟩
    | bool => simp only [leafOf, LeafOk, Rp] at h2 ⊢; exact ⟨h2.1, trivial⟩
    | str => simp only [leafOf, LeafOk, Rp] at h2 ⊢; exact ⟨h2.1, trivial⟩
    | sl o' e r =>
      cases o' with
      | true => exact ⟨o, e, r, x0, h', ho, hc0, h1, rfl⟩
      | false =>
        simp only [leafOf, LeafOk]
        have : F' = [] := by simp only [Rp] at h2; exact h2.1
        subst this; exact h2
  | rp t x off =>
    obtain ⟨ad, vs, rfl, h1, h2, h3, h4⟩ := ha
    simp only [ldCell] at h
    split at h
    · rename_i c0 hc0
      simp only [Tr.ev, Option.some.injEq] at h
      subst h
      obtain ⟨pre, u, post, Fa, G, Fb, rfl, hl, hF, hu, _⟩ := Rp.cell t x _ h1 hc0
      have hG : G = [] := by
        have := congrArg List.length hF
        simp only [List.length_nil, List.length_append] at this
        exact List.eq_nil_of_length_eq_zero (by omega)
      subst hG
      refine ⟨_, u, rfl, ?_, hu⟩
      rw [add_add, h4 _ (by simp only [List.length_append, List.length_cons]; omega)]
      rw [List.getElem?_append_right (by omega), hl, Nat.sub_self]; rfl
    · simp [Tr.ev] at h
theorem ldCells_ok {b : Base} {S : St} {c : Cc} {w : World} (hi : Inv b S w c) {a : S1} {v : Value} (ha : S1Ok S c w (Kok b S c) a v) : ∀ (n i : Nat) {ls : List Leaf}, (ldCells a n i).ev S = some ls →
    (0 < n → ∃ ad, v = .pointer (some ad)) ∧ ∃ us : List Value, us.length = n ∧ All2 (LeafOk S c w (Kok b S c)) ls us ∧ ∀ ad, v = .pointer (some ad) → ∀ j u, us[j]? = some u → w.cell? (ad.add (i + j)) = some u
  | 0, i, ls, h => by
    simp only [ldCells, Tr.ev, Option.some.injEq] at h
    subst h
    exact ⟨by omega, [], rfl, .nil, by simp⟩
  | n + 1, i, ls, h => by
    simp only [ldCells, ev_bind, Option.bind_eq_some_iff, Tr.ev, Option.some.injEq] at h
    obtain ⟨l, hl, ls', hls, rfl⟩ := h
    obtain ⟨ad, u, rfl, h1, h2⟩ := ldCell_ok hi ha hl
    obtain ⟨_, us, h3, h4, h5⟩ := ldCells_ok hi ha n (i + 1) hls
    refine ⟨fun _ => ⟨ad, rfl⟩, u :: us, by simp [h3], .cons h2 h4, ?_⟩
    intro ad' e j x hx
    injection e with e; injection e with e
    subst e
    cases j with
    | zero => simp only [List.getElem?_cons_zero, Option.some.injEq] at hx; subst hx; exact h1
    | succ j =>
      have := h5 ad rfl j x (by simpa using hx)
      rwa [show i + (j + 1) = i + 1 + j by omega]
theorem load_ok {b : Base} {S : St} {c : Cc} {w : World} (hT : TabOk P ti) (hi : Inv b S w c) {t : TypeId} {a : S1} {v : Value} {ts : List Ty} (ha : S1Ok S c w (Kok b S c) a v) (ht : (ti t).cells = some ts) {x : SV}
    (h : (if (ti t).isAgg then (ldCells a ts.length 0).bind fun ls => Tr.ret (SV.s (.ag ls)) else (ldCell a 0).bind fun l => Tr.ret (SV.s (.one l))).ev S = some x) (hpos : 0 < ts.length) :
    ∃ u, (Instr.loadAt t v).run P w = .ok u w ∧ SVOk S c w (Kok b S c) x u := by
  obtain ⟨i, h1, h2, ⟨d, h3, h4⟩, h5, _⟩ := size_of hT ht
  split at h
  · rename_i hag
    simp only [ev_bind, Option.bind_eq_some_iff, Tr.ev, Option.some.injEq] at h
    obtain ⟨ls, hls, rfl⟩ := h
    obtain ⟨h6, us, h7, h8, h9⟩ := ldCells_ok hi ha _ _ hls
    obtain ⟨ad, rfl⟩ := h6 hpos
    refine ⟨.agg us.toArray, ?_, us, rfl, h8⟩
    have hl := run_loadCells_list (P := P) w ad us (fun j u hu => by simpa using h9 ad rfl j u hu)
    simp only [Instr.loadAt, Instr.sureAddr, Sem.run_bind, Sem.run_pure, Result.andThen_ok, loadVar, run_isAgg h3, h4, hag, if_true, run_size h1, h2, Sem.run_ite]
    rw [h7] at hl
    rw [hl]; rfl
  · rename_i hag
    simp only [ev_bind, Option.bind_eq_some_iff, Tr.ev, Option.some.injEq] at h
    obtain ⟨l, hl, rfl⟩ := h
    obtain ⟨ad, u, rfl, h6, h7⟩ := ldCell_ok hi ha hl
    refine ⟨u, ?_, h7⟩
    have h6' : w.cell? ad = some u := by simpa [Addr.add] using h6
    have hag' : (ti t).isAgg = false := by simpa using hag
    simp only [Instr.loadAt, Instr.sureAddr, Sem.run_bind, Sem.run_pure, Result.andThen_ok, loadVar, run_isAgg h3, h4, hag', Sem.run_ite]
    simp [h6']
theorem part_one {t : TypeId} {d : TypeDesc} (hd : P.underlying t = some d) (hag : isAggD d = false) (cs : Array Value) (off : Nat) {v : Value} (hv : cs[off]? = some v) (w : World) : (part t cs off).run P w = .ok v w := by
  simp only [part, Sem.run_bind, run_isAgg hd, Result.andThen_ok, hag, Bool.false_eq_true, if_false, hv, Sem.run_pure]
theorem eqFields_cons {w : World} {d : TypeDesc} {f : Field} {fs : List Field} {cs ds : Array Value} {u v : Value} {b r : Bool} (hn : (!(f.name == "_")) = true) (hd : P.underlying f.type = some d) (hag : isAggD d = false) (hu : cs[f.offset]? = some u) (hv : ds[f.offset]? = some v)
    (h1 : (Op.equalIn 9999 f.type u v).run P w = .ok b w) (h2 : (Op.eqFields 9999 cs ds fs).run P w = .ok r w) : (Op.eqFields 9999 cs ds (f :: fs)).run P w = .ok (b && r) w := by
  have hn' : f.name ≠ "_" := by simpa using hn
  simp only [Op.eqFields, hn', ne_eq, not_false_eq_true, if_true, Sem.run_bind, part_one hd hag _ _ hu, part_one hd hag _ _ hv, Result.andThen_ok, h1]
  cases b
  · simp
  · simp [h2]
theorem aggEq_ok {w : World} {S : St} {c : Cc} {K : Nat → Prop} : ∀ (row : List Ty) (fields : List Field) (fs : List (Nat × Nat × Bool)) (i : Nat) (xs ys : List Leaf) (us vs pre pre' : List Value) {r : Bool}, eqAre P row fields = true → fieldsAre P fs fields = true → offsAre fs i = true →
    pre.length = i → pre'.length = i → All2 (LeafOk S c w K) xs us → All2 (LeafOk S c w K) ys vs → aggEq row xs ys = some r → (Op.eqFields 9999 (pre ++ us).toArray (pre' ++ vs).toArray fields).run P w = .ok r w
  | [], fields, fs, i, xs, ys, us, vs, pre, pre', r, h1, h2, h3, hp, hp', k1, k2, hr => by
    cases fields with
    | cons f fields => simp [eqAre] at h1
    | nil =>
      cases k1 <;> cases k2 <;> simp [aggEq] at hr
      subst hr; rfl
  | t :: row, [], fs, i, xs, ys, us, vs, pre, pre', r, h1, h2, h3, hp, hp', k1, k2, hr => by simp [eqAre] at h1
  | t :: row, f :: fields, [], i, xs, ys, us, vs, pre, pre', r, h1, h2, h3, hp, hp', k1, k2, hr => by simp [fieldsAre] at h2
  | t :: row, f :: fields, (o, n, ag) :: fs, i, xs, ys, us, vs, pre, pre', r, h1, h2, h3, hp, hp', k1, k2, hr => by
    simp only [eqAre, Bool.and_eq_true] at h1
    obtain ⟨⟨hn, hd⟩, h1⟩ := h1
    split at hd
    · rename_i d hd'
      simp only [fieldsAre, Bool.and_eq_true, beq_iff_eq] at h2
      obtain ⟨⟨⟨⟨ho, _⟩, _⟩, _⟩, h2⟩ := h2
      simp only [offsAre, Bool.and_eq_true, beq_iff_eq] at h3
      obtain ⟨⟨⟨hoi, _⟩, _⟩, h3⟩ := h3
      cases k1 with
      | nil => cases t <;> simp [aggEq] at hr
      | cons a1 a2 =>
        rename_i x u xs us
        cases k2 with
        | nil => cases t <;> cases x <;> simp [aggEq] at hr
        | cons b1 b2 =>
          rename_i y v ys vs
          have rec_ := fun {r'} hr' => aggEq_ok row fields fs (i + 1) xs ys us vs (pre ++ [u]) (pre' ++ [v]) (r := r') h1 h2 h3 (by simp [hp]) (by simp [hp']) a2 b2 hr'
          simp only [List.append_assoc, List.singleton_append] at rec_
          have hu : (pre ++ u :: us).toArray[f.offset]? = some u := by rw [ho, hoi, ← hp]; simp
          have hv : (pre' ++ v :: vs).toArray[f.offset]? = some v := by rw [ho, hoi, ← hp']; simp
          unfold aggEq at hr
          split at hr
          · rename_i e _ _; cases e
          · rename_i e1 e2 e3
            injection e1 with e1 e1'; injection e2 with e2 e2'; injection e3 with e3 e3'
            subst e1 e2 e3 e1' e2' e3'
            split at hr
            · rename_i hk; subst hk
              rw [Option.map_eq_some_iff] at hr
              obtain ⟨r', hr', rfl⟩ := hr
              obtain rfl := int_leaf a1
              obtain rfl := int_leaf b1
              cases d <;> simp [descIs] at hd
              exact eqFields_cons hn hd' rfl hu hv (equalIn_int 9998 f.type _ _ _ _ hd') (rec_ hr')
            · cases hr
          · rename_i e1 e2 e3
            injection e1 with e1 e1'; injection e2 with e2 e2'; injection e3 with e3 e3'
            subst e1 e2 e3 e1' e2' e3'
            rw [Option.map_eq_some_iff] at hr
            obtain ⟨r', hr', rfl⟩ := hr
            obtain rfl := bool_leaf a1
            obtain rfl := bool_leaf b1
            cases d <;> simp [descIs] at hd
            exact eqFields_cons hn hd' rfl hu hv (equalIn_bool 9998 f.type _ _ hd') (rec_ hr')
          · rename_i e1 e2 e3
            injection e1 with e1 e1'; injection e2 with e2 e2'; injection e3 with e3 e3'
            subst e1 e2 e3 e1' e2' e3'
            rw [Option.map_eq_some_iff] at hr
            obtain ⟨r', hr', rfl⟩ := hr
            have q1 := str_leaf a1
            have q2 := str_leaf b1
            cases d <;> simp [descIs] at hd
            subst q1 q2
            refine eqFields_cons hn hd' rfl hu hv ?_ (rec_ hr')
            rw [run_equalIn_string _ _ _ _ _ hd', ByteArray.toList_eq, ByteArray.toList_eq]
          · cases hr
    · cases hd
theorem agg_eql {w : World} (t : TypeId) (us vs : List Value) (fields : Array Field) (ht : P.underlying t = some (.struct fields)) (hp : P.stoodInHeld t = false) {r : Bool} (h : (Op.eqFields 9999 us.toArray vs.toArray fields.toList).run P w = .ok r w) :
    (binOp .eql t (.agg us.toArray) (.agg vs.toArray)).run P w = .ok (.bool r) w ∧ (binOp .neq t (.agg us.toArray) (.agg vs.toArray)).run P w = .ok (.bool (!r)) w := by
  have hf : P.fieldsOf t = fields := by simp [Program.fieldsOf, ht]
  have he : (Op.equalIn 10000 t (.agg us.toArray) (.agg vs.toArray)).run P w = .ok r w := by
    rw [run_equalIn_agg w 9999 t _ _ (by rw [hf]; exact ht) hp, hf]; exact h
  rw [run_eql_struct, run_neq_struct, he]
  exact ⟨rfl, rfl⟩
end
end Go.V
