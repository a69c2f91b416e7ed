import Derived.Test.YtijemcbcchnnjaaDoorQTxD
import Derived.Shelf.Strconv.Itoa3
import Derived.Shelf.Strings.OnBuilder
import Derived.Shelf.Strings.BuilderX
import Derived.Lib.AppendIntMem
set_option linter.unusedVariables false
set_option linter.unusedSimpArgs false
namespace Go.V
open Go.RowKit Go.Shelf Go.Proofs
theorem below_step {w w' : World} (T : Nat → Prop) (h : Below w.heap.size w w') : Step w w' T := ⟨h.os, h.tape, h.output, h.size, fun g hg _ => h.block g hg⟩
theorem str_post {w w' : World} {Ro : Nat → Prop} {F : List Nat} {vals : List Value} {y : List UInt8} (h : Below w.heap.size w w') :
    CallPost w Ro [] F vals ⟨[.one ⟨.str, y⟩], [], []⟩ (.string ⟨y.toArray⟩) w' :=
  ⟨[.string ⟨y.toArray⟩], [], [], [], rfl, ⟨_, [], [], [], rfl, rfl, ⟨by dsimp only; rw [Rp]; exact ⟨rfl, rfl⟩, fun h => rfl⟩, rfl, rfl⟩, ⟨rfl, rfl⟩, rfl, by simp, by simp, below_step _ h⟩
def strV (s : List UInt8) : Value := .string ⟨s.toArray⟩
theorem rpl_strs {w : World} {K : Nat → Prop} : ∀ {xs : List (List UInt8)} {vs : List Value} {F : List Nat}, RpL (Rp w K .str) xs vs F → vs = xs.map strV ∧ F = []
  | [], _, _, h => h
  | x :: xs, _, _, ⟨v1, v2, F1, F2, e1, e2, h1, h2⟩ => by
    obtain ⟨rfl, rfl⟩ := rpl_strs h2
    simp only [Rp] at h1
    obtain ⟨rfl, rfl⟩ := h1
    exact ⟨e1, e2⟩
variable {P : Program} {ρ : Ren}
theorem itoa_sound (L : LaysM.n171 P ρ) (hG : ∀ w, GlF w → Lib.TabIs P w "internal/strconv.uint64pow10" .u64 Lib.pow10Tab) (n : Int) (h0 : -9223372036854775808 ≤ n) (h1 : n ≤ 9223372036854775807) :
    CallSound P (ρ.f 171) [.one ⟨.int .i64, n⟩] [] ⟨[.one ⟨.str, Lib.itoa n⟩], [], []⟩ := by
  refine ⟨⟨_, L.f171, rfl, rfl⟩, ?_⟩
  rintro w _ Ro ms _ F2 ⟨v0, _, G0, _, rfl, rfl, ⟨h2, _⟩, rfl, rfl⟩ hR hnd hlt hg
  dsimp only at h2
  cases ms with
  | cons g gs => obtain ⟨_, _, _, _, _, _, _, h, _⟩ := hR; cases h
  | nil =>
  obtain ⟨_, rfl⟩ := hR
  simp only [Rp] at h2
  obtain ⟨h2, rfl⟩ := h2
  injection h2 with h2
  subst h2
  refine (Any.strconv_Itoa L n h0 h1 w (hG w hg.1)).mono ?_
  rintro _ _ ⟨rfl, k, os, rfl⟩
  exact ⟨_, rfl, str_post (Go.Lib.below_grow _ w (Nat.le_refl _) k os)⟩
theorem join_sound (L : Lays.n156 P ρ) (X : Builder.Extra P ρ) (e : TypeId) (xs : List (List UInt8)) (sep : List UInt8) (hN : xs.length ≤ 140737488355328) (hlen : (sep.intercalate xs).length ≤ 140737488355328) :
    CallSound P (ρ.f 156) [.one ⟨.sl true e .str, xs⟩, .one ⟨.str, sep⟩] [] ⟨[.one ⟨.str, sep.intercalate xs⟩], [], []⟩ := by
  refine ⟨⟨_, L.f156, rfl, rfl⟩, ?_⟩
  rintro w _ Ro ms _ F2 ⟨v0, _, G0, _, rfl, rfl, ⟨h0, _⟩, ⟨v1, _, G1, _, rfl, rfl, ⟨h1, _⟩, rfl, rfl⟩⟩ hR hnd hlt hg
  dsimp only at h0 h1
  cases ms with
  | cons g gs => obtain ⟨_, _, _, _, _, _, _, h, _⟩ := hR; cases h
  | nil =>
  obtain ⟨_, rfl⟩ := hR
  simp only [Rp] at h1
  obtain ⟨h1, rfl⟩ := h1
  injection h1 with h1
  subst h1
  rw [Rp] at h0
  rcases h0 with ⟨rfl, rfl, h3⟩ | ⟨g, off, c, cs, fr, F', h1, rfl, h3, h4, h5, h6, h7⟩
  · injection h3 with h3
    subst h3
    refine (Any.strings_Join_none L X none 0 ⟨sep.toArray⟩ w).mono ?_
    rintro _ _ ⟨rfl, rfl⟩
    exact ⟨_, rfl, str_post (Below.refl _ _)⟩
  · injection h1 with h1
    subst h1
    obtain ⟨h8, rfl⟩ := rpl_strs h7
    have e1 : List.length xs * Ty.str.size = xs.length := by simp [Ty.size]
    rw [e1] at h8
    have hlm : (xs.map fun s => (⟨s.toArray⟩ : ByteArray)).length = xs.length := List.length_map _
    have hmm : (xs.map fun s => (⟨s.toArray⟩ : ByteArray)).map (·.data.toList) = xs := by
      rw [List.map_map]
      conv => rhs; rw [← List.map_id xs]
      exact List.map_congr_left fun s _ => rfl
    have hk := Any.strings_Join L X g off c (xs.map fun s => (⟨s.toArray⟩ : ByteArray)) ⟨sep.toArray⟩ w (by
      intro j x hj
      rw [cell_blk h3]
      have hlt2 := (List.getElem?_eq_some_iff.1 hj).1
      rw [hlm] at hlt2
      rw [List.getElem?_map, List.getElem?_eq_getElem hlt2] at hj
      injection hj with hj
      have h9 : ((cs.toList.drop off).take xs.length)[j]? = some (strV xs[j]) := by rw [h8, List.getElem?_map, List.getElem?_eq_getElem hlt2]; rfl
      rw [List.getElem?_take_of_lt hlt2, List.getElem?_drop, Array.getElem?_toList] at h9
      rw [h9, ← hj]; rfl) (lt_size h3) (by rw [hlm]; exact hN) (by rw [hlm]; exact h6) (by rw [hmm]; exact hlen)
    rw [hmm, hlm] at hk
    refine hk.mono ?_
    rintro _ _ ⟨rfl, hb⟩
    exact ⟨_, rfl, str_post hb⟩
end Go.V
