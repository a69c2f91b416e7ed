import Derived.Test.YtijemcbcchnnjaaDoorQRtD
import Derived.Shelf.Strconv.Itoa3
import Derived.Shelf.Strings.OnBuilder
import Derived.Shelf.Strings.BuilderX
import Derived.Lib.AppendIntMem
set_option linter.unusedVariables false
set_option linter.unusedSimpArgs false
namespace Go.V
open Go.RowKit Go.Shelf Go.Proofs
theorem below_step {w w' : World} (T : Nat → Prop) (h : Below w.heap.size w w') : Step w w' T := ⟨h.os, h.tape, h.output, h.size, fun g hg _ => h.block g hg⟩
theorem str_post {w w' : World} {Ro : Nat → Prop} {F : List Nat} {vals : List Value} {y : List UInt8} (h : Below w.heap.size w w') :
    CallPost w Ro [] F vals ⟨[.one ⟨.str, y⟩], [], []⟩ (.string ⟨y.toArray⟩) w' :=
  ⟨[.string ⟨y.toArray⟩], [], [], [], rfl, ⟨_, [], [], [], rfl, rfl, ⟨by dsimp only; rw [Rp]; exact ⟨rfl, rfl⟩, fun h => rfl⟩, rfl, rfl⟩, ⟨rfl, rfl⟩, rfl, by simp, by simp, below_step _ h⟩
def strV (s : List UInt8) : Value := .string ⟨s.toArray⟩
variable {P : Program} {ρ : Ren}
theorem itoa_sound (L : LaysM.n171 P ρ) (hG : ∀ w, GlF w → Lib.TabIs P w "internal/strconv.uint64pow10" .u64 Lib.pow10Tab) (n : Int) (h0 : -9223372036854775808 ≤ n) (h1 : n ≤ 9223372036854775807) :
    CallSound P (ρ.f 171) [.one ⟨.int .i64, n⟩] [] ⟨[.one ⟨.str, Lib.itoa n⟩], [], []⟩ := by
  refine ⟨⟨_, L.f171, rfl, rfl⟩, ?_⟩
  rintro w _ Ro ms _ F2 ⟨v0, _, G0, _, rfl, rfl, ⟨h2, _⟩, rfl, rfl⟩ hR hnd hlt hg
  dsimp only at h2
  cases ms with
  | cons g gs => obtain ⟨_, _, _, _, _, _, _, h, _⟩ := hR; cases h
  | nil =>
  obtain ⟨_, rfl⟩ := hR
  simp only [Rp] at h2
  obtain ⟨h2, rfl⟩ := h2
  injection h2 with h2
  subst h2
  refine (Any.strconv_Itoa L n h0 h1 w (hG w hg.1)).mono ?_
  rintro _ _ ⟨rfl, k, os, rfl⟩
  exact ⟨_, rfl, str_post (Go.Lib.below_grow _ w (Nat.le_refl _) k os)⟩
end Go.V
