/-
  The pure law of FnImages.
-/
import Derived.Test.YtdicgiljgelkfaaP6
set_option linter.unusedVariables false
set_option linter.unusedSimpArgs false
set_option maxRecDepth 100000
namespace Go.V.G
open Go.V
theorem images (code : List Int) (hb : Bytes code) : l_FnImages code = some true := by
  unfold l_FnImages
  refine Ok.eq (Ok.ite (fun _ => Ok.mk rfl) fun _ => ?_)
  refine (drawImage_ok hb).bind ?_
  rintro ⟨c, p, b⟩ ⟨hc, hp⟩
  dsimp only at hc hp ⊢
  refine Ok.bind_eq (i_ImageOf_eq hc (by omega) p b) (Ok.bind_eq (s_ImageOf_eq hc (by omega) p b) ?_)
  refine Ok.no (by simp) (Ok.bind_eq (s_LengthsOf_eq hc (by omega)) ?_)
  refine Ok.bind (Q := fun v => v = (c, p, imgOf c p b, (lensOf c).1, (lensOf c).2.1, decide ((lensOf c).2.2 = false ∨ p < 0 ∨ (lensOf c).1 < p))) ?_ ?_
  · cases hl : (lensOf c).2.2 with
    | false => exact Ok.yes (by simp) (Ok.mk (by simp))
    | true =>
      refine Ok.no (by simp) (Ok.ite (fun h => Ok.mk ?_) fun h => Ok.mk ?_)
      · have : p < 0 := by simpa using h
        simp [this]
      · have : ¬ p < 0 := by simpa using h
        simp [this]
  rintro _ rfl
  dsimp only
  refine Ok.ite (fun hbad => Ok.mk ?_) fun hfine => ?_
  · have hb' : (lensOf c).2.2 = false ∨ p < 0 ∨ (lensOf c).1 < p := by simpa using hbad
    have : ¬ (good c = true ∧ 0 ≤ p ∧ p ≤ src c) := by
      rintro ⟨h1, h2, h3⟩
      simp only [lensOf, h1, if_true] at hb'
      rcases hb' with h | h | h
      · cases h
      · omega
      · omega
    simp [imgOf, this]
  · have hf' : ¬ ((lensOf c).2.2 = false ∨ p < 0 ∨ (lensOf c).1 < p) := by simpa using hfine
    have hg : good c = true := by
      cases h : good c with
      | true => rfl
      | false => exact absurd (.inl (by simp [lensOf, h])) hf'
    simp only [lensOf, hg, if_true] at hf' ⊢
    have hp0 : 0 ≤ p := by omega
    have hp1 : p ≤ src c := by omega
    obtain ⟨h1, h2, h3⟩ := good_spec hg
    have hs := okk_some h1
    have sl := stays_len hs
    have ta := tgt_atoms hs
    have hin : ∀ b, imgOf c p b = imgAt c p b := fun b => by simp [imgOf, hg, hp0, hp1]
    have il := img_le (atoms c) p.toNat (by omega)
    have pn := pre_nonneg (puts (atoms c)) (stays (atoms c)) p.toNat
    have bound : ∀ b, 0 ≤ imgAt c p b ∧ imgAt c p b ≤ tgt c := by
      intro b
      unfold imgAt
      cases b
      · simp only [Bool.false_eq_true, if_false]; omega
      · simp only [if_true]; omega
    have le1 : imgAt c p false ≤ imgAt c p true := by
      unfold imgAt
      simp only [Bool.false_eq_true, if_false, if_true]; omega
    refine Ok.bind (Q := fun v => v = (c, p, src c, false)) ?_ ?_
    · rw [hin]
      refine Ok.no (by simp; have := (bound b).1; omega) (Ok.no (by simp; have := (bound b).2; omega) ?_)
      refine Ok.bind_eq (i_ImageOf_eq hc (by omega) p false) (Ok.bind_eq (i_ImageOf_eq hc (by omega) p true) (Ok.mk ?_))
      rw [hin, hin]
      have : ¬ imgAt c p true < imgAt c p false := by omega
      simp [this]
    rintro _ rfl
    dsimp only
    refine Ok.no (by simp) (Ok.bind (Q := fun v => v = true) ?_ (fun v hv => Ok.mk hv))
    refine Ok.ite (fun _ => Ok.mk rfl) fun hne => ?_
    have hne' : ¬ p = src c := by simpa using hne
    have e : IntKind.wrap .i64 (p + 1) = p + 1 := w64 (by omega) (by omega)
    refine Ok.bind_eq (i_ImageOf_eq hc (by omega) p true) ?_
    rw [e]
    refine Ok.bind_eq (i_ImageOf_eq hc (by omega) (p + 1) false) (Ok.mk ?_)
    rw [hin]
    have : imgOf c (p + 1) false = imgAt c (p + 1) false := by
      have : 0 ≤ p + 1 ∧ p + 1 ≤ src c := by omega
      simp [imgOf, hg, this]
    rw [this]
    have : imgAt c p true ≤ imgAt c (p + 1) false := by
      unfold imgAt
      simp only [Bool.false_eq_true, if_false, if_true, show (p + 1).toNat = p.toNat + 1 by omega, pre]
      split <;> omega
    simpa using this
end Go.V.G
namespace Go.Proofs.Ytdicgiljgelkfaa
open Go.V
theorem pure_FnImages (x0 : List Int) (g0 : Fits (.sl false 5 (.int .u8)) x0) : G.l_FnImages x0 = some true := G.images x0 (G.bytes_of g0)
end Go.Proofs.Ytdicgiljgelkfaa
