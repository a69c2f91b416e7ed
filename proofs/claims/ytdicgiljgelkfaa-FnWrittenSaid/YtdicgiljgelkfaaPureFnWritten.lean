/-
  The pure law of FnWritten.
-/
import Derived.Test.YtdicgiljgelkfaaP8
set_option linter.unusedVariables false
set_option linter.unusedSimpArgs false
set_option maxRecDepth 100000
namespace Go.V.G
open Go.V
theorem written (code more : List Int) (hb : Bytes code) (hm : Bytes more) : l_FnWritten code more = some true := by
  unfold l_FnWritten
  refine Ok.eq (Ok.ite (fun _ => Ok.mk rfl) fun _ => ?_)
  refine Ok.bind (Q := fun r => Sm 847 r) ?_ fun c hc => ?_
  · unfold s_DrawWriteChange
    exact (drawGood_ok hb).bind fun r hr => Ok.mk hr
  refine Ok.bind_eq (i_WriteChange_eq hc (by omega)) (Ok.bind_eq (s_WriteChange_eq hc (by omega)) ?_)
  refine Ok.no (by simp) ?_
  refine Ok.bind (Q := fun r => r = .inl more) ?_ ?_
  · cases hg : good c with
    | false => exact Ok.no (by simp) (Ok.mk rfl)
    | true =>
      refine Ok.yes (by simp) (Ok.bind_eq (read_enc hc (by omega) hg) ?_)
      refine Ok.bind (Q := fun v => v = (more, false)) ?_ ?_
      · refine Ok.no (by simp) (Ok.bind_eq (sameParts_self (by have := hc.len; omega)) (Ok.mk rfl))
      rintro _ rfl
      exact Ok.no (by simp) (Ok.mk rfl)
  rintro _ rfl
  refine (drawNormal_ok hm).bind fun l hl => ?_
  refine Ok.bind_eq (i_NormalOf_eq hl (by omega)) (Ok.bind_eq (s_NormalOf_eq hl (by omega)) ?_)
  refine Ok.no (by simp) ?_
  cases hn : normOf l with
  | mk x f =>
    have hx : (f = false ∧ x = []) ∨ (f = true ∧ good x = true) := by
      unfold normOf at hn
      split at hn
      · injection hn with h1 h2; exact .inl ⟨h2.symm, h1.symm⟩
      · split at hn
        · rename_i hg
          injection hn with h1 h2; subst h1; exact .inr ⟨h2.symm, hg⟩
        · injection hn with h1 h2; exact .inl ⟨h2.symm, h1.symm⟩
    rcases hx with ⟨rfl, rfl⟩ | ⟨rfl, hg⟩
    · exact Ok.yes rfl (Ok.mk rfl)
    · have sm := good_sm hg
      refine Ok.no (by simp) (Ok.bind_eq (i_NormalOf_eq sm (by omega)) ?_)
      rw [normOf_good hg]
      refine Ok.bind (Q := fun v => v = true) ?_ (fun v hv => Ok.mk hv)
      refine Ok.yes rfl (Ok.bind_eq (sameParts_self (by have := sm.len; dsimp only; omega)) (Ok.yes rfl (Ok.bind_eq (i_Good_eq sm (by omega)) (Ok.mk hg))))
end Go.V.G
namespace Go.Proofs.Ytdicgiljgelkfaa
open Go.V
theorem pure_FnWritten (x0 x1 : List Int) (g0 : Fits (.sl false 5 (.int .u8)) x0) (g1 : Fits (.sl false 5 (.int .u8)) x1) : G.l_FnWritten x0 x1 = some true := G.written x0 x1 (G.bytes_of g0) (G.bytes_of g1)
end Go.Proofs.Ytdicgiljgelkfaa
