/-
  P0: words for the pure laws: wraps, loops.
-/
import Derived.Test.YtdicgiljgelkfaaV3
import Derived.IntWalk
set_option linter.unusedVariables false
set_option linter.unusedSimpArgs false
namespace Go.V.G
open Go.V

theorem w64 {n : Int} (h1 : -9223372036854775808 ≤ n) (h2 : n ≤ 9223372036854775807) : IntKind.wrap .i64 n = n := IntWalk.i64_in n ⟨h1, h2⟩
theorem wu8 {n : Int} (h1 : 0 ≤ n) (h2 : n ≤ 255) : IntKind.wrap .u8 n = n := IntWalk.u8_in n ⟨h1, h2⟩
theorem wu64 {n : Int} (h1 : 0 ≤ n) (h2 : n ≤ 18446744073709551615) : IntKind.wrap .u64 n = n := IntWalk.u64_in n ⟨h1, h2⟩

section
variable {σ τ : Type}
/-- a loop whose rounds are told one by one -/
theorem loop_run (f : σ → Option (σ ⊕ τ)) (st : Nat → σ) (n : Nat) (z : τ) (h : ∀ k, k < n → f (st k) = some (.inl (st (k + 1)))) (hz : f (st n) = some (.inr z)) : loopG f (st 0) = some z := by
  have : ∀ j, j ≤ n → loopG f (st (n - j)) = some z := by
    intro j
    induction j with
    | zero => intro _; rw [loopG_eq, Nat.sub_zero, hz]
    | succ j ih =>
      intro hj
      rw [loopG_eq, h _ (by omega), show n - (j + 1) + 1 = n - j by omega]
      exact ih (by omega)
  have := this n (Nat.le_refl _)
  rwa [Nat.sub_self] at this
/-- a loop with an invariant and a measure -/
theorem loop_inv (f : σ → Option (σ ⊕ τ)) (I : σ → Prop) (m : σ → Nat) (Q : τ → Prop) (step : ∀ x, I x → (∃ y, f x = some (.inl y) ∧ I y ∧ m y < m x) ∨ ∃ z, f x = some (.inr z) ∧ Q z) :
    ∀ x, I x → ∃ z, loopG f x = some z ∧ Q z := by
  intro x
  induction hm : m x using Nat.strongRecOn generalizing x with
  | ind k ih =>
    intro hx
    rcases step x hx with ⟨y, h1, h2, h3⟩ | ⟨z, h1, h2⟩
    · obtain ⟨z, h4, h5⟩ := ih (m y) (by omega) y rfl h2
      exact ⟨z, by rw [loopG_eq, h1]; exact h4, h5⟩
    · exact ⟨z, by rw [loopG_eq, h1], h2⟩
/-- a loop's answer by a function of the state that each round keeps -/
theorem loop_fn (f : σ → Option (σ ⊕ τ)) (I : σ → Prop) (m : σ → Nat) (F : σ → τ) (step : ∀ x, I x → (∃ y, f x = some (.inl y) ∧ I y ∧ m y < m x ∧ F y = F x) ∨ f x = some (.inr (F x))) :
    ∀ x, I x → loopG f x = some (F x) := by
  intro x
  induction hm : m x using Nat.strongRecOn generalizing x with
  | ind k ih =>
    intro hx
    rcases step x hx with ⟨y, h1, h2, h3, h4⟩ | h1
    · rw [loopG_eq, h1, ← h4]; exact ih (m y) (by omega) y rfl h2
    · rw [loopG_eq, h1]
end
end Go.V.G
