/-
  P10: changes carried, composed, applied, byte by byte: the laws.
-/
import Derived.Test.YtdicgiljgelkfaaP9
set_option linter.unusedVariables false
set_option linter.unusedSimpArgs false
set_option maxRecDepth 100000
namespace Go.V.G
open Go.V

/-- x told for the target of y; what x puts comes ahead of what y puts -/
def carryT : List Atom → List Atom → List Atom
  | .ins b :: x, y => .ins b :: carryT x y
  | [], .ins _ :: y => .keep :: carryT [] y
  | .keep :: x, .ins _ :: y => .keep :: carryT (.keep :: x) y
  | .drop :: x, .ins _ :: y => .keep :: carryT (.drop :: x) y
  | .keep :: x, .keep :: y => .keep :: carryT x y
  | .drop :: x, .keep :: y => .drop :: carryT x y
  | .keep :: x, .drop :: y => carryT x y
  | .drop :: x, .drop :: y => carryT x y
  | _, _ => []
termination_by x y => x.length + y.length
/-- the same; what x puts comes behind what y puts -/
def carryF : List Atom → List Atom → List Atom
  | x, .ins _ :: y => .keep :: carryF x y
  | .ins b :: x, [] => .ins b :: carryF x []
  | .ins b :: x, .keep :: y => .ins b :: carryF x (.keep :: y)
  | .ins b :: x, .drop :: y => .ins b :: carryF x (.drop :: y)
  | .keep :: x, .keep :: y => .keep :: carryF x y
  | .drop :: x, .keep :: y => .drop :: carryF x y
  | .keep :: x, .drop :: y => carryF x y
  | .drop :: x, .drop :: y => carryF x y
  | _, _ => []
termination_by x y => x.length + y.length
def carryA (first : Bool) (x y : List Atom) : List Atom := if first = true then carryT x y else carryF x y
/-- x, then y -/
def comp : List Atom → List Atom → List Atom
  | x, .ins b :: y => .ins b :: comp x y
  | .drop :: x, [] => .drop :: comp x []
  | .drop :: x, .keep :: y => .drop :: comp x (.keep :: y)
  | .drop :: x, .drop :: y => .drop :: comp x (.drop :: y)
  | .ins b :: x, .keep :: y => .ins b :: comp x y
  | .ins _ :: x, .drop :: y => comp x y
  | .keep :: x, .keep :: y => .keep :: comp x y
  | .keep :: x, .drop :: y => .drop :: comp x y
  | _, _ => []
termination_by x y => x.length + y.length
def ap : List Atom → List UInt8 → List UInt8
  | .ins b :: l, t => b :: ap l t
  | .keep :: l, c :: t => c :: ap l t
  | .drop :: l, _ :: t => ap l t
  | _, _ => []

/-- how long the source is; the target -/
def nS : List Atom → Nat
  | [] => 0
  | .ins _ :: l => nS l
  | .keep :: l => nS l + 1
  | .drop :: l => nS l + 1
def nT : List Atom → Nat
  | [] => 0
  | .ins _ :: l => nT l + 1
  | .keep :: l => nT l + 1
  | .drop :: l => nT l
theorem nS_stays : ∀ l : List Atom, nS l = (stays l).length
  | [] => rfl
  | .ins _ :: l => nS_stays l
  | .keep :: l => by simp [nS, stays, nS_stays l]
  | .drop :: l => by simp [nS, stays, nS_stays l]
theorem nT_eq : ∀ l : List Atom, nT l = nIns l + nK l
  | [] => rfl
  | .ins _ :: l => by simp only [nT, nIns, nK, nT_eq l]; omega
  | .keep :: l => by simp only [nT, nIns, nK, nT_eq l]; omega
  | .drop :: l => by simp only [nT, nIns, nK, nT_eq l]
theorem ap_len : ∀ (l : List Atom) (t : List UInt8), nS l = t.length → (ap l t).length = nT l
  | [], t, _ => by cases t <;> simp [ap, nT]
  | .ins b :: l, t, h => by simp only [ap, nT, List.length_cons]; rw [ap_len l t h]
  | .keep :: l, c :: t, h => by simp only [ap, nT, List.length_cons]; rw [ap_len l t (by simpa [nS] using h)]
  | .drop :: l, c :: t, h => by simp only [ap, nT]; rw [ap_len l t (by simpa [nS] using h)]
  | .keep :: l, [], h => by simp [nS] at h
  | .drop :: l, [], h => by simp [nS] at h

/-- the diamond -/
theorem diamond : ∀ (x y : List Atom) (t : List UInt8), nS x = t.length → nS y = t.length → ap (carryT x y) (ap y t) = ap (carryF y x) (ap x t) := by
  intro x y
  induction x, y using carryT.induct with
  | case1 b x y ih => intro t h1 h2; rw [carryT, carryF]; simp only [ap]; rw [ih t h1 h2]
  | case2 c y ih => intro t h1 h2; rw [carryT, carryF]; simp only [ap]; rw [ih t h1 h2]; simp [ap]
  | case3 x c y ih =>
    intro t h1 h2; rw [carryT, carryF]
    cases t with
    | nil => simp [nS] at h1
    | cons d t =>
      have := ih (d :: t) h1 h2
      simp only [ap] at this ⊢
      rw [this]
  | case4 x c y ih =>
    intro t h1 h2; rw [carryT, carryF]
    cases t with
    | nil => simp [nS] at h1
    | cons d t =>
      have := ih (d :: t) h1 h2
      simp only [ap] at this ⊢
      rw [this]
  | case5 x y ih =>
    intro t h1 h2; rw [carryT, carryF]
    cases t with
    | nil => simp [nS] at h1
    | cons d t => simp only [ap]; rw [ih t (by simpa [nS] using h1) (by simpa [nS] using h2)]
  | case6 x y ih =>
    intro t h1 h2; rw [carryT, carryF]
    cases t with
    | nil => simp [nS] at h1
    | cons d t => simp only [ap]; rw [ih t (by simpa [nS] using h1) (by simpa [nS] using h2)]
  | case7 x y ih =>
    intro t h1 h2; rw [carryT, carryF]
    cases t with
    | nil => simp [nS] at h1
    | cons d t => simp only [ap]; rw [ih t (by simpa [nS] using h1) (by simpa [nS] using h2)]
  | case8 x y ih =>
    intro t h1 h2; rw [carryT, carryF]
    cases t with
    | nil => simp [nS] at h1
    | cons d t => simp only [ap]; rw [ih t (by simpa [nS] using h1) (by simpa [nS] using h2)]
  | case9 x y h1 h2 h3 h4 h5 h6 h7 h8 =>
    intro t g1 g2
    match x, y with
    | .ins b :: x, y => exact absurd rfl (h1 b x)
    | [], .ins c :: y => exact absurd rfl (h2 c y rfl)
    | [], [] => simp [carryT, carryF, ap]
    | [], .keep :: y => simp [nS] at g1 g2; omega
    | [], .drop :: y => simp [nS] at g1 g2; omega
    | .keep :: x, [] => simp [nS] at g1 g2; omega
    | .drop :: x, [] => simp [nS] at g1 g2; omega
    | .keep :: x, .ins c :: y => exact absurd rfl (h3 x c y rfl)
    | .drop :: x, .ins c :: y => exact absurd rfl (h4 x c y rfl)
    | .keep :: x, .keep :: y => exact absurd rfl (h5 x y rfl)
    | .drop :: x, .keep :: y => exact absurd rfl (h6 x y rfl)
    | .keep :: x, .drop :: y => exact absurd rfl (h7 x y rfl)
    | .drop :: x, .drop :: y => exact absurd rfl (h8 x y rfl)
end Go.V.G
