/-
  S24: what is known of functions, as a list; the table of types off a list.
-/
import Derived.Test.YtdicgiljgelkfaaS23
namespace Go.V

structure Ans where
  β : Type
  o : Option β
  g : β → Res
/-- one function that is known -/
structure Kn where
  f : FuncId
  mv : List Bool
  ca : List A1 → List (List ALeaf) → Option Ans
def mvOf : List Kn → FuncId → List Bool
  | [], _ => []
  | k :: l, g => if g = k.f then k.mv else mvOf l g
def caOf : List Kn → FuncId → List A1 → List (List ALeaf) → Tr Res
  | [], _, _, _ => .fail
  | k :: l, g, as, rows => if g = k.f then match k.ca as rows with
      | some a => .get a.β a.o fun y => .ret (a.g y)
      | none => caOf l g as rows
    else caOf l g as rows
def envOf (ti : TypeId → TI) (l : List Kn) : Env := ⟨ti, mvOf l, caOf l⟩
def KnOk (P : Program) (k : Kn) : Prop := ∀ as rows a, k.ca as rows = some a → ∀ y, a.o = some y → CallSound P k.f as rows (a.g y)

theorem caOf_ok {P : Program} : ∀ (l : List Kn), (∀ k ∈ l, KnOk P k) → ∀ f as rows S r, (caOf l f as rows).ev S = some r → CallSound P f as rows r
  | [], _, f, as, rows, S, r, h => by simp [caOf, Tr.ev] at h
  | k :: l, hk, f, as, rows, S, r, h => by
    rw [caOf] at h
    split at h
    · rename_i hf
      subst hf
      split at h
      · rename_i a ha
        simp only [Tr.ev, Option.bind_eq_some_iff, Option.some.injEq] at h
        obtain ⟨y, hy, rfl⟩ := h
        exact hk k (by simp) as rows a ha y hy
      · exact caOf_ok l (fun k h => hk k (by simp [h])) _ as rows S r h
    · exact caOf_ok l (fun k h => hk k (by simp [h])) f as rows S r h

theorem envOf_ok {P : Program} {ti : TypeId → TI} (ht : TabOk P ti) (hm : P.follows .mixedOrders = true) (l : List Kn) (h : ∀ k ∈ l, KnOk P k) : EnvOk P (envOf ti l) :=
  ⟨ht, hm, fun f as rows S r hr => caOf_ok l h f as rows S r hr⟩

def allOk (P : Program) : List TI → Nat → Bool
  | [], _ => true
  | x :: l, n => tyOk P n x && allOk P l (n + 1)
theorem allOk_at {P : Program} : ∀ (l : List TI) (n : Nat), allOk P l n = true → ∀ t, tyOk P (n + t) (l.getD t .other) = true
  | [], n, _, t => by simp [tyOk]
  | x :: l, n, h, t => by
    simp only [allOk, Bool.and_eq_true] at h
    cases t with
    | zero => exact h.1
    | succ t => have := allOk_at l (n + 1) h.2 t; rw [show n + (t + 1) = n + 1 + t by omega]; exact this
theorem tabOf (P : Program) (l : List TI) (h : allOk P l 0 = true) : TabOk P (fun t => l.getD t .other) := fun t => by
  have := allOk_at l 0 h t; rwa [Nat.zero_add] at this
end Go.V
