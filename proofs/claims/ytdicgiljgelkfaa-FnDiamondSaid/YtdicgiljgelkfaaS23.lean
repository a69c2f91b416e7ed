/-
  S23: laws over bytes: from 'CallSound' to what the given shell asks of a walk.
-/
import Derived.Test.YtdicgiljgelkfaaS22
import Derived.Below
namespace Go.V
open Go.ChangeShapes Go.RowKit

/-- a slice of integers that came in (the guide's shell's word, named anew) -/
def InRow (k : IntKind) (w : World) (a : Option Addr) (len cap : Nat) (zs : List Int) : Prop :=
  (a = none ∧ len = 0 ∧ cap = 0 ∧ zs = []) ∨
  ∃ x, a = some x ∧ len ≤ cap ∧ cap ≤ maxLen ∧ zs.length = cap ∧ (∀ i, i < zs.length → w.cell? (x.add i) = some (.int k (zs.getD i 0))) ∧ ∀ n ∈ zs, (Lit.int k n).wf = true

theorem ints_rep {w : World} {K : Nat → Prop} {k : IntKind} : ∀ (xs : List Int), RpL (Rp w K (.int k)) xs (xs.map (Value.int k)) []
  | [] => ⟨rfl, rfl⟩
  | x :: xs => ⟨[_], _, [], [], rfl, rfl, by simp only [Rp]; exact ⟨trivial, trivial⟩, ints_rep xs⟩

theorem InRow.arg {w : World} {k : IntKind} {a : Option Addr} {len cap : Nat} {zs : List Int} (h : InRow k w a len cap zs) (e : TypeId) (ms : List Nat) :
    A1Ok w (fun _ => True) ms (.one ⟨.sl false e (.int k), zs.take len⟩) (.slice a len cap) [] := by
  refine ⟨?_, fun _ => rfl⟩
  show Rp w _ (.sl false e (.int k)) (zs.take len) _ _
  rw [Rp]
  rcases h with ⟨rfl, rfl, rfl, rfl⟩ | ⟨x, rfl, h1, _, h2, h3, _⟩
  · exact ⟨rfl, none, 0, [], rfl, Nat.le_refl _, ⟨rfl, rfl⟩, .inl rfl⟩
  · have hl : List.length (zs.take len) = len := by rw [List.length_take]; omega
    refine ⟨rfl, some x, cap, (zs.take len).map (Value.int k), by rw [hl], by rw [hl]; exact h1, ints_rep _, ?_⟩
    rcases Nat.eq_zero_or_pos len with hz | hz
    · left; subst hz; rfl
    · right
      have h0 := h3 0 (by omega)
      refine ⟨x, rfl, trivial, ?_, fun j hj => ?_⟩
      · unfold World.cell? at h0
        rw [add_block] at h0
        cases hb : w.heap[x.block]? with
        | none => rw [hb] at h0; cases h0
        | some o => exact lt_size hb
      · rw [List.length_map, hl] at hj
        rw [h3 j (by omega), List.getElem?_map, List.getElem?_take_of_lt hj, List.getElem?_eq_getElem (by omega)]
        simp only [Option.map_some, Option.some.injEq, Value.int.injEq, true_and]
        rw [List.getD_eq_getElem?_getD, List.getElem?_eq_getElem (by omega)]; rfl

/-- a law that is true of what came in -/
theorem law_calls {P : Program} {f : FuncId} {as : List A1} {vals : List Value} {w : World} (h : CallSound P f as [] ⟨[.one ⟨.bool, true⟩], []⟩) (ha : FL (A1Ok w (fun _ => True) []) as vals []) :
    Calls P f vals.toArray w fun e w' => e = .returned (.bool true) ∧ Below w.heap.size w w' := by
  refine Calls.mono (h.2 w vals (fun _ => True) [] [] [] ha ⟨rfl, rfl⟩ (by simp) (fun g hg => by simp at hg)) ?_
  rintro e w' ⟨v, rfl, vs, F1, F2, rfl, h1, _, _, _, h5⟩
  obtain ⟨u, us, G1, G2, rfl, _, h6, h7⟩ := h1
  obtain ⟨rfl, _⟩ := h7
  have : u = .bool true := by
    have := h6.1
    simp only [Rp] at this
    have h8 := this.1
    injection h8
  subst this
  exact ⟨rfl, h5.os, h5.tape, h5.output, h5.size, fun k hk => h5.same k hk (by simp)⟩
end Go.V
