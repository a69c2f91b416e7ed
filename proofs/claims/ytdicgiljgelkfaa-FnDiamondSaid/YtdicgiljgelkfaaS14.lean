/-
  S14: many owners come and go at once; the rows of variables turn: what a call does to a state.
-/
import Derived.Test.YtdicgiljgelkfaaS13
namespace Go.V
open Go.RowKit

/-- a new owner: its data, its value, its blocks -/
structure New where
  o : Own
  h : Value
  F : List Nat

theorem Inv.many {b : Base} {S S' : St} {c : Cc} {w w' : World} (hi : Inv b S w c) (news : Nat → Option New) (gs rws : List Nat) (ks : List Kl)
    (how : ∀ k, S'.ow k = match news k with | some n => some n.o | none => if k ∈ gs then none else S.ow k) (hms : S'.ms = S.ms) (hmc : ∀ k i, k ∉ rws → S'.mc k i = (S.mc k i).kp ks)
    (hgs : ∀ k, k ∈ gs → .all k ∈ ks) (hnews : ∀ k n, news k = some n → .all k ∈ ks)
    (hst : Step w w' fun g => (∃ k, k ∈ gs ∧ S.ow k ≠ none ∧ g ∈ c.F k) ∨ ∃ k, k ∈ rws ∧ S.ms k ≠ none ∧ c.mb k = g)
    (hF : ∀ k n, news k = some n → ∀ g, g ∈ n.F → g < w'.heap.size ∧ ((∃ k, k ∈ gs ∧ S.ow k ≠ none ∧ g ∈ c.F k) ∨ w.heap.size ≤ g))
    (hnd : ∀ k n, news k = some n → n.F.Nodup) (hdis : ∀ k n k' n', k ≠ k' → news k = some n → news k' = some n' → ∀ g, g ∈ n.F → g ∉ n'.F)
    (hR : ∀ K', KSame w w' (Kok b S c) K' → (∀ g, w.heap.size ≤ g → (∀ k n, news k = some n → g ∉ n.F) → K' g) → ∀ k n, news k = some n → Rp w' K' (.sl true n.o.e n.o.r) n.o.xs [n.h] n.F)
    (hrow : ∀ K' c', KSame w w' (Kok b S c) K' → (∀ g, w.heap.size ≤ g → (∀ k n, news k = some n → g ∉ n.F) → K' g) → (∀ k n, news k = some n → c'.hv k = n.h) → ∀ k n, k ∈ rws → S.ms k = some n →
      ∃ cs e fr, w'.heap[c.mb k]? = some (.cells cs e fr) ∧ cs.size = n ∧ NF fr cs.size ∧ ∀ i v, cs[i]? = some v → LeafOk S' c' w' K' (S'.mc k i) v) :
    ∃ c', c'.mb = c.mb ∧ (∀ k n, news k = some n → c'.hv k = n.h ∧ c'.F k = n.F) ∧ Inv b S' w' c' ∧ Stay S S' c c' w w' (Kok b S c) (Kok b S' c') ks ∧
      ∀ g, w.heap.size ≤ g → (∀ k n, news k = some n → g ∉ n.F) → Kok b S' c' g := by
  let c' : Cc := ⟨c.mb, fun k => match news k with | some n => n.h | none => c.hv k, fun k => match news k with | some n => n.F | none => c.F k⟩
  have hcF : ∀ k, news k = none → c'.F k = c.F k := fun k hk => by simp [c', hk]
  have hch : ∀ k, news k = none → c'.hv k = c.hv k := fun k hk => by simp [c', hk]
  have hcN : ∀ k n, news k = some n → c'.hv k = n.h ∧ c'.F k = n.F := fun k n hk => by simp [c', hk]
  have hT : ∀ g, ((∃ k, k ∈ gs ∧ S.ow k ≠ none ∧ g ∈ c.F k) ∨ ∃ k, k ∈ rws ∧ S.ms k ≠ none ∧ c.mb k = g) → Owned S c g := by
    rintro g (⟨k, _, h1, h2⟩ | ⟨k, _, h1, h2⟩)
    · exact .inr ⟨k, h1, h2⟩
    · exact .inl ⟨k, h1, h2⟩
  have hkept : ∀ k, news k = none → S'.ow k ≠ none → k ∉ gs ∧ S.ow k ≠ none := by
    intro k hk h
    rw [how, hk] at h
    by_cases hg : k ∈ gs
    · simp [hg] at h
    · exact ⟨hg, by simpa [hg] using h⟩
  have hown : ∀ g, Owned S' c' g → Owned S c g ∨ w.heap.size ≤ g := by
    rintro g (⟨k, hk, rfl⟩ | ⟨k, hk, hg⟩)
    · exact .inl (.inl ⟨k, by rw [hms] at hk; exact hk, rfl⟩)
    · cases hn : news k with
      | some n =>
        rw [(hcN k n hn).2] at hg
        rcases (hF k n hn g hg).2 with ⟨k2, h1, h2, h3⟩ | h
        · exact .inl (.inr ⟨k2, h2, h3⟩)
        · exact .inr h
      | none =>
        rw [hcF k hn] at hg
        exact .inl (.inr ⟨k, (hkept k hn hk).2, hg⟩)
  have kk : KSame w w' (Kok b S c) (Kok b S' c') := ksame hst hT hown
  have hsame : ∀ k, k ∉ gs → S.ow k ≠ none → Same w w' (c.F k) := fun k hg ho g hgF => hst.same g (hi.fr g (.inr ⟨k, ho, hgF⟩)).1 (by
    rintro (⟨k2, h1, h2, h3⟩ | ⟨k2, h1, h2, h3⟩)
    · have hne : k ≠ k2 := by rintro rfl; exact hg h1
      exact hi.oo k k2 hne ho h2 g hgF h3
    · subst h3; exact hi.mo k2 k h2 ho hgF)
  have stay : Stay S S' c c' w w' (Kok b S c) (Kok b S' c') ks := by
    refine Stay.of hi ?_ ?_ kk
    · intro k o ho
      cases hn : news k with
      | some n => exact .inl (hnews k n hn)
      | none =>
        by_cases hg : k ∈ gs
        · exact .inl (hgs k hg)
        · exact .inr (.inl ⟨by rw [how, hn]; simp [hg, ho], hch k hn, hsame k hg (by rw [ho]; simp)⟩)
    · intro k n hn
      exact .inr ⟨by rw [hms]; exact hn, rfl⟩
  have hfree : ∀ g, w.heap.size ≤ g → (∀ k n, news k = some n → g ∉ n.F) → Kok b S' c' g := by
    intro g hg hgF
    refine ⟨.inr (Nat.le_trans hi.size hg), ?_⟩
    rintro (⟨k2, h1, h9⟩ | ⟨k2, h1, h2⟩)
    · rw [hms] at h1
      have := (hi.fr (c.mb k2) (.inl ⟨k2, h1, rfl⟩)).1
      have h8 : c'.mb k2 = c.mb k2 := rfl
      omega
    · cases hn : news k2 with
      | some n => rw [(hcN k2 n hn).2] at h2; exact hgF k2 n hn h2
      | none =>
        rw [hcF k2 hn] at h2
        have := (hi.fr g (.inr ⟨k2, (hkept k2 hn h1).2, h2⟩)).1
        omega
  refine ⟨c', rfl, hcN, ?_, stay, hfree⟩
  refine ⟨?_, ?_, ?_, ?_, ?_, ?_, ?_, hi.fix' hst hT, hst.os.trans hi.os, hst.tape.trans hi.tape, hst.output.trans hi.output, Nat.le_trans hi.size hst.size, hi.an⟩
  · intro k n hn
    rw [hms] at hn
    by_cases hk : k ∈ rws
    · exact hrow _ c' kk hfree (fun k n h => (hcN k n h).1) k n hk hn
    · obtain ⟨cs, e, fr, h1, h2, h3, h4⟩ := hi.ms k n hn
      refine ⟨cs, e, fr, ?_, h2, h3, fun i u hu => by rw [hmc k i hk]; exact stay.leaf (h4 i u hu)⟩
      show w'.heap[c.mb k]? = _
      rw [hst.same _ (lt_size h1) (by
        rintro (⟨k2, _, h5, h6⟩ | ⟨k2, h4, h5, h6⟩)
        · exact hi.mo k k2 (by rw [hn]; simp) h5 h6
        · have hne : k ≠ k2 := by rintro rfl; exact hk h4
          exact hi.mm k k2 hne (by rw [hn]; simp) h5 h6.symm)]
      exact h1
  · intro k o ho
    cases hn : news k with
    | some n =>
      rw [how, hn] at ho
      injection ho with ho
      subst ho
      rw [(hcN k n hn).1, (hcN k n hn).2]
      exact hR _ kk hfree k n hn
    | none =>
      have h1 := hkept k hn (by rw [ho]; simp)
      rw [how, hn] at ho
      simp only [h1.1, if_false] at ho
      rw [hch k hn, hcF k hn]
      exact Rp.frame kk _ _ (hi.ow k o ho) (hsame k h1.1 h1.2)
  · intro k hk
    cases hn : news k with
    | some n => rw [(hcN k n hn).2]; exact hnd k n hn
    | none => rw [hcF k hn]; exact hi.nd k (hkept k hn hk).2
  · intro k1 k2 hne h1 h2 g hg
    cases hn1 : news k1 with
    | some n1 =>
      rw [(hcN k1 n1 hn1).2] at hg
      cases hn2 : news k2 with
      | some n2 => rw [(hcN k2 n2 hn2).2]; exact hdis k1 n1 k2 n2 hne hn1 hn2 g hg
      | none =>
        have h4 := hkept k2 hn2 h2
        rw [hcF k2 hn2]
        rcases (hF k1 n1 hn1 g hg).2 with ⟨k3, h5, h6, h7⟩ | h5
        · have hne3 : k3 ≠ k2 := by rintro rfl; exact h4.1 h5
          exact hi.oo k3 k2 hne3 h6 h4.2 g h7
        · intro hx
          have := (hi.fr g (.inr ⟨k2, h4.2, hx⟩)).1
          omega
    | none =>
      have h3 := hkept k1 hn1 h1
      rw [hcF k1 hn1] at hg
      cases hn2 : news k2 with
      | some n2 =>
        rw [(hcN k2 n2 hn2).2]
        intro hx
        rcases (hF k2 n2 hn2 g hx).2 with ⟨k3, h5, h6, h7⟩ | h5
        · have hne3 : k1 ≠ k3 := by rintro rfl; exact h3.1 h5
          exact hi.oo k1 k3 hne3 h3.2 h6 g hg h7
        · have := (hi.fr g (.inr ⟨k1, h3.2, hg⟩)).1
          omega
      | none =>
        rw [hcF k2 hn2]
        exact hi.oo k1 k2 hne h3.2 (hkept k2 hn2 h2).2 g hg
  · intro k1 k2 hne h1 h2; rw [hms] at h1 h2; exact hi.mm k1 k2 hne h1 h2
  · intro k1 k2 h1 h2
    rw [hms] at h1
    cases hn2 : news k2 with
    | some n2 =>
      rw [(hcN k2 n2 hn2).2]
      intro hx
      rcases (hF k2 n2 hn2 _ hx).2 with ⟨k3, _, h6, h7⟩ | h5
      · exact hi.mo k1 k3 h1 h6 h7
      · have := (hi.fr (c.mb k1) (.inl ⟨k1, h1, rfl⟩)).1
        have h9 : c'.mb k1 = c.mb k1 := rfl
        omega
    | none => rw [hcF k2 hn2]; exact hi.mo k1 k2 h1 (hkept k2 hn2 h2).2
  · intro g hg
    refine ⟨?_, ?_⟩
    · rcases hg with ⟨k, hk, rfl⟩ | ⟨k, hk, hg⟩
      · rw [hms] at hk
        exact Nat.lt_of_lt_of_le (hi.fr (c.mb k) (.inl ⟨k, hk, rfl⟩)).1 hst.size
      · cases hn : news k with
        | some n => rw [(hcN k n hn).2] at hg; exact (hF k n hn g hg).1
        | none =>
          rw [hcF k hn] at hg
          exact Nat.lt_of_lt_of_le (hi.fr g (.inr ⟨k, (hkept k hn hk).2, hg⟩)).1 hst.size
    · rcases hown g hg with h | h
      · exact (hi.fr g h).2
      · exact .inl (Nat.le_trans hi.size h)

#print axioms Inv.many
end Go.V
