/-
  S3: effects: a new variable, cells of a variable, owners that come, turn and go.
-/
import Derived.Test.YtdicgiljgelkfaaS2
namespace Go.V
open Go.RowKit

theorem all_of {ks : List Kl} {p : Kl → Bool} (h : ks.all p = true) {k : Kl} (hk : k ∈ ks) : p k = true := List.all_eq_true.1 h k hk

/-- what stays of the references, key by key -/
theorem Stay.of {b : Base} {S S' : St} {c c' : Cc} {w w' : World} {ks : List Kl} (hi : Inv b S w c)
    (h1 : ∀ k o, S.ow k = some o → .all k ∈ ks ∨ (S'.ow k = some o ∧ c'.hv k = c.hv k ∧ Same w w' (c.F k)) ∨
      (.deep k ∈ ks ∧ c'.hv k = c.hv k ∧ ∃ xs', S'.ow k = some ⟨o.e, o.r, xs'⟩ ∧ xs'.length = o.xs.length))
    (h2 : ∀ k n, S.ms k = some n → .m k ∈ ks ∨ (S'.ms k = some n ∧ c'.mb k = c.mb k))
    (kk : KSame w w' (Kok b S c) (Kok b S' c')) : Stay S S' c c' w w' (Kok b S c) (Kok b S' c') ks := by
  refine ⟨?_, ?_, ?_, kk⟩
  · rintro k st win v hk ⟨o, e, r, ys, h, ho, hg, hh, hw⟩
    rcases h1 k o ho with hx | ⟨h3, h4, h5⟩ | ⟨hx, h4, xs', h5, h6⟩
    · have := all_of hk hx
      simp [Kl.okV] at this
    · exact ⟨o, e, r, ys, h, h3, hg, by rw [h4, hdr_same (hi.ow k o ho) h5 hg]; exact hh, hw⟩
    · have := all_of hk hx
      simp only [Kl.okV, beq_self_eq_true, Bool.not_true, Bool.false_or, List.isEmpty_iff] at this
      subst this
      simp only [getT, Tr.run, Option.some.injEq] at hg
      injection hg with ha hb
      injection ha with _ he hr
      obtain ⟨oe, or, oxs⟩ := o
      simp only at he hr h5 h6 hb
      subst he hr
      obtain rfl := eq_of_heq hb
      exact ⟨_, oe, or, xs', h, h5, rfl, by rw [h4]; exact hh, by rw [h6]; exact hw⟩
  · rintro k st v hk ⟨o, a, ho, ha, rfl, pre, p, d, rfl, hd⟩
    rcases h1 k o ho with hx | ⟨h3, h4, h5⟩ | ⟨hx, h4, xs', h5, h6⟩
    · have := all_of hk hx
      simp [Kl.okE] at this
    · exact ⟨o, a, h3, by rw [h4, adr_same' pre _ _ p (hi.ow k o ho) h5 hd]; exact ha, rfl, pre, p, d, rfl, hd⟩
    · have := all_of hk hx
      simp only [Kl.okE, beq_self_eq_true, Bool.not_true, Bool.false_or, decide_eq_true_eq, List.length_append, List.length_cons, List.length_nil] at this
      obtain rfl : pre = [] := List.eq_nil_of_length_eq_zero (by omega)
      exact ⟨_, a, h5, by rw [h4]; rw [List.nil_append] at ha ⊢; rw [adr_one (w := w)]; exact ha, rfl, [], p, _, rfl, rfl⟩
  · rintro k off v hk ⟨n, hn, rfl⟩
    rcases h2 k n hn with hx | ⟨h3, h4⟩
    · have := all_of hk hx
      simp [Kl.okM] at this
    · exact ⟨n, h3, by rw [h4]⟩

/-- the blocks that anyone may read stay as they are, where only owned ones are touched, and what is owned then was owned or is new -/
theorem ksame {b : Base} {S S' : St} {c c' : Cc} {w w' : World} {T : Nat → Prop} (hst : Step w w' T) (hT : ∀ g, T g → Owned S c g) (ho : ∀ g, Owned S' c' g → Owned S c g ∨ w.heap.size ≤ g) :
    KSame w w' (Kok b S c) (Kok b S' c') :=
  ⟨hst.size, fun g ⟨h1, h2⟩ hg => ⟨hst.same g hg fun ht => h2 (hT g ht), h1, fun hx => (ho g hx).elim h2 fun h3 => by omega⟩⟩

theorem Inv.fix' {b : Base} {S : St} {c : Cc} {w w' : World} {T : Nat → Prop} (hi : Inv b S w c) (hst : Step w w' T) (hT : ∀ g, T g → Owned S c g) : ∀ g, g < b.w0.heap.size → ¬ b.O0 g → w'.heap[g]? = b.w0.heap[g]? := by
  intro g hg hn
  have hl := hi.size
  rw [hst.same g (by omega) fun ht => ?_]
  · exact hi.fix g hg hn
  · rcases (hi.fr g (hT g ht)).2 with h | h
    · omega
    · exact hn h

/-- a new variable -/
theorem Inv.newMem {b : Base} {S : St} {c : Cc} {w w' : World} (hi : Inv b S w c) (d : Nat) (hdn : d < b.n1) (row : List Leaf) (vs : List Value) (e : TypeId) (hw : w' = { w with heap := w.heap.push (.cells vs.toArray e) })
    (hrow : All2 (LeafOk S c w (Kok b S c)) row vs) :
    ∃ c', c'.mb d = w.heap.size ∧ Inv b ((S.kp [.m d]).up (.ms d row)) w' c' ∧ Stay S ((S.kp [.m d]).up (.ms d row)) c c' w w' (Kok b S c) (Kok b ((S.kp [.m d]).up (.ms d row)) c') [.m d] := by
  let c' : Cc := ⟨fun k => if k = d then w.heap.size else c.mb k, c.hv, c.F⟩
  generalize hS : (S.kp [.m d]).up (.ms d row) = S'
  have how : S'.ow = S.ow := by subst hS; rfl
  have hms : ∀ k, S'.ms k = if k = d then some row.length else S.ms k := by subst hS; intro k; rfl
  have hmc : ∀ k i, S'.mc k i = if k = d then row.getD i .no else (S.mc k i).kp [.m d] := by subst hS; intro k i; rfl
  have hst : Step w w' fun _ => False := by
    subst hw
    exact ⟨rfl, rfl, rfl, by simp, fun g hg _ => by simp [Array.getElem?_push, show ¬ (g = w.heap.size) by omega]⟩
  have hown : ∀ g, Owned S' c' g → Owned S c g ∨ w.heap.size ≤ g := by
    rintro g (⟨k, hk, rfl⟩ | ⟨k, hk, hg⟩)
    · by_cases hkd : k = d
      · subst hkd; right; simp [c']
      · left; left; exact ⟨k, by rw [hms, if_neg hkd] at hk; exact hk, by simp [c', hkd]⟩
    · left; right; exact ⟨k, by rw [how] at hk; exact hk, hg⟩
  have kk := ksame (b := b) hst (fun _ h => h.elim) hown
  have stay : Stay S S' c c' w w' (Kok b S c) (Kok b S' c') [.m d] := by
    refine Stay.of hi ?_ ?_ kk
    · intro k o ho
      exact .inr (.inl ⟨by rw [how]; exact ho, rfl, fun g hg => hst.same g (hi.fr g (.inr ⟨k, by rw [ho]; simp, hg⟩)).1 (fun h => h)⟩)
    · intro k n hn
      by_cases hkd : k = d
      · subst hkd; exact .inl (by simp)
      · exact .inr ⟨by rw [hms, if_neg hkd]; exact hn, by simp [c', hkd]⟩
  refine ⟨c', by simp [c'], ?_, stay⟩
  refine ⟨?_, ?_, ?_, ?_, ?_, ?_, ?_, hi.fix' hst (fun _ h => h.elim), hst.os.trans hi.os, hst.tape.trans hi.tape, hst.output.trans hi.output, Nat.le_trans hi.size hst.size, fun m g hg => by have := hi.an m g hg; simpa [c', show ¬ (b.n1 + m = d) by omega] using this⟩
  · intro k n hn
    rw [hms] at hn
    by_cases hkd : k = d
    · subst hkd
      rw [if_pos rfl] at hn
      injection hn with hn
      refine ⟨vs.toArray, e, (0, 0), ?_, ?_, ?_, ?_⟩
      · subst hw; simp [c']
      · rw [List.size_toArray, ← hrow.len]; exact hn
      · intro i _ h; simp at h
      · intro i v hv
        rw [List.getElem?_toArray] at hv
        have hi' : i < row.length := by rw [hrow.len]; exact (List.getElem?_eq_some_iff.1 hv).1
        obtain ⟨v', h1, h2⟩ := hrow.get (List.getElem?_eq_getElem hi')
        rw [hv] at h1
        injection h1 with h1
        subst h1
        rw [hmc, if_pos rfl, List.getD_eq_getElem?_getD, List.getElem?_eq_getElem hi', Option.getD_some]
        have h3 := stay.leaf h2
        have h4 : ∀ l : Leaf, l.kp [.m k] = l := by intro l; cases l <;> simp [Leaf.kp, Kl.okV]
        rw [h4] at h3
        exact h3
    · rw [if_neg hkd] at hn
      obtain ⟨cs, e', fr, h1, h2, h3, h4⟩ := hi.ms k n hn
      refine ⟨cs, e', fr, ?_, h2, h3, ?_⟩
      · have : c'.mb k = c.mb k := by simp [c', hkd]
        rw [this, hst.same _ (lt_size h1) (fun h => h)]; exact h1
      · intro i v hv
        rw [hmc, if_neg hkd]
        exact stay.leaf (h4 i v hv)
  · intro k o ho
    rw [how] at ho
    exact Rp.frame kk _ _ (hi.ow k o ho) fun g hg => hst.same g (hi.fr g (.inr ⟨k, by rw [ho]; simp, hg⟩)).1 (fun h => h)
  · intro k hk; rw [how] at hk; exact hi.nd k hk
  · intro k k' hne h1 h2; rw [how] at h1 h2; exact hi.oo k k' hne h1 h2
  · intro k k' hne h1 h2
    rw [hms] at h1 h2
    by_cases hkd : k = d
    · have hkd' : ¬ k' = d := fun h => hne (hkd.trans h.symm)
      rw [if_neg hkd'] at h2
      have := (hi.fr (c.mb k') (.inl ⟨k', h2, rfl⟩)).1
      simp only [c', hkd, if_true, hkd', if_false]; omega
    · rw [if_neg hkd] at h1
      have h5 := (hi.fr (c.mb k) (.inl ⟨k, h1, rfl⟩)).1
      by_cases hkd' : k' = d
      · simp only [c', hkd, if_false, hkd', if_true]; omega
      · rw [if_neg hkd'] at h2
        simp only [c', hkd, hkd', if_false]; exact hi.mm k k' hne h1 h2
  · intro k k' h1 h2
    rw [hms] at h1; rw [how] at h2
    by_cases hkd : k = d
    · simp only [c', hkd, if_true]
      intro hg
      have := (hi.fr _ (.inr ⟨k', h2, hg⟩)).1
      omega
    · rw [if_neg hkd] at h1
      simp only [c', hkd, if_false]; exact hi.mo k k' h1 h2
  · intro g hg
    rcases hown g hg with h | h
    · have := hi.fr g h
      exact ⟨Nat.lt_of_lt_of_le this.1 hst.size, this.2⟩
    · refine ⟨?_, .inl (Nat.le_trans hi.size h)⟩
      rcases hg with ⟨k, hk, rfl⟩ | ⟨k, hk, hg⟩
      · by_cases hkd : k = d
        · subst hw; simp [c', hkd]
        · rw [hms, if_neg hkd] at hk
          have := (hi.fr (c.mb k) (.inl ⟨k, hk, rfl⟩)).1
          have h6 : c'.mb k = c.mb k := by simp [c', hkd]
          rw [h6]; exact Nat.lt_of_lt_of_le this hst.size
      · rw [how] at hk
        exact Nat.lt_of_lt_of_le (hi.fr g (.inr ⟨k, hk, hg⟩)).1 hst.size

/-- a variable's cell gets a value -/
theorem Inv.setMem {b : Base} {S S' : St} {c : Cc} {w w' : World} (hi : Inv b S w c) (k off n : Nat) (l : Leaf) (v : Value) (hk : S.ms k = some n) (ho : off < n) (hl : LeafOk S c w (Kok b S c) l v)
    (hS : S' = S.up (.mc k off l)) (hw : w' = w.setCell ⟨c.mb k, off, none⟩ v) :
    Inv b S' w' c ∧ Stay S S' c c w w' (Kok b S c) (Kok b S' c) [] := by
  have how : S'.ow = S.ow := by subst hS; rfl
  have hms : S'.ms = S.ms := by subst hS; rfl
  have hmc : ∀ i j, S'.mc i j = if i = k then (if j = off then l else S.mc i j) else S.mc i j := by subst hS; intro i j; rfl
  have hKok : Kok b S' c = Kok b S c := kok_same how hms
  have hst : Step w w' fun g => g = c.mb k := by
    subst hw
    exact ⟨rfl, rfl, rfl, by simp [World.setCell], fun g _ hg => Below.heap_setCell _ _ _ _ hg⟩
  have hT : ∀ g, g = c.mb k → Owned S c g := fun g hg => .inl ⟨k, by rw [hk]; simp, hg.symm⟩
  have hF : ∀ k', S.ow k' ≠ none → Same w w' (c.F k') := fun k' hk' g hg => hst.same g (hi.fr g (.inr ⟨k', hk', hg⟩)).1 fun e => hi.mo k k' (by rw [hk]; simp) hk' (e ▸ hg)
  have kk : KSame w w' (Kok b S c) (Kok b S' c) := ksame hst hT (fun g hg => .inl ((owned_same how hms g).1 hg))
  have stay : Stay S S' c c w w' (Kok b S c) (Kok b S' c) [] := by
    refine Stay.of hi ?_ ?_ kk
    · intro k' o ho'
      exact .inr (.inl ⟨by rw [how]; exact ho', rfl, hF k' (by rw [ho']; simp)⟩)
    · intro k' n' hn'
      exact .inr ⟨by rw [hms]; exact hn', rfl⟩
  refine ⟨?_, stay⟩
  have hleaf : ∀ {l v}, LeafOk S c w (Kok b S c) l v → LeafOk S' c w' (Kok b S' c) l v := fun {l v} h => by
    have := stay.leaf h
    rwa [Leaf.kp_nil] at this
  refine ⟨?_, ?_, ?_, ?_, ?_, ?_, ?_, hi.fix' hst hT, hst.os.trans hi.os, hst.tape.trans hi.tape, hst.output.trans hi.output, Nat.le_trans hi.size hst.size, hi.an⟩
  · intro k' n' hn'
    rw [hms] at hn'
    obtain ⟨cs, e, fr, h1, h2, h3, h4⟩ := hi.ms k' n' hn'
    by_cases hkk : k' = k
    · subst hkk
      rw [hk] at hn'
      injection hn' with hn'
      refine ⟨cs.setIfInBounds off v, e, fr, by subst hw; exact setCell_blk h1 _ _, by simpa using h2, by simpa using h3, ?_⟩
      intro i u hu
      rw [hmc, if_pos rfl]
      by_cases hio : i = off
      · subst hio
        rw [if_pos rfl]
        rw [Array.getElem?_setIfInBounds_self_of_lt (by omega)] at hu
        injection hu with hu
        subst hu
        exact hleaf hl
      · rw [if_neg hio]
        rw [Array.getElem?_setIfInBounds_ne (Ne.symm hio)] at hu
        exact hleaf (h4 i u hu)
    · refine ⟨cs, e, fr, ?_, h2, h3, fun i u hu => ?_⟩
      · rw [hst.same _ (lt_size h1) (hi.mm k' k hkk (by rw [hn']; simp) (by rw [hk]; simp))]; exact h1
      · rw [hmc, if_neg hkk]; exact hleaf (h4 i u hu)
  · intro k' o ho'
    rw [how] at ho'
    exact Rp.frame kk _ _ (hi.ow k' o ho') (hF k' (by rw [ho']; simp))
  · intro k' hk'; rw [how] at hk'; exact hi.nd k' hk'
  · intro k1 k2 hne h1 h2; rw [how] at h1 h2; exact hi.oo k1 k2 hne h1 h2
  · intro k1 k2 hne h1 h2; rw [hms] at h1 h2; exact hi.mm k1 k2 hne h1 h2
  · intro k1 k2 h1 h2; rw [hms] at h1; rw [how] at h2; exact hi.mo k1 k2 h1 h2
  · intro g hg
    have := hi.fr g ((owned_same how hms g).1 hg)
    exact ⟨Nat.lt_of_lt_of_le this.1 hst.size, this.2⟩

/-- an owner comes or turns; others are given up -/
theorem Inv.setOwn {b : Base} {S S' : St} {c : Cc} {w w' : World} (hi : Inv b S w c) (κ : Nat) (o' : Own) (gs : List Nat) (ks : List Kl) (h' : Value) (F' : List Nat)
    (how : ∀ k, S'.ow k = if k = κ then some o' else if k ∈ gs then none else S.ow k) (hms : S'.ms = S.ms) (hmc : ∀ k i, S'.mc k i = (S.mc k i).kp ks)
    (hgs : ∀ k, k ∈ gs → .all k ∈ ks) (hκ : ∀ o, S.ow κ = some o → .all κ ∈ ks ∨ (.deep κ ∈ ks ∧ h' = c.hv κ ∧ ∃ xs', o' = ⟨o.e, o.r, xs'⟩ ∧ xs'.length = o.xs.length))
    (hst : Step w w' fun g => ∃ k, (k = κ ∨ k ∈ gs) ∧ S.ow k ≠ none ∧ g ∈ c.F k)
    (hF : ∀ g, g ∈ F' → g < w'.heap.size ∧ ((∃ k, (k = κ ∨ k ∈ gs) ∧ S.ow k ≠ none ∧ g ∈ c.F k) ∨ w.heap.size ≤ g)) (hnd : F'.Nodup)
    (hR : ∀ K', KSame w w' (Kok b S c) K' → (∀ g, w.heap.size ≤ g → g ∉ F' → K' g) → Rp w' K' (.sl true o'.e o'.r) o'.xs [h'] F') :
    ∃ c', c'.mb = c.mb ∧ c'.hv κ = h' ∧ c'.F κ = F' ∧ Inv b S' w' c' ∧ Stay S S' c c' w w' (Kok b S c) (Kok b S' c') ks ∧ ∀ k, k ≠ κ → c'.hv k = c.hv k ∧ c'.F k = c.F k := by
  let c' : Cc := ⟨c.mb, fun k => if k = κ then h' else c.hv k, fun k => if k = κ then F' else c.F k⟩
  have hcF : ∀ k, k ≠ κ → c'.F k = c.F k := fun k hk => by simp [c', hk]
  have hch : ∀ k, k ≠ κ → c'.hv k = c.hv k := fun k hk => by simp [c', hk]
  have hcκ : c'.F κ = F' := by simp [c']
  have hT : ∀ g, (∃ k, (k = κ ∨ k ∈ gs) ∧ S.ow k ≠ none ∧ g ∈ c.F k) → Owned S c g := fun g ⟨k, _, h1, h2⟩ => .inr ⟨k, h1, h2⟩
  have hkept : ∀ k, k ≠ κ → S'.ow k ≠ none → k ∉ gs ∧ S.ow k ≠ none := by
    intro k hk h
    rw [how, if_neg hk] at h
    by_cases hg : k ∈ gs
    · rw [if_pos hg] at h; exact absurd rfl h
    · rw [if_neg hg] at h; exact ⟨hg, h⟩
  have hown : ∀ g, Owned S' c' g → Owned S c g ∨ w.heap.size ≤ g := by
    rintro g (⟨k, hk, rfl⟩ | ⟨k, hk, hg⟩)
    · exact .inl (.inl ⟨k, by rw [hms] at hk; exact hk, rfl⟩)
    · by_cases hkκ : k = κ
      · subst hkκ
        rw [hcκ] at hg
        rcases (hF g hg).2 with h | h
        · exact .inl (hT g h)
        · exact .inr h
      · rw [hcF k hkκ] at hg
        exact .inl (.inr ⟨k, (hkept k hkκ hk).2, hg⟩)
  have kk : KSame w w' (Kok b S c) (Kok b S' c') := ksame hst hT hown
  have hsame : ∀ k, k ≠ κ → k ∉ gs → S.ow k ≠ none → Same w w' (c.F k) := fun k hk hg ho g hgF => hst.same g (hi.fr g (.inr ⟨k, ho, hgF⟩)).1 (by
    rintro ⟨k2, h1, h2, h3⟩
    have hne : k ≠ k2 := by rintro rfl; exact h1.elim hk hg
    exact hi.oo k k2 hne ho h2 g hgF h3)
  have stay : Stay S S' c c' w w' (Kok b S c) (Kok b S' c') ks := by
    refine Stay.of hi ?_ ?_ kk
    · intro k o ho
      by_cases hkκ : k = κ
      · subst hkκ
        rcases hκ o ho with h | ⟨h1, h2, xs', h3, h4⟩
        · exact .inl h
        · exact .inr (.inr ⟨h1, by simp [c', h2], xs', by rw [how, if_pos rfl, h3], h4⟩)
      · by_cases hg : k ∈ gs
        · exact .inl (hgs k hg)
        · exact .inr (.inl ⟨by rw [how, if_neg hkκ, if_neg hg]; exact ho, hch k hkκ, hsame k hkκ hg (by rw [ho]; simp)⟩)
    · intro k n hn
      exact .inr ⟨by rw [hms]; exact hn, rfl⟩
  refine ⟨c', rfl, by simp [c'], hcκ, ?_, stay, fun k hk => ⟨hch k hk, hcF k hk⟩⟩
  refine ⟨?_, ?_, ?_, ?_, ?_, ?_, ?_, hi.fix' hst hT, hst.os.trans hi.os, hst.tape.trans hi.tape, hst.output.trans hi.output, Nat.le_trans hi.size hst.size, hi.an⟩
  · intro k n hn
    rw [hms] at hn
    obtain ⟨cs, e, fr, h1, h2, h3, h4⟩ := hi.ms k n hn
    refine ⟨cs, e, fr, ?_, h2, h3, fun i u hu => by rw [hmc]; exact stay.leaf (h4 i u hu)⟩
    show w'.heap[c.mb k]? = _
    rw [hst.same _ (lt_size h1) (by rintro ⟨k2, _, h5, h6⟩; exact hi.mo k k2 (by rw [hn]; simp) h5 h6)]; exact h1
  · intro k o ho
    by_cases hkκ : k = κ
    · subst hkκ
      rw [how, if_pos rfl] at ho
      injection ho with ho
      subst ho
      have : c'.hv k = h' := by simp [c']
      rw [this, hcκ]
      refine hR _ kk fun g hg hgF => ⟨.inr (Nat.le_trans hi.size hg), ?_⟩
      rintro (⟨k2, h1, rfl⟩ | ⟨k2, h1, h2⟩)
      · rw [hms] at h1
        have := (hi.fr (c.mb k2) (.inl ⟨k2, h1, rfl⟩)).1
        have h9 : c'.mb k2 = c.mb k2 := rfl
        omega
      · by_cases hk2 : k2 = k
        · subst hk2; rw [hcκ] at h2; exact hgF h2
        · rw [hcF k2 hk2] at h2
          have := (hi.fr g (.inr ⟨k2, (hkept k2 hk2 h1).2, h2⟩)).1
          omega
    · have h1 := hkept k hkκ (by rw [ho]; simp)
      rw [how, if_neg hkκ, if_neg h1.1] at ho
      rw [hch k hkκ, hcF k hkκ]
      exact Rp.frame kk _ _ (hi.ow k o ho) (hsame k hkκ h1.1 h1.2)
  · intro k hk
    by_cases hkκ : k = κ
    · subst hkκ; rw [hcκ]; exact hnd
    · rw [hcF k hkκ]; exact hi.nd k (hkept k hkκ hk).2
  · intro k1 k2 hne h1 h2 g hg
    by_cases hk1 : k1 = κ
    · have hk2 : k2 ≠ κ := fun h => hne (hk1.trans h.symm)
      have h4 := hkept k2 hk2 h2
      rw [hcF k2 hk2]
      subst hk1
      rw [hcκ] at hg
      rcases (hF g hg).2 with ⟨k3, h5, h6, h7⟩ | h5
      · have hne3 : k3 ≠ k2 := by rintro rfl; exact h5.elim hk2 h4.1
        exact hi.oo k3 k2 hne3 h6 h4.2 g h7
      · intro hx
        have := (hi.fr g (.inr ⟨k2, h4.2, hx⟩)).1
        omega
    · have h3 := hkept k1 hk1 h1
      rw [hcF k1 hk1] at hg
      by_cases hk2 : k2 = κ
      · subst hk2
        rw [hcκ]
        intro hx
        rcases (hF g hx).2 with ⟨k3, h5, h6, h7⟩ | h5
        · have hne3 : k1 ≠ k3 := by rintro rfl; exact h5.elim hk1 h3.1
          exact hi.oo k1 k3 hne3 h3.2 h6 g hg h7
        · have := (hi.fr g (.inr ⟨k1, h3.2, hg⟩)).1
          omega
      · rw [hcF k2 hk2]
        exact hi.oo k1 k2 hne h3.2 (hkept k2 hk2 h2).2 g hg
  · intro k1 k2 hne h1 h2; rw [hms] at h1 h2; exact hi.mm k1 k2 hne h1 h2
  · intro k1 k2 h1 h2
    rw [hms] at h1
    by_cases hk2 : k2 = κ
    · subst hk2
      rw [hcκ]
      intro hx
      rcases (hF _ hx).2 with ⟨k3, _, h6, h7⟩ | h5
      · exact hi.mo k1 k3 h1 h6 h7
      · have := (hi.fr (c.mb k1) (.inl ⟨k1, h1, rfl⟩)).1
        have h9 : c'.mb k1 = c.mb k1 := rfl
        omega
    · rw [hcF k2 hk2]; exact hi.mo k1 k2 h1 (hkept k2 hk2 h2).2
  · intro g hg
    refine ⟨?_, ?_⟩
    · rcases hg with ⟨k, hk, rfl⟩ | ⟨k, hk, hg⟩
      · rw [hms] at hk
        exact Nat.lt_of_lt_of_le (hi.fr (c.mb k) (.inl ⟨k, hk, rfl⟩)).1 hst.size
      · by_cases hkκ : k = κ
        · subst hkκ; rw [hcκ] at hg; exact (hF g hg).1
        · rw [hcF k hkκ] at hg
          exact Nat.lt_of_lt_of_le (hi.fr g (.inr ⟨k, (hkept k hkκ hk).2, hg⟩)).1 hst.size
    · rcases hown g hg with h | h
      · exact (hi.fr g h).2
      · exact .inl (Nat.le_trans hi.size h)

#print axioms Inv.newMem
#print axioms Inv.setMem
#print axioms Inv.setOwn
end Go.V
