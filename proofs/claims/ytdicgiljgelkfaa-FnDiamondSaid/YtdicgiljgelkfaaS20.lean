/-
  S20: regions are sound.
-/
import Derived.Test.YtdicgiljgelkfaaS19
namespace Go.V

section
variable {P : Program} {E : Env} {b : Base} {N : Nat} {ops : Array Oper}

theorem Sim.skip {S : St} {a : Act} {w : World} (h : Sim b N S a w) (d : Option Nat) (hd : ∀ k, d = some k → k < N) : Sim b N (S.app d noOut) (a.put d undef) w := by
  obtain ⟨c, hi, hs⟩ := h
  exact (Did.same (x := .un) (v := undef) hi rfl).sim hs d hd

/-- one step runs -/
theorem Stp.runs (hE : EnvOk P E) (hN : N < b.n1) {S : St} {r : Rec} (h : Stp E N ops S r) {a : Act} {w : World} (hs : Sim b N S a w) {K : Act → World → Prop} {Q : Exit → Act → World → Prop} (hK : ∀ a' w', Sim b N (S.app r.o.dst r.out) a' w' → K a' w') :
    if Region.wanted r.o (yielded ops a.tmps) then r.o.wp P a w K Q else K (a.put r.o.dst undef) w := by
  obtain ⟨hd, h⟩ := h
  have hdst : ∀ k, r.o.dst = some k → k < N := by
    intro k hk
    unfold dstOk at hd
    rw [hk] at hd
    simpa using hd
  have hw : ∀ y, Holds ops S r.o y → Region.wanted r.o (yielded ops a.tmps) = y := by
    intro y hy
    unfold Holds at hy
    unfold Region.wanted
    split at hy
    · rename_i hg; rw [hg]; exact hy.symm
    · rename_i j want hg
      obtain ⟨g, h1, h2⟩ := hy
      rw [hg]
      simp only
      obtain ⟨c, hi, hsl⟩ := hs
      have h4 := hsl.ok g
      rcases h2 with ⟨bb, h2, h3⟩ | ⟨h2, h3⟩
      rotate_left
      · rw [h2] at h4
        have h5 : a.tmps.getD g undef = undef := h4
        have h7 : yielded ops a.tmps j = none := by
          unfold yielded
          unfold gslot at h1
          rw [h1]
          rw [Array.getD_eq_getD_getElem?] at h5
          cases h8 : a.tmps[g]? with
          | none => simp [h8]
          | some v => rw [h8] at h5; simp only [Option.getD_some] at h5; subst h5; simp [h8, undef]
        rw [h7, h3]
        rfl
      rw [h2] at h4
      have h5 : a.tmps.getD g undef = .bool bb := bool_leaf (leaf_sv h4)
      have h6 : a.tmps[g]? = some (.bool bb) := by
        rw [Array.getD_eq_getD_getElem?] at h5
        cases h7 : a.tmps[g]? with
        | none => rw [h7] at h5; cases h5
        | some v => rw [h7] at h5; simp only [Option.getD_some] at h5; rw [h5]
      have h7 : yielded ops a.tmps j = some bb := by
        unfold yielded
        unfold gslot at h1
        rw [h1]
        simp [h6]
      rw [h7, h3]
      rfl
  rcases h with ⟨h1, h2, _⟩ | ⟨h1, h2, _⟩
  · rw [hw true h1, if_pos rfl]
    obtain ⟨c, hi, hsl⟩ := hs
    have hev := at_ev S _ [] h2
    refine core_ok hE.ti hi hsl r.o (d := r.o.dst.getD N) (by
      cases hk : r.o.dst with
      | none => exact hN
      | some k => exact Nat.lt_trans (hdst k hk) hN) (fun f args ts out ho hsz hc => callT_ok hE hi hsl ho hsz hc) hev K Q fun v w' hdid => ?_
    exact hK _ _ (hdid.sim hsl r.o.dst hdst)
  · rw [hw false h1]
    simp only [Bool.false_eq_true, if_false]
    refine hK _ _ ?_
    rw [h2]
    exact hs.skip _ hdst

theorem Runs.list (hE : EnvOk P E) (hN : N < b.n1) : ∀ (rs : List Rec) (n : Nat) {S S' : St} {a : Act} {w : World} {Q : Exit → Act → World → Prop}, Runs E N ops (numbered rs n) S S' → Sim b N S a w → (∀ a' w', Sim b N S' a' w' → Q .normal a' w') → wpList P ops Q (rs.map (·.o)) a w
  | [], n, S, S', a, w, Q, h, hs, hQ => by
    cases h
    exact hQ _ _ hs
  | r :: rs, n, S, S', a, w, Q, h, hs, hQ => by
    cases h with
    | cons h1 h2 =>
      rw [List.map_cons]
      refine wpList_step fun K hK => ?_
      exact h1.runs hE hN hs fun a' w' hs' => hK _ _ (Runs.list hE hN rs (n + 1) h2 hs' hQ)

/-! ### in whatever order -/
theorem ahead_spec : ∀ (os : List Oper) (acc : List Nat), (∀ j, j < acc.length → (ahead os acc).getD j 0 = acc.getD j 0) ∧
    ∀ j o, os[j]? = some o → ∀ i, ((ahead os acc).getD (acc.length + j) 0).testBit i = true → ∃ e, e ∈ o.after.toList ∧ Region.binds .any e = true ∧ (e.on = i ∨ ((ahead os acc).getD e.on 0).testBit i = true)
  | [], acc => ⟨fun _ _ => rfl, fun j o h => by simp at h⟩
  | o :: os, acc => by
    obtain ⟨h1, h2⟩ := ahead_spec os (acc ++ [aheadOf acc o])
    have e : ahead (o :: os) acc = ahead os (acc ++ [aheadOf acc o]) := rfl
    have hpre : ∀ j, j < acc.length → (ahead os (acc ++ [aheadOf acc o])).getD j 0 = acc.getD j 0 := by
      intro j hj
      rw [h1 j (by simp; omega), List.getD_eq_getElem?_getD, List.getElem?_append_left hj, List.getD_eq_getElem?_getD]
    rw [e]
    refine ⟨hpre, fun j o' ho i hi => ?_⟩
    cases j with
    | zero =>
      simp only [List.getElem?_cons_zero, Option.some.injEq] at ho
      subst ho
      have hv : (ahead os (acc ++ [aheadOf acc o])).getD (acc.length + 0) 0 = aheadOf acc o := by
        rw [h1 _ (by simp), List.getD_eq_getElem?_getD]; simp
      rw [hv] at hi
      have key : ∀ (es : List Edge) (m : Nat), (es.foldl (fun m e => if Region.binds .any e then m ||| ((1 <<< e.on) ||| acc.getD e.on 0) else m) m).testBit i = true →
          m.testBit i = true ∨ ∃ e, e ∈ es ∧ Region.binds .any e = true ∧ (e.on = i ∨ (acc.getD e.on 0).testBit i = true) := by
        intro es
        induction es with
        | nil => intro m h; exact .inl h
        | cons e es ih =>
          intro m h
          rw [List.foldl_cons] at h
          rcases ih _ h with h | ⟨e', k1, k2, k3⟩
          · split at h
            · rename_i hb
              rw [Nat.testBit_or, Nat.testBit_or, Nat.one_shiftLeft, Nat.testBit_two_pow] at h
              simp only [Bool.or_eq_true, decide_eq_true_eq] at h
              rcases h with h | h | h
              · exact .inl h
              · exact .inr ⟨e, by simp, hb, .inl h⟩
              · exact .inr ⟨e, by simp, hb, .inr h⟩
            · exact .inl h
          · exact .inr ⟨e', by simp [k1], k2, k3⟩
      rcases key _ 0 hi with h | ⟨e', k1, k2, k3⟩
      · simp at h
      · refine ⟨e', k1, k2, k3.imp id fun h => ?_⟩
        by_cases he : e'.on < acc.length
        · rw [hpre _ he]; exact h
        · rw [List.getD_eq_getElem?_getD, List.getElem?_eq_none (by omega)] at h; simp at h
    | succ j =>
      have := h2 j o' (by simpa using ho) i (by rw [List.length_append, List.length_singleton]; rwa [show acc.length + 1 + j = acc.length + (j + 1) by omega])
      exact this
theorem backward_spec : ∀ (os : List Oper) (n : Nat), backward os n = true → ∀ j o, os[j]? = some o → ∀ e, e ∈ o.after.toList → Region.binds .any e = true → e.on < n + j
  | [], _, _, j, o, h => by simp at h
  | o :: os, n, hb, j, o', ho => by
    simp only [backward, Bool.and_eq_true, List.all_eq_true] at hb
    cases j with
    | zero =>
      simp only [List.getElem?_cons_zero, Option.some.injEq] at ho
      subst ho
      intro e he hbd
      have := hb.1 e he
      rw [hbd] at this
      simpa using this
    | succ j =>
      intro e he hbd
      have := backward_spec os (n + 1) hb.2 j o' (by simpa using ho) e he hbd
      omega

theorem pairs_mid {bs : List Nat} {q : Nat × Rec} {R2 : List (Nat × Rec)} : ∀ (R1 : List (Nat × Rec)), pairsOk ops bs (R1 ++ q :: R2) = true →
    pairsOk ops bs (R1 ++ R2) = true ∧ ∀ p, p ∈ R1 → (bs.getD q.1 0).testBit p.1 = true ∨ (slotApart ops p.2.o q.2.o = true ∧ p.2.apart q.2 = true)
  | [], h => by
    obtain ⟨i, q⟩ := q
    simp only [List.nil_append, pairsOk, Bool.and_eq_true] at h
    exact ⟨h.2, fun p hp => by cases hp⟩
  | (i, p) :: R1, h => by
    simp only [List.cons_append, pairsOk, Bool.and_eq_true, List.all_eq_true] at h
    obtain ⟨h1, h2⟩ := h
    obtain ⟨k1, k2⟩ := pairs_mid R1 h2
    refine ⟨?_, fun p' hp => ?_⟩
    · simp only [List.cons_append, pairsOk, Bool.and_eq_true, List.all_eq_true]
      refine ⟨fun x hx => h1 x ?_, k1⟩
      rcases List.mem_append.1 hx with hx | hx
      · exact List.mem_append.2 (.inl hx)
      · exact List.mem_append.2 (.inr (List.mem_cons_of_mem _ hx))
    · rcases List.mem_cons.1 hp with rfl | hp
      · have := h1 q (List.mem_append.2 (.inr (by simp)))
        simp only [Bool.or_eq_true, Bool.and_eq_true] at this
        exact this
      · exact k2 p' hp

/-- what is left of a region -/
structure Left (ops : Array Oper) (bs : List Nat) (R : List (Nat × Rec)) (listed : Array Bool) : Prop where
  size : listed.size = ops.size
  lt : ∀ p, p ∈ R → p.1 < ops.size
  not : ∀ i, i < ops.size → (listed[i]? = some false ↔ i ∈ R.map (·.1))
  op : ∀ p, p ∈ R → ops[p.1]? = some p.2.o
  asc : (R.map (·.1)).Pairwise (· < ·)
  closed : ∀ j, listed[j]? = some true → ∀ i, (bs.getD j 0).testBit i = true → listed[i]? = some true

theorem any_sound (hE : EnvOk P E) (hN : N < b.n1) (bs : List Nat) (hbs : ∀ (j : Nat) o, ops[j]? = some o → ∀ i, (bs.getD j 0).testBit i = true → ∃ e, e ∈ o.after.toList ∧ Region.binds .any e = true ∧ (e.on = i ∨ (bs.getD e.on 0).testBit i = true))
    (hbk : ∀ (j : Nat) o, ops[j]? = some o → ∀ e, e ∈ o.after.toList → Region.binds .any e = true → e.on < j) {Q : Exit → Act → World → Prop} {S' : St} (hQ : ∀ a' w', Sim b N S' a' w' → Q .normal a' w') :
    ∀ (fuel : Nat) (R : List (Nat × Rec)) (listed : Array Bool) (S : St) (a : Act) (w : World), R.length = fuel → Runs E N ops R S S' → pairsOk ops bs R = true → Left ops bs R listed → Sim b N S a w → wpAny P .any ops Q fuel listed a w
  | 0, R, listed, S, a, w, hl, hr, _, hL, hs => by
    obtain rfl : R = [] := List.eq_nil_of_length_eq_zero hl
    cases hr
    refine ⟨?_, hQ _ _ hs⟩
    unfold Region.ready
    rw [List.filter_eq_nil_iff]
    intro i hi
    have hi' : i < ops.size := by simpa using hi
    have h1 := hL.not i hi'
    have h2 : listed[i]? = some true := by
      have h3 : i < listed.size := by rw [hL.size]; exact hi'
      rw [Array.getElem?_eq_getElem h3] at h1 ⊢
      cases h4 : listed[i] with
      | true => rfl
      | false => rw [h4] at h1; simp at h1
    have h5 : listed.getD i true = true := by rw [Array.getD_eq_getD_getElem?, h2]; rfl
    rw [h5]; simp
  | fuel + 1, R, listed, S, a, w, hl, hr, hp, hL, hs => by
    refine ⟨fun hnil => ?_, fun i hi => ?_⟩
    · -- the first that is left is ready
      exfalso
      cases R with
      | nil => simp at hl
      | cons q R =>
        have hq := hL.op q (by simp)
        have hqlt := hL.lt q (by simp)
        have hin : q.1 ∈ Region.ready .any ops listed := by
          unfold Region.ready
          rw [List.mem_filter]
          refine ⟨by simpa using hqlt, ?_⟩
          have h1 := (hL.not q.1 hqlt).2 (by simp)
          rw [Array.getD_eq_getD_getElem?, h1, hq]
          simp only [Option.getD_some, Bool.not_false, Bool.true_and, Option.map_some]
          rw [Array.all_eq_true']
          intro e he
          cases hbd : Region.binds .any e with
          | false => rfl
          | true =>
            have hlt := hbk q.1 _ hq e (Array.mem_toList_iff.2 he) hbd
            have h3 : e.on < listed.size := by rw [hL.size]; omega
            have h2 := hL.not e.on (by omega)
            have h4 : e.on ∉ (q :: R).map (·.1) := by
              intro hm
              have := hL.asc
              rw [List.map_cons, List.pairwise_cons] at this
              rcases List.mem_cons.1 hm with hm | hm
              · have hm' : e.on = q.1 := hm
                omega
              · have h9 : q.1 < e.on := this.1 e.on hm
                omega
            rw [Array.getD_eq_getD_getElem?]
            rw [Array.getElem?_eq_getElem h3] at h2 ⊢
            cases h5 : listed[e.on] with
            | true => rfl
            | false => rw [h5] at h2; exact absurd (h2.1 rfl) h4
        rw [hnil] at hin
        cases hin
    · unfold Region.ready at hi
      rw [List.mem_filter] at hi
      obtain ⟨hi1, hi2⟩ := hi
      have hilt : i < ops.size := by simpa using hi1
      simp only [Bool.and_eq_true, Bool.not_eq_true'] at hi2
      obtain ⟨hn, hpre⟩ := hi2
      have hlt : i < listed.size := by rw [hL.size]; exact hilt
      have hif : listed[i]? = some false := by
        rw [Array.getD_eq_getD_getElem?, Array.getElem?_eq_getElem hlt] at hn
        rw [Array.getElem?_eq_getElem hlt]
        simp only [Option.getD_some] at hn
        rw [hn]
      obtain ⟨q, hq, hqi⟩ := List.mem_map.1 ((hL.not i hilt).1 hif)
      subst hqi
      have hop := hL.op q hq
      rw [hop] at hpre
      simp only [Option.map_some, Option.getD_some] at hpre
      have hpre' : ∀ e, e ∈ q.2.o.after.toList → Region.binds .any e = true → listed[e.on]? = some true := by
        intro e he hbd
        rw [Array.all_eq_true'] at hpre
        have := hpre e (Array.mem_toList_iff.1 he)
        rw [hbd] at this
        simp only [Bool.not_true, Bool.false_or] at this
        rw [Array.getD_eq_getD_getElem?] at this
        cases h : listed[e.on]? with
        | none => rw [h] at this; cases this
        | some x => rw [h] at this; simp only [Option.getD_some] at this; rw [this]
      have hall : ∀ j, (bs.getD q.1 0).testBit j = true → listed[j]? = some true := by
        intro j hj
        obtain ⟨e, k1, k2, k3⟩ := hbs q.1 _ hop j hj
        have := hpre' e k1 k2
        rcases k3 with k3 | k3
        · rw [← k3]; exact this
        · exact hL.closed e.on this j k3
      obtain ⟨R1, R2, rfl⟩ := List.append_of_mem hq
      obtain ⟨p1, p2⟩ := pairs_mid R1 hp
      have hfront := Runs.front R1 (fun p hp' => by
        rcases p2 p hp' with h | h
        · have h1 := hall p.1 h
          have h2 := (hL.not p.1 (hL.lt p (by simp [hp']))).2 (List.mem_map.2 ⟨p, by simp [hp'], rfl⟩)
          rw [h1] at h2; cases h2
        · exact h) hr
      obtain ⟨qi, r⟩ := q
      cases hfront with
      | cons s1 s2 =>
        unfold wpOp
        rw [hop]
        simp only
        have hrec : ∀ a' w', Sim b N (S.app r.o.dst r.out) a' w' → wpAny P .any ops Q fuel (listed.setIfInBounds qi true) a' w' := by
          intro a' w' hs'
          refine any_sound hE hN bs hbs hbk hQ fuel (R1 ++ R2) _ _ a' w' ?_ s2 p1 ?_ hs'
          · simp only [List.length_append, List.length_cons] at hl ⊢; omega
          · have hasc := hL.asc
            rw [List.map_append, List.map_cons, List.pairwise_append, List.pairwise_cons] at hasc
            obtain ⟨g1, ⟨g2, g3⟩, g4⟩ := hasc
            refine ⟨by simp [hL.size], fun p hp => ?_, fun i hi => ?_, fun p hp => ?_, ?_, ?_⟩
            · rcases List.mem_append.1 hp with h | h
              · exact hL.lt p (by simp [h])
              · exact hL.lt p (by simp [h])
            · by_cases hiq : i = qi
              · subst hiq
                rw [Array.getElem?_setIfInBounds_self_of_lt hlt]
                simp only [Option.some.injEq, Bool.true_eq_false, false_iff]
                rw [List.map_append]
                intro hm
                rcases List.mem_append.1 hm with hm | hm
                · have := g4 i hm i (by simp); omega
                · have := g2 i hm; omega
              · rw [Array.getElem?_setIfInBounds_ne (Ne.symm hiq), hL.not i hi]
                simp [hiq]
            · rcases List.mem_append.1 hp with h | h
              · exact hL.op p (by simp [h])
              · exact hL.op p (by simp [h])
            · rw [List.map_append, List.pairwise_append]
              exact ⟨g1, g3, fun x hx y hy => g4 x hx y (List.mem_cons_of_mem _ hy)⟩
            · intro j hj i hi
              have hsub : ∀ m : Nat, listed[m]? = some true → (listed.setIfInBounds qi true)[m]? = some true := by
                intro m hm
                by_cases hmq : m = qi
                · subst hmq; rw [Array.getElem?_setIfInBounds_self_of_lt hlt]
                · rw [Array.getElem?_setIfInBounds_ne (Ne.symm hmq)]; exact hm
              by_cases hjq : j = qi
              · subst hjq
                exact hsub i (hall i hi)
              · rw [Array.getElem?_setIfInBounds_ne (Ne.symm hjq)] at hj
                exact hsub i (hL.closed j hj i hi)
        have := s1.runs (Q := Q) hE hN hs hrec
        split
        · rename_i hw; rw [if_pos hw] at this; exact .inl this
        · rename_i hw; rw [if_neg hw] at this; exact this

/-- nothing that is looked at has turned -/
theorem Sim.drawn {S : St} {a : Act} {w : World} (h : Sim b N S a w) : Sim b N S a { w with drawn := w.drawn + 1 } := by
  obtain ⟨c, hi, hs⟩ := h
  have hst : Step w { w with drawn := w.drawn + 1 } (fun _ => False) := ⟨rfl, rfl, rfl, Nat.le_refl _, fun _ _ _ => rfl⟩
  obtain ⟨c', _, _, h3, h4, _⟩ := hi.many (S' := S) (w' := { w with drawn := w.drawn + 1 }) (fun _ => none) [] [] [] (fun k => by simp) rfl (fun k i _ => by rw [Leaf.kp_nil]) (fun k hk => by cases hk) (fun k n hk => by cases hk)
    (hst.mono fun _ h => h.elim) (fun k n hk => by cases hk) (fun k n hk => by cases hk) (fun k n k' n' _ hk => by cases hk) (fun _ _ _ k n hk => by cases hk) (fun _ _ _ _ _ k n hk => by cases hk)
  have hdid : Did b S c w ⟨.no, [], []⟩ undef { w with drawn := w.drawn + 1 } := ⟨c', h3, h4, trivial⟩
  exact hdid.sim hs none (fun k hk => by cases hk)

theorem numbered_map : ∀ (rs : List Rec) (n : Nat), (numbered rs n).map (·.1) = List.range' n rs.length
  | [], _ => rfl
  | r :: rs, n => by rw [numbered, List.map_cons, numbered_map rs (n + 1), List.length_cons, List.range'_succ]
theorem numbered_at : ∀ (rs : List Rec) (n : Nat) (p : Nat × Rec), p ∈ numbered rs n → n ≤ p.1 ∧ rs[p.1 - n]? = some p.2
  | [], _, p, h => by cases h
  | r :: rs, n, p, h => by
    rw [numbered] at h
    rcases List.mem_cons.1 h with rfl | h
    · simp
    · obtain ⟨h1, h2⟩ := numbered_at rs (n + 1) p h
      refine ⟨by omega, ?_⟩
      rw [show p.1 - n = (p.1 - (n + 1)) + 1 by omega, List.getElem?_cons_succ]; exact h2

/-- a region is sound -/
theorem region_ok (hE : EnvOk P E) (hN : N < b.n1) {id : Nat} {draw : Bool} {S S' : St} (h : (regionT E N ops draw S).run = some S') {a : Act} {w : World} (hs : Sim b N S a w) {Q : Exit → Act → World → Prop} (hQ : ∀ a' w', Sim b N S' a' w' → Q .normal a' w') :
    (Code.region id ops draw).wp P Q a w := by
  unfold regionT at h
  split at h
  · rename_i hd
    subst hd
    simp only [run_bind, Option.bind_eq_some_iff] at h
    obtain ⟨⟨S1, rs⟩, h1, h2⟩ := h
    split at h2
    · rename_i hc
      simp only [Tr.run, Option.some.injEq] at h2
      subst h2
      simp only [Bool.and_eq_true] at hc
      obtain ⟨hc1, hc2⟩ := hc
      obtain ⟨rs', k0, k1, k2⟩ := regR_runs ops.toList S S1 [] rs 0 h1
      simp only [List.reverse_nil, List.nil_append] at k0
      subst k0
      have hlen : rs.length = ops.size := by rw [← List.length_map (f := (·.o)), k1]; simp
      have hat : ∀ p, p ∈ numbered rs 0 → ops[p.1]? = some p.2.o := by
        intro p hp
        obtain ⟨_, h4⟩ := numbered_at rs 0 p hp
        rw [Nat.sub_zero] at h4
        have : (rs.map (·.o))[p.1]? = some p.2.o := by rw [List.getElem?_map, h4]; rfl
        rw [k1, Array.getElem?_toList] at this
        exact this
      refine wp_region_any hE.mix ?_
      refine any_sound hE hN (ahead ops.toList []) (fun j o ho i hi => ?_) (fun j o ho e he hb => ?_) hQ ops.size (numbered rs 0) _ S a _ ?_ k2 hc1 ?_ hs.drawn
      · have := (ahead_spec ops.toList []).2 j o (by rw [Array.getElem?_toList]; exact ho) i (by simpa using hi)
        exact this
      · have := backward_spec ops.toList 0 hc2 j o (by rw [Array.getElem?_toList]; exact ho) e he hb
        omega
      · rw [← List.length_map (f := (·.1)), numbered_map]; simp [hlen]
      · refine ⟨by simp, fun p hp => (Array.getElem?_eq_some_iff.1 (hat p hp)).1, fun i hi => ?_, hat, ?_, fun j hj i hi => ?_⟩
        · rw [numbered_map]
          simp only [List.mem_range'_1, Nat.zero_le, Nat.zero_add, true_and, hlen, hi, iff_true]
          rw [Array.getElem?_eq_getElem (by simpa using hi)]; simp
        · rw [numbered_map]; exact List.pairwise_lt_range'
        · have := (Array.getElem?_eq_some_iff.1 hj)
          obtain ⟨h5, h6⟩ := this
          simp at h6
    · simp [Tr.run] at h2
  · rename_i hd
    have hd' : draw = false := by simpa using hd
    subst hd'
    obtain ⟨rs, k1, k2⟩ := regT_runs ops.toList S S' 0 h
    refine wp_region_list ?_
    rw [← k1]
    exact Runs.list hE hN rs 0 k2 hs hQ
end

#print axioms region_ok
end Go.V
