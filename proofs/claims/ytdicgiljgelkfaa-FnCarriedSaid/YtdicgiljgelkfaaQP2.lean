import Derived.Test.YtdicgiljgelkfaaQP1
/-
  P16: gaps closed; the reference's 'l1Compose'; changes composed.
-/
set_option linter.unusedVariables false
set_option linter.unusedSimpArgs false
set_option maxRecDepth 100000
namespace Go.V.G
open Go.V

def stP (S : List Bool) (k : Nat) : List Prt := match S[k]? with
  | some true => [(1, 0, [])]
  | some false => [(0, 1, [])]
  | none => []
theorem closeP_step {S : List Bool} {P : List (List UInt8)} (h : P.length = S.length + 1) {k : Nat} (hk : k < P.length) : closeP (S.drop k) (P.drop k) = (0, 0, P[k]) :: (stP S k ++ closeP (S.drop (k + 1)) (P.drop (k + 1))) := by
  rw [List.drop_eq_getElem_cons hk]
  by_cases hs : k < S.length
  · rw [List.drop_eq_getElem_cons hs]
    simp only [closeP, stP, List.getElem?_eq_getElem hs]
    cases S[k] <;> rfl
  · rw [List.drop_eq_nil_of_le (show S.length ≤ k by omega), List.drop_eq_nil_of_le (show S.length ≤ k + 1 by omega), List.drop_eq_nil_of_le (show P.length ≤ k + 1 by omega)]
    simp [closeP, stP, List.getElem?_eq_none (show S.length ≤ k by omega)]
structure PR (S : List Bool) (P : List (List UInt8)) : Prop where
  x : P.length = S.length + 1
  n : S.length ≤ 1000
  p : ∀ q ∈ P, q.length ≤ 1000

theorem addp_zero (l : List Prt) : addp l (0, 0, []) = l := by simp [addp]
theorem i_parts_eq {S : List Bool} {P : List (List UInt8)} (h : PR S P) : Ok (i_told_parts S P) fun z => z = norm (closeP S P) ∧ Sm 4004004 z := by
  unfold i_told_parts
  refine Ok.bind (Q := fun z => z = norm (closeP S P) ∧ Sm 4004004 z) ?_ (fun z hz => Ok.mk hz)
  refine Ok.loop (fun y => y.1 = P ∧ y.2.1 = ((List.length P : Nat) : Int) ∧ y.2.2.2.1 = S ∧ ∃ k : Nat, y.2.2.1 = ((k : Nat) : Int) ∧ k ≤ P.length ∧ Sm (k * 4000) y.2.2.2.2.2 ∧ (closeP (S.drop k) (P.drop k)).foldl addp y.2.2.2.2.2 = norm (closeP S P)) (fun y => (((List.length P : Nat) : Int) - y.2.2.1).toNat)
    ⟨rfl, rfl, rfl, 0, rfl, Nat.zero_le _, Sm.nil _, rfl⟩ ?_
  rintro ⟨p1, n, k', s, p2, o⟩ ⟨e1, e2, e3, k, e4, hk, ho, hf⟩
  dsimp only at e1 e2 e3 e4 ho hf
  subst e1 e2 e3 e4
  obtain ⟨hx, hn, hp⟩ := h
  have z := one_I.2
  unfold i_told_parts_L1
  dsimp only
  refine Ok.ite (fun hc => ?_) fun hc => ?_
  · have hlt : k < p1.length := by simpa using hc
    have lp := hp _ (List.getElem_mem hlt)
    rw [closeP_step hx hlt, List.foldl_cons, List.foldl_append] at hf
    refine Ok.yes (by simp) (Ok.bind_eq (r := p1[k]) (by simp [List.getElem?_eq_getElem hlt]) ?_)
    refine Ok.bind (Q := fun v => v = (((k : Nat) : Int), p1, ((List.length p1 : Nat) : Int), ((k : Nat) : Int), s, p2, addp o (0, 0, p1[k]))) ?_ ?_
    · refine Ok.ite (fun hq => Ok.bind_eq (i_add_eq ho (by omega) 0 0 _ (by omega)) (Ok.mk rfl)) fun hq => Ok.mk ?_
      have : p1[k] = [] := by simpa using hq
      rw [this, addp_zero]
    rintro _ rfl
    dsimp only
    have so : Sm (k * 4000 + 1000) (addp o (0, 0, p1[k])) := addp_sm ho ⟨z, z⟩ (by omega) (by dsimp only; omega)
    refine Ok.bind (Q := fun v => v = (p1, ((List.length p1 : Nat) : Int), ((k : Nat) : Int), s, p2, (stP s k).foldl addp (addp o (0, 0, p1[k])))) ?_ ?_
    · refine Ok.ite (fun hq => Ok.mk ?_) fun hq => ?_
      · have : k = s.length := by
          have : ((k : Nat) : Int) = ((List.length s : Nat) : Int) := by simpa using hq
          omega
        simp [stP, this]
      · have hks : k < s.length := by
          have : ¬ ((k : Nat) : Int) = ((List.length s : Nat) : Int) := by simpa using hq
          omega
        refine Ok.yes (by simp) (Ok.bind_eq (r := s[k]) (by simp [List.getElem?_eq_getElem hks]) ?_)
        refine Ok.bind (Q := fun v => v = (p1, ((List.length p1 : Nat) : Int), ((k : Nat) : Int), s, p2, (stP s k).foldl addp (addp o (0, 0, p1[k])))) ?_ (fun v hv => Ok.mk hv)
        simp only [stP, List.getElem?_eq_getElem hks]
        cases s[k] with
        | true => exact Ok.yes rfl (Ok.bind_eq (i_add_eq so (by omega) 1 0 [] (by simp)) (Ok.mk rfl))
        | false => exact Ok.no (by simp) (Ok.bind_eq (i_add_eq so (by omega) 0 1 [] (by simp)) (Ok.mk rfl))
    rintro _ rfl
    dsimp only
    have so4 : Sm ((k + 1) * 4000) ((stP s k).foldl addp (addp o (0, 0, p1[k]))) := by
      unfold stP
      split
      · exact addp_sm (p := (1, 0, [])) (C := (k + 1) * 4000) so ⟨one_I.1, z⟩ (by omega) (by simp; omega)
      · exact addp_sm (p := (0, 1, [])) (C := (k + 1) * 4000) so ⟨z, one_I.1⟩ (by omega) (by simp; omega)
      · exact so.mono (by omega)
    exact Ok.mk ⟨⟨rfl, rfl, rfl, k + 1, idx_succ (n := p1.length) (by omega) hlt, by omega, so4, hf⟩, by rw [idx_succ (n := p1.length) (by omega) hlt]; dsimp only; omega⟩
  · have : k = p1.length := by
      have : ¬ ((k : Int) < ((List.length p1 : Nat) : Int)) := by simpa using hc
      omega
    subst this
    refine Ok.mk ⟨?_, ho.mono (by omega)⟩
    rw [← hf, List.drop_length, List.drop_eq_nil_of_le (show s.length ≤ p1.length by omega)]; rfl
theorem s_close_eq {S : List Bool} {P : List (List UInt8)} (h : PR S P) : Ok (s_l1Close S P) fun z => z = norm (closeP S P) ∧ Sm 4004004 z := by
  unfold s_l1Close
  refine Ok.bind (Q := fun z => z = norm (closeP S P) ∧ Sm 4004004 z) ?_ (fun z hz => Ok.mk hz)
  refine Ok.loop (fun y => y.2.1 = P ∧ y.2.2.1 = ((List.length P : Nat) : Int) ∧ y.2.2.2.2.1 = S ∧ ∃ k : Nat, y.2.2.2.1 = ((k : Nat) : Int) ∧ k ≤ P.length ∧ Sm (k * 4000) y.1 ∧ (closeP (S.drop k) (P.drop k)).foldl addp y.1 = norm (closeP S P)) (fun y => (((List.length P : Nat) : Int) - y.2.2.2.1).toNat)
    ⟨rfl, rfl, rfl, 0, rfl, Nat.zero_le _, Sm.nil _, rfl⟩ ?_
  rintro ⟨o, p1, n, k', s, p2⟩ ⟨e1, e2, e3, k, e4, hk, ho, hf⟩
  dsimp only at e1 e2 e3 e4 ho hf
  subst e1 e2 e3 e4
  obtain ⟨hx, hn, hp⟩ := h
  have z := one_I.2
  unfold s_l1Close_L1
  dsimp only
  refine Ok.ite (fun hc => ?_) fun hc => ?_
  · have hlt : k < p1.length := by simpa using hc
    have lp := hp _ (List.getElem_mem hlt)
    rw [closeP_step hx hlt, List.foldl_cons, List.foldl_append] at hf
    have so : Sm (k * 4000 + 1000) (addp o (0, 0, p1[k])) := addp_sm ho ⟨z, z⟩ (by omega) (by dsimp only; omega)
    refine Ok.yes (by simp) (Ok.bind_eq (r := p1[k]) (by simp [List.getElem?_eq_getElem hlt]) (Ok.bind_eq (s_l1Add_eq ho (by omega) 0 0 _ (by omega)) ?_))
    refine Ok.bind (Q := fun v => v = ((stP s k).foldl addp (addp o (0, 0, p1[k])), p1, ((List.length p1 : Nat) : Int), ((k : Nat) : Int), s, p2)) ?_ ?_
    · refine Ok.ite (fun hq => ?_) fun hq => Ok.mk ?_
      · have hks : k < s.length := by
          have : ((k : Nat) : Int) < ((List.length s : Nat) : Int) := by simpa using hq
          omega
        refine Ok.yes (by simp) (Ok.bind_eq (r := s[k]) (by simp [List.getElem?_eq_getElem hks]) ?_)
        refine Ok.bind (Q := fun v => v = ((stP s k).foldl addp (addp o (0, 0, p1[k])), p1, ((List.length p1 : Nat) : Int), ((k : Nat) : Int), s, p2)) ?_ (fun v hv => Ok.mk hv)
        simp only [stP, List.getElem?_eq_getElem hks]
        cases s[k] with
        | true => exact Ok.yes rfl (Ok.bind_eq (s_l1Add_eq so (by omega) 1 0 [] (by simp)) (Ok.mk rfl))
        | false => exact Ok.no (by simp) (Ok.bind_eq (s_l1Add_eq so (by omega) 0 1 [] (by simp)) (Ok.mk rfl))
      · have : s.length ≤ k := by
          have : ¬ ((k : Nat) : Int) < ((List.length s : Nat) : Int) := by simpa using hq
          omega
        simp [stP, List.getElem?_eq_none this]
    rintro _ rfl
    dsimp only
    have so4 : Sm ((k + 1) * 4000) ((stP s k).foldl addp (addp o (0, 0, p1[k]))) := by
      unfold stP
      split
      · exact addp_sm (p := (1, 0, [])) (C := (k + 1) * 4000) so ⟨one_I.1, z⟩ (by omega) (by simp; omega)
      · exact addp_sm (p := (0, 1, [])) (C := (k + 1) * 4000) so ⟨z, one_I.1⟩ (by omega) (by simp; omega)
      · exact so.mono (by omega)
    exact Ok.mk ⟨⟨rfl, rfl, rfl, k + 1, idx_succ (n := p1.length) (by omega) hlt, by omega, so4, hf⟩, by rw [idx_succ (n := p1.length) (by omega) hlt]; dsimp only; omega⟩
  · have : k = p1.length := by
      have : ¬ ((k : Int) < ((List.length p1 : Nat) : Int)) := by simpa using hc
      omega
    subst this
    refine Ok.mk ⟨?_, ho.mono (by omega)⟩
    rw [← hf, List.drop_length, List.drop_eq_nil_of_le (show s.length ≤ p1.length by omega)]; rfl

/-! ### the reference's 'l1Compose' -/
section
variable {Sb : List Bool} {Pb : List (List UInt8)} {Sc : List Bool} {Pc : List (List UInt8)} (h : CR Sb Pb Sc Pc)
include h
theorem s_compose_inner {t g : Nat} {n g2 : Int} {s text : List UInt8} {oS : List Bool} {oP : List (List UInt8)} (hs : t + s.length ≤ Sc.length) (ht : text.length ≤ 1000) (hg : oP[g]? = some text) :
    loopG s_l1Compose_L1 (((t : Nat) : Int), ((g : Nat) : Int), s, 0, Pb, n, g2, Sb, Sc, Pc, oS, oP) =
      some (((t + s.length : Nat) : Int), ((g : Nat) : Int), Pb, n, g2, Sb, Sc, Pc, oS, oP.set g (text ++ inn (Sc.drop t) (Pc.drop t) s)) := by
  obtain ⟨hx, hy, hr, hn, hm, hpy⟩ := h
  have hgl : g < oP.length := (List.getElem?_eq_some_iff.1 hg).1
  have h0 : oP.set g text = oP := by
    have := (List.getElem?_eq_some_iff.1 hg).2
    rw [← this]; exact List.set_getElem_self hgl
  have := loop_run s_l1Compose_L1 (fun i => (((t + i : Nat) : Int), ((g : Nat) : Int), s, ((i : Nat) : Int), Pb, n, g2, Sb, Sc, Pc, oS, oP.set g (text ++ inn (Sc.drop t) (Pc.drop t) (s.take i)))) s.length
    (((t + s.length : Nat) : Int), ((g : Nat) : Int), Pb, n, g2, Sb, Sc, Pc, oS, oP.set g (text ++ inn (Sc.drop t) (Pc.drop t) s)) (by
      intro i hi
      have hti : t + i < Sc.length := by omega
      have htp : t + i + 1 < Pc.length := by omega
      have hl : (s.take i).length = i := by rw [List.length_take]; omega
      have sn := inn_snoc (s.take i) (Sc.drop t) (Pc.drop t) s[i] (by rw [hl, List.length_drop]; omega) (by rw [List.length_drop, List.length_drop]; omega)
      rw [← List.take_succ_eq_append_getElem hi] at sn
      simp only [hl, List.getElem_drop] at sn
      have il := inn_len (Sc.drop t) (Pc.drop t) (s.take i)
      have tl : tot (Pc.drop t).tail ≤ tot Pc := by rw [List.tail_drop]; exact tot_drop _ _
      have pq : (Pc[t + i + 1]).length ≤ tot Pc := tot_mem (List.getElem_mem htp)
      have e1 : IntKind.wrap .i64 (((i : Nat) : Int) + 1) = ((i + 1 : Nat) : Int) := idx_succ (n := s.length) (by omega) hi
      have e2 : IntKind.wrap .i64 (((t + i : Nat) : Int) + 1) = ((t + i + 1 : Nat) : Int) := idx_succ (n := Sc.length) (by omega) hti
      have g0 : (0 : Int) ≤ ((t + i : Nat) : Int) := by omega
      have g1 : ((t + i : Nat) : Int) < ((List.length Sc : Nat) : Int) := by omega
      have g2' : (0 : Int) ≤ ((i : Nat) : Int) := by omega
      have g3 : ((i : Nat) : Int) ≤ ((i + 1 : Nat) : Int) := by omega
      have g4 : ((i + 1 : Nat) : Int) ≤ ((List.length s : Nat) : Int) := by omega
      have g5 : ((i : Nat) : Int) < ((List.length s : Nat) : Int) := by omega
      have g6 : ((t + i + 1 : Nat) : Int) < ((List.length Pc : Nat) : Int) := by omega
      have g7 : (0 : Int) ≤ ((t + i + 1 : Nat) : Int) := by omega
      have g8 : (0 : Int) ≤ ((g : Nat) : Int) := by omega
      have cut : (s.drop i).take (i + 1 - i) = [s[i]] := by rw [show i + 1 - i = 1 by omega, List.drop_eq_getElem_cons hi]; rfl
      have b1 : List.length (text ++ inn (Sc.drop t) (Pc.drop t) (s.take i)) + List.length [s[i]] ≤ 9223372036854775807 := by rw [List.length_append]; simp only [List.length_singleton]; omega
      have b2 : ∀ z : List UInt8, z.length ≤ 1 → List.length (text ++ inn (Sc.drop t) (Pc.drop t) (s.take i) ++ z) + List.length (Pc[t + i + 1]) ≤ 9223372036854775807 := fun z hz => by rw [List.length_append, List.length_append]; omega
      have gl : ∀ z, ((g : Nat) : Int) < ((List.length (oP.set g z) : Nat) : Int) := fun z => by rw [List.length_set]; omega
      have gs : ∀ z, (oP.set g z)[g]? = some z := fun z => List.getElem?_set_self hgl
      unfold s_l1Compose_L1
      simp only [g0, g1, g2', g3, g4, g5, g8, gl, gs, e1, e2, decide_true, if_true, Int.toNat_natCast, Nat.zero_add, List.getElem?_eq_getElem hti, Option.bind_some, Int.le_refl, cut, b1, List.set_set]
      cases hb : Sc[t + i] with
      | true =>
        rw [hb, if_pos rfl] at sn
        have b3 := b2 [s[i]] (by simp)
        simp only [if_true, Option.bind_some, e1, e2, g6, g7, g8, gl, gs, decide_true, Int.toNat_natCast, List.getElem?_eq_getElem htp, b3, List.set_set]
        simp only [sn, List.append_assoc, Nat.add_assoc]
      | false =>
        rw [hb, if_neg (by simp)] at sn
        have b3 := b2 [] (by simp)
        rw [List.append_nil] at b3
        simp only [Bool.false_eq_true, if_false, Option.bind_some, e1, e2, g6, g7, g8, gl, gs, decide_true, if_true, Int.toNat_natCast, List.getElem?_eq_getElem htp, b3, List.set_set]
        simp only [sn, List.append_assoc, Nat.add_assoc, List.nil_append]) (by
      simp only [List.take_length]
      simp [s_l1Compose_L1])
  simpa [inn_nil, h0] using this

theorem s_compose_loop (be : List UInt8) (hbe : be.length ≤ 1000) : loopG s_l1Compose_L2 (0, Pb, ((List.length Pb : Nat) : Int), 0, Sb, Sc, Pc, [], be :: List.replicate (Pb.length - 1) []) = some (cmpG be Sb Pb Sc Pc) := by
  refine Ok.eq (Ok.loop (fun y => y.2.1 = Pb ∧ y.2.2.1 = ((List.length Pb : Nat) : Int) ∧ y.2.2.2.2.1 = Sb ∧ y.2.2.2.2.2.1 = Sc ∧ y.2.2.2.2.2.2.1 = Pc ∧ ∃ (t g : Nat) (be2 : List UInt8) (done : List (List UInt8)), y.1 = ((t : Nat) : Int) ∧ y.2.2.2.1 = ((g : Nat) : Int) ∧ g < Pb.length ∧
      be2.length ≤ 1000 ∧ t + rem (Sb.drop g) (Pb.drop g) = Sc.length ∧ y.2.2.2.2.2.2.2.1.length = g ∧ done.length = g ∧ y.2.2.2.2.2.2.2.2 = done ++ be2 :: List.replicate (Pb.length - 1 - g) [] ∧
      (y.2.2.2.2.2.2.2.1 ++ (cmpG be2 (Sb.drop g) (Pb.drop g) (Sc.drop t) (Pc.drop t)).1, done ++ (cmpG be2 (Sb.drop g) (Pb.drop g) (Sc.drop t) (Pc.drop t)).2) = cmpG be Sb Pb Sc Pc) (fun y => (((List.length Pb : Nat) : Int) - y.2.2.2.1).toNat)
    ⟨rfl, rfl, rfl, rfl, rfl, 0, 0, be, [], rfl, rfl, by rw [h.x]; omega, hbe, by have := h.r; simpa using this, rfl, rfl, by simp, by simp⟩ ?_)
  rintro ⟨t', pb, n, g', sb, sc, pc, oS, oP⟩ ⟨e1, e2, e3, e4, e5, t, g, be', done, e6, e7, hg, hbe', hrem, hoS, hdone, hoP, hf⟩
  dsimp only at e1 e2 e3 e4 e5 e6 e7 hbe' hoS hoP hf
  subst e1 e2 e3 e4 e5 e6 e7 hoP
  have hCR := h
  obtain ⟨hx, hy, hr, hn, hm, hpy⟩ := h
  obtain ⟨c1, c2, c3⟩ := cmpG_at hCR hg be' hrem
  unfold s_l1Compose_L2
  dsimp only
  refine Ok.yes (by simpa using hg) ?_
  have r1 : ∀ z : Bool, roomFor (List.length oS + List.length [z]) 1 = true := fun z => room1 (by omega) (by omega)
  have hat : (done ++ be' :: List.replicate (pb.length - 1 - g) ([] : List UInt8))[g]? = some be' := by rw [List.getElem?_append_right (by omega), hdone, Nat.sub_self]; rfl
  have hin := s_compose_inner hCR (g := g) (n := ((List.length pb : Nat) : Int)) (g2 := ((g : Nat) : Int)) (oS := oS) c1 hbe' hat
  have hset : (done ++ be' :: List.replicate (pb.length - 1 - g) ([] : List UInt8)).set g (be' ++ inn (sc.drop t) (pc.drop t) pb[g]) = done ++ (be' ++ inn (sc.drop t) (pc.drop t) pb[g]) :: List.replicate (pb.length - 1 - g) [] := by
    rw [List.set_append_right _ _ (by omega), hdone, Nat.sub_self]; rfl
  rw [hset] at hin
  refine Ok.bind (Q := fun v => match v with
      | .inl y => ∃ t2 be2 oS2 done2, y = (((t2 : Nat) : Int), pb, ((List.length pb : Nat) : Int), ((g : Nat) : Int), sb, sc, pc, oS2, done2 ++ be2 :: List.replicate (pb.length - 1 - (g + 1)) []) ∧ g + 1 < pb.length ∧ List.length be2 ≤ 1000 ∧ t2 + rem (sb.drop (g + 1)) (pb.drop (g + 1)) = sc.length ∧ List.length oS2 = g + 1 ∧ List.length done2 = g + 1 ∧
          (oS2 ++ (cmpG be2 (sb.drop (g + 1)) (pb.drop (g + 1)) (sc.drop t2) (pc.drop t2)).1, done2 ++ (cmpG be2 (sb.drop (g + 1)) (pb.drop (g + 1)) (sc.drop t2) (pc.drop t2)).2) = cmpG be sb pb sc pc
      | .inr z => z = cmpG be sb pb sc pc) ?_ ?_
  · refine Ok.yes (decide_eq_true (by omega)) (Ok.yes (by simpa using hg) (Ok.bind_eq (r := pb[g]) (by simp [List.getElem?_eq_getElem hg]) (Ok.bind_eq hin ?_)))
    dsimp only
    refine Ok.ite (fun hq => ?_) fun hq => ?_
    · have he : g = sb.length := by
        have : ((g : Nat) : Int) = ((List.length sb : Nat) : Int) := by simpa using hq
        omega
      rw [c2 he] at hf
      refine Ok.mk ?_
      rw [← hf, List.append_nil, show pb.length - 1 - g = 0 by omega]; rfl
    · have hks : g < sb.length := by
        have : ¬ ((g : Nat) : Int) = ((List.length sb : Nat) : Int) := by simpa using hq
        omega
      have rep : List.replicate (pb.length - 1 - g) ([] : List UInt8) = [] :: List.replicate (pb.length - 1 - (g + 1)) [] := by rw [show pb.length - 1 - g = (pb.length - 1 - (g + 1)) + 1 by omega, List.replicate_succ]
      refine Ok.yes (decide_eq_true (by omega)) (Ok.yes (by simpa using hks) (Ok.bind_eq (r := sb[g]) (by simp [List.getElem?_eq_getElem hks]) ?_))
      cases hb : sb[g] with
      | false =>
        obtain ⟨k1, k2⟩ := (c3 hks).1 hb
        rw [k2] at hf
        refine Ok.yes (by simp) (Ok.yes (r1 _) (Ok.mk ⟨t + pb[g].length, [], oS ++ [false], done ++ [be' ++ inn (sc.drop t) (pc.drop t) pb[g]], ?_, by omega, by simp, k1, by simp [hoS], by simp [hdone], ?_⟩))
        · rw [rep]; simp
        · rw [← hf]; simp
      | true =>
        obtain ⟨k1, k2, k3, k4⟩ := (c3 hks).2 hb
        rw [k4] at hf
        have e9 : IntKind.wrap .i64 (((t + pb[g].length : Nat) : Int) + 1) = ((t + pb[g].length + 1 : Nat) : Int) := idx_succ (n := sc.length) (by omega) k2
        have e10 : IntKind.wrap .i64 (((g : Nat) : Int) + 1) = ((g + 1 : Nat) : Int) := idx_succ (n := pb.length) (by omega) hg
        have hq2 : (pc[t + pb[g].length + 1]).length ≤ tot pc := tot_mem (List.getElem_mem k3)
        have hlen : (done ++ (be' ++ inn (sc.drop t) (pc.drop t) pb[g]) :: List.replicate (pb.length - 1 - g) ([] : List UInt8)).length = pb.length := by simp; omega
        have hget : (done ++ (be' ++ inn (sc.drop t) (pc.drop t) pb[g]) :: List.replicate (pb.length - 1 - g) ([] : List UInt8))[0 + Int.toNat ((g + 1 : Nat) : Int)]? = some [] := by
          rw [rep, Int.toNat_natCast, Nat.zero_add, List.getElem?_append_right (by omega), hdone, show g + 1 - g = 1 by omega]; rfl
        have hset2 : (done ++ (be' ++ inn (sc.drop t) (pc.drop t) pb[g]) :: List.replicate (pb.length - 1 - g) ([] : List UInt8)).set (0 + Int.toNat ((g + 1 : Nat) : Int)) pc[t + pb[g].length + 1] = (done ++ [be' ++ inn (sc.drop t) (pc.drop t) pb[g]]) ++ pc[t + pb[g].length + 1] :: List.replicate (pb.length - 1 - (g + 1)) [] := by
          rw [rep, Int.toNat_natCast, Nat.zero_add, List.set_append_right _ _ (by omega), hdone, show g + 1 - g = 1 by omega]; simp
        rw [e9, e10]
        refine Ok.no (by simp) (Ok.yes (decide_eq_true (by omega)) (Ok.yes (decide_eq_true (by omega)) (Ok.bind_eq (r := sc[t + pb[g].length]) (by rw [Nat.zero_add, Int.toNat_natCast]; exact List.getElem?_eq_getElem k2) (Ok.yes (r1 _)
          (Ok.yes (decide_eq_true (by omega)) (Ok.yes (decide_eq_true (by omega)) (Ok.bind_eq (r := pc[t + pb[g].length + 1]) (by rw [Nat.zero_add, Int.toNat_natCast]; exact List.getElem?_eq_getElem k3)
            (Ok.yes (decide_eq_true (by omega)) (Ok.yes (decide_eq_true (by rw [hlen]; omega)) (Ok.bind_eq hget (Ok.bind_eq hget (Ok.mk ⟨t + pb[g].length + 1, pc[t + pb[g].length + 1], oS ++ [sc[t + pb[g].length]], done ++ [be' ++ inn (sc.drop t) (pc.drop t) pb[g]], ?_, by omega, by omega, k1, by simp [hoS], by simp [hdone], ?_⟩))))))))))))
        · rw [hset2]
        · rw [← hf]; simp
  rintro (y | z) hv
  · obtain ⟨t2, be2, oS2, done2, rfl, k1, k2, k3, k4, k5, k6⟩ := hv
    dsimp only
    have e9 : IntKind.wrap .i64 (((g : Nat) : Int) + 1) = ((g + 1 : Nat) : Int) := idx_succ (n := pb.length) (by omega) hg
    rw [e9]
    exact Ok.mk ⟨⟨rfl, rfl, rfl, rfl, rfl, t2, g + 1, be2, done2, rfl, rfl, k1, k2, k3, k4, k5, rfl, k6⟩, by dsimp only; omega⟩
  · exact Ok.mk hv
end
end Go.V.G

/-
  P17: changes composed and inverted: what the functions return; the laws byte by byte.
-/
set_option linter.unusedVariables false
set_option linter.unusedSimpArgs false
set_option maxRecDepth 100000
namespace Go.V.G
open Go.V

/-! ### byte by byte -/
theorem comp_len : ∀ (x y : List Atom), nT x = nS y → nS (comp x y) = nS x ∧ nT (comp x y) = nT y := by
  intro x y
  induction x, y using comp.induct with
  | case1 x b y ih => intro h; rw [comp]; have := ih h; simp only [nS, nT]; omega
  | case2 x ih => intro h; rw [comp]; have := ih h; simp only [nS, nT] at this ⊢; omega
  | case3 x y ih => intro h; rw [comp]; have := ih h; simp only [nS, nT] at this ⊢; omega
  | case4 x y ih => intro h; rw [comp]; have := ih h; simp only [nS, nT] at this ⊢; omega
  | case5 b x y ih => intro h; rw [comp]; have := ih (by simpa [nS, nT] using h); simp only [nS, nT]; omega
  | case6 b x y ih => intro h; rw [comp]; have := ih (by simpa [nS, nT] using h); simp only [nS, nT]; omega
  | case7 x y ih => intro h; rw [comp]; have := ih (by simpa [nS, nT] using h); simp only [nS, nT]; omega
  | case8 x y ih => intro h; rw [comp]; have := ih (by simpa [nS, nT] using h); simp only [nS, nT]; omega
  | case9 x y h1 h2 h3 h4 h5 h6 h7 h8 =>
    intro g
    match x, y with
    | x, .ins b :: y => exact absurd rfl (h1 b y)
    | .drop :: x, [] => exact absurd rfl (h2 x rfl)
    | .drop :: x, .keep :: y => exact absurd rfl (h3 x y rfl)
    | .drop :: x, .drop :: y => exact absurd rfl (h4 x y rfl)
    | .ins b :: x, .keep :: y => exact absurd rfl (h5 b x y rfl)
    | .ins b :: x, .drop :: y => exact absurd rfl (h6 b x y rfl)
    | .keep :: x, .keep :: y => exact absurd rfl (h7 x y rfl)
    | .keep :: x, .drop :: y => exact absurd rfl (h8 x y rfl)
    | [], [] => simp [comp, nS, nT]
    | .ins b :: x, [] => simp [nS, nT] at g
    | .keep :: x, [] => simp [nS, nT] at g
    | [], .keep :: y => simp [nS, nT] at g
    | [], .drop :: y => simp [nS, nT] at g
theorem ap_comp : ∀ (x y : List Atom) (t : List UInt8), nT x = nS y → nS x = t.length → ap (comp x y) t = ap y (ap x t) := by
  intro x y
  induction x, y using comp.induct with
  | case1 x b y ih => intro t h g; rw [comp]; simp only [ap]; rw [ih t h g]
  | case2 x ih =>
    intro t h g; rw [comp]
    cases t with
    | nil => simp [nS] at g
    | cons c t => simp only [ap]; exact ih t h (by simpa [nS] using g)
  | case3 x y ih =>
    intro t h g; rw [comp]
    cases t with
    | nil => simp [nS] at g
    | cons c t => simp only [ap]; exact ih t h (by simpa [nS] using g)
  | case4 x y ih =>
    intro t h g; rw [comp]
    cases t with
    | nil => simp [nS] at g
    | cons c t => simp only [ap]; exact ih t h (by simpa [nS] using g)
  | case5 b x y ih => intro t h g; rw [comp]; simp only [ap]; rw [ih t (by simpa [nS, nT] using h) g]
  | case6 b x y ih => intro t h g; rw [comp]; simp only [ap]; exact ih t (by simpa [nS, nT] using h) g
  | case7 x y ih =>
    intro t h g; rw [comp]
    cases t with
    | nil => simp [nS] at g
    | cons c t => simp only [ap]; rw [ih t (by simpa [nS, nT] using h) (by simpa [nS] using g)]
  | case8 x y ih =>
    intro t h g; rw [comp]
    cases t with
    | nil => simp [nS] at g
    | cons c t => simp only [ap]; exact ih t (by simpa [nS, nT] using h) (by simpa [nS] using g)
  | case9 x y h1 h2 h3 h4 h5 h6 h7 h8 =>
    intro t g gt
    match x, y with
    | x, .ins b :: y => exact absurd rfl (h1 b y)
    | .drop :: x, [] => exact absurd rfl (h2 x rfl)
    | .drop :: x, .keep :: y => exact absurd rfl (h3 x y rfl)
    | .drop :: x, .drop :: y => exact absurd rfl (h4 x y rfl)
    | .ins b :: x, .keep :: y => exact absurd rfl (h5 b x y rfl)
    | .ins b :: x, .drop :: y => exact absurd rfl (h6 b x y rfl)
    | .keep :: x, .keep :: y => exact absurd rfl (h7 x y rfl)
    | .keep :: x, .drop :: y => exact absurd rfl (h8 x y rfl)
    | [], [] => cases t <;> simp [comp, ap]
    | .ins b :: x, [] => simp [nS, nT] at g
    | .keep :: x, [] => simp [nS, nT] at g
    | [], .keep :: y => simp [nS, nT] at g
    | [], .drop :: y => simp [nS, nT] at g
/-- carried over two that go one behind the other -/
theorem carry_comp : ∀ (b c : List Atom) (a : List Atom), nT b = nS c → nS a = nS b → carryF (carryF a b) c = carryF a (comp b c) := by
  intro b c
  induction b, c using comp.induct with
  | case1 b d c ih => intro a h g; rw [comp, carryF, carryF, ih a h g]
  | case2 b ih =>
    intro a h g
    rw [comp]
    induction a with
    | nil => simp [nS] at g
    | cons u a iha =>
      cases u with
      | ins d => rw [carryF, carryF, carryF, iha (by simpa [nS] using g)]
      | keep => rw [carryF, carryF]; exact ih a h (by simpa [nS] using g)
      | drop => rw [carryF, carryF]; exact ih a h (by simpa [nS] using g)
  | case3 b c ih =>
    intro a h g
    rw [comp]
    induction a with
    | nil => simp [nS] at g
    | cons u a iha =>
      cases u with
      | ins d => rw [carryF, carryF, carryF, iha (by simpa [nS] using g)]
      | keep => rw [carryF, carryF]; exact ih a h (by simpa [nS] using g)
      | drop => rw [carryF, carryF]; exact ih a h (by simpa [nS] using g)
  | case4 b c ih =>
    intro a h g
    rw [comp]
    induction a with
    | nil => simp [nS] at g
    | cons u a iha =>
      cases u with
      | ins d => rw [carryF, carryF, carryF, iha (by simpa [nS] using g)]
      | keep => rw [carryF, carryF]; exact ih a h (by simpa [nS] using g)
      | drop => rw [carryF, carryF]; exact ih a h (by simpa [nS] using g)
  | case5 d b c ih => intro a h g; rw [comp, carryF, carryF, carryF, ih a (by simpa [nS, nT] using h) g]
  | case6 d b c ih => intro a h g; rw [comp, carryF, carryF]; exact ih a (by simpa [nS, nT] using h) g
  | case7 b c ih =>
    intro a h g
    rw [comp]
    induction a with
    | nil => simp [nS] at g
    | cons u a iha =>
      cases u with
      | ins d => rw [carryF, carryF, carryF, iha (by simpa [nS] using g)]
      | keep => rw [carryF, carryF, carryF, ih a (by simpa [nS, nT] using h) (by simpa [nS] using g)]
      | drop => rw [carryF, carryF, carryF, ih a (by simpa [nS, nT] using h) (by simpa [nS] using g)]
  | case8 b c ih =>
    intro a h g
    rw [comp]
    induction a with
    | nil => simp [nS] at g
    | cons u a iha =>
      cases u with
      | ins d => rw [carryF, carryF, carryF, iha (by simpa [nS] using g)]
      | keep => rw [carryF, carryF, carryF]; exact ih a (by simpa [nS, nT] using h) (by simpa [nS] using g)
      | drop => rw [carryF, carryF, carryF]; exact ih a (by simpa [nS, nT] using h) (by simpa [nS] using g)
  | case9 b c h1 h2 h3 h4 h5 h6 h7 h8 =>
    intro a g gt
    match b, c with
    | b, .ins d :: c => exact absurd rfl (h1 d c)
    | .drop :: b, [] => exact absurd rfl (h2 b rfl)
    | .drop :: b, .keep :: c => exact absurd rfl (h3 b c rfl)
    | .drop :: b, .drop :: c => exact absurd rfl (h4 b c rfl)
    | .ins d :: b, .keep :: c => exact absurd rfl (h5 d b c rfl)
    | .ins d :: b, .drop :: c => exact absurd rfl (h6 d b c rfl)
    | .keep :: b, .keep :: c => exact absurd rfl (h7 b c rfl)
    | .keep :: b, .drop :: c => exact absurd rfl (h8 b c rfl)
    | [], [] =>
      have : comp [] [] = [] := by simp [comp]
      rw [this]
      clear gt
      have key : ∀ a : List Atom, carryF (carryF a []) [] = carryF a [] := by
        intro a
        induction a with
        | nil => simp [carryF]
        | cons u a ih =>
          cases u with
          | ins d => rw [carryF, carryF, ih]
          | keep => simp [carryF]
          | drop => simp [carryF]
      exact key a
    | .ins d :: b, [] => simp [nS, nT] at g
    | .keep :: b, [] => simp [nS, nT] at g
    | [], .keep :: c => simp [nS, nT] at g
    | [], .drop :: c => simp [nS, nT] at g
/-- composed three in a row -/
theorem comp_assoc : ∀ (b c : List Atom) (a : List Atom), nT b = nS c → nT a = nS b → comp (comp a b) c = comp a (comp b c) := by
  intro b c
  induction b, c using comp.induct with
  | case1 b d c ih => intro a h g; rw [comp, comp, comp, ih a h g]
  | case2 b ih =>
    intro a h g
    rw [comp.eq_2 b]
    induction a with
    | nil => simp [nS, nT] at g
    | cons u a iha =>
      cases u with
      | ins d => rw [comp, comp]; exact ih a h (by simpa [nS, nT] using g)
      | keep => rw [comp, comp, comp, ih a h (by simpa [nS, nT] using g)]
      | drop => rw [comp, comp, comp, iha (by simpa [nS, nT] using g)]
  | case3 b c ih =>
    intro a h g
    rw [comp.eq_3 b c]
    induction a with
    | nil => simp [nS, nT] at g
    | cons u a iha =>
      cases u with
      | ins d => rw [comp, comp]; exact ih a h (by simpa [nS, nT] using g)
      | keep => rw [comp, comp, comp, ih a h (by simpa [nS, nT] using g)]
      | drop => rw [comp, comp, comp, iha (by simpa [nS, nT] using g)]
  | case4 b c ih =>
    intro a h g
    rw [comp.eq_4 b c]
    induction a with
    | nil => simp [nS, nT] at g
    | cons u a iha =>
      cases u with
      | ins d => rw [comp, comp]; exact ih a h (by simpa [nS, nT] using g)
      | keep => rw [comp, comp, comp, ih a h (by simpa [nS, nT] using g)]
      | drop => rw [comp, comp, comp, iha (by simpa [nS, nT] using g)]
  | case5 d b c ih => intro a h g; rw [comp.eq_5 d b c, comp, comp, comp, ih a (by simpa [nS, nT] using h) g]
  | case6 d b c ih => intro a h g; rw [comp.eq_6 d b c, comp, comp]; exact ih a (by simpa [nS, nT] using h) g
  | case7 b c ih =>
    intro a h g
    rw [comp.eq_7 b c]
    induction a with
    | nil => simp [nS, nT] at g
    | cons u a iha =>
      cases u with
      | ins d => rw [comp, comp, comp, ih a (by simpa [nS, nT] using h) (by simpa [nS, nT] using g)]
      | keep => rw [comp, comp, comp, ih a (by simpa [nS, nT] using h) (by simpa [nS, nT] using g)]
      | drop => rw [comp, comp, comp, iha (by simpa [nS, nT] using g)]
  | case8 b c ih =>
    intro a h g
    rw [comp.eq_8 b c]
    induction a with
    | nil => simp [nS, nT] at g
    | cons u a iha =>
      cases u with
      | ins d => rw [comp, comp, comp]; exact ih a (by simpa [nS, nT] using h) (by simpa [nS, nT] using g)
      | keep => rw [comp, comp, comp, ih a (by simpa [nS, nT] using h) (by simpa [nS, nT] using g)]
      | drop => rw [comp, comp, comp, iha (by simpa [nS, nT] using g)]
  | case9 b c h1 h2 h3 h4 h5 h6 h7 h8 =>
    intro a g gt
    match b, c with
    | b, .ins d :: c => exact absurd rfl (h1 d c)
    | .drop :: b, [] => exact absurd rfl (h2 b rfl)
    | .drop :: b, .keep :: c => exact absurd rfl (h3 b c rfl)
    | .drop :: b, .drop :: c => exact absurd rfl (h4 b c rfl)
    | .ins d :: b, .keep :: c => exact absurd rfl (h5 d b c rfl)
    | .ins d :: b, .drop :: c => exact absurd rfl (h6 d b c rfl)
    | .keep :: b, .keep :: c => exact absurd rfl (h7 b c rfl)
    | .keep :: b, .drop :: c => exact absurd rfl (h8 b c rfl)
    | [], [] =>
      have : comp [] [] = [] := by simp [comp]
      rw [this]
      have key : ∀ a : List Atom, comp (comp a []) [] = comp a [] := by
        intro a
        induction a with
        | nil => simp [comp]
        | cons u a ih =>
          cases u with
          | drop => rw [comp, comp, ih]
          | keep => simp [comp]
          | ins d => simp [comp]
      exact key a
    | .ins d :: b, [] => simp [nS, nT] at g
    | .keep :: b, [] => simp [nS, nT] at g
    | [], .keep :: c => simp [nS, nT] at g
    | [], .drop :: c => simp [nS, nT] at g
/-- back -/
def inv : List Atom → List UInt8 → List Atom
  | .keep :: x, _ :: t => .keep :: inv x t
  | .drop :: x, c :: t => .ins c :: inv x t
  | .ins _ :: x, t => .drop :: inv x t
  | _, _ => []
theorem ap_inv : ∀ (x : List Atom) (t : List UInt8), nS x = t.length → ap (inv x t) (ap x t) = t
  | [], [], _ => rfl
  | .keep :: x, c :: t, h => by simp only [inv, ap]; rw [ap_inv x t (by simpa [nS] using h)]
  | .drop :: x, c :: t, h => by simp only [inv, ap]; rw [ap_inv x t (by simpa [nS] using h)]
  | .ins b :: x, t, h => by simp only [inv, ap]; exact ap_inv x t h
  | .keep :: x, [], h => by simp [nS] at h
  | .drop :: x, [], h => by simp [nS] at h
theorem inv_len : ∀ (x : List Atom) (t : List UInt8), nS x = t.length → nS (inv x t) = nT x ∧ nT (inv x t) = nS x
  | [], [], _ => ⟨rfl, rfl⟩
  | .keep :: x, c :: t, h => by have := inv_len x t (by simpa [nS] using h); simp only [inv, nS, nT]; omega
  | .drop :: x, c :: t, h => by have := inv_len x t (by simpa [nS] using h); simp only [inv, nS, nT]; omega
  | .ins b :: x, t, h => by have := inv_len x t h; simp only [inv, nS, nT]; omega
  | .keep :: x, [], h => by simp [nS] at h
  | .drop :: x, [], h => by simp [nS] at h
end Go.V.G

/-
  P18: changes composed and inverted: what the program's functions and the reference's return.
-/
set_option linter.unusedVariables false
set_option linter.unusedSimpArgs false
set_option maxRecDepth 100000
namespace Go.V.G
open Go.V

theorem cr_good {a b : List Prt} (ha : good a = true) (hb : good b = true) (h : tgt a = src b) : nT (atoms a) = nS (atoms b) ∧ CR (stays (atoms a)) (puts (atoms a)) (stays (atoms b)) (puts (atoms b)) := by
  have sa := okk_some (good_spec ha).1
  have sb := okk_some (good_spec hb).1
  have la := stays_len sa
  have lb := stays_len sb
  have ta := tgt_nT sa
  have tb := tgt_nT sb
  have sb' := src_nS sb
  have := (good_spec ha).2.1
  have := (good_spec hb).2.1
  have := (good_spec hb).2.2
  have hn : nT (atoms a) = nS (atoms b) := by omega
  refine ⟨hn, puts_len _, puts_len _, by rw [rem_nT, hn, nS_stays], by omega, by omega, ?_⟩
  rw [tot_puts]
  rw [nT_eq] at tb
  omega
theorem head_len (l : List Atom) : ((puts l).headD []).length ≤ nIns l := by
  obtain ⟨p, ps, e, _⟩ := puts_cons l
  have := put_le l p (by rw [e]; simp)
  rw [e]; exact this

def composed (a b : List Prt) : List Prt := norm (closeP (stays (comp (atoms a) (atoms b))) (puts (comp (atoms a) (atoms b))))
theorem composed_spec {a b : List Prt} (ha : good a = true) (hb : good b = true) (h : tgt a = src b) :
    good (composed a b) = true ∧ atoms (composed a b) = comp (atoms a) (atoms b) ∧ src (composed a b) = src a ∧ tgt (composed a b) = tgt b := by
  have sa := okk_some (good_spec ha).1
  have sb := okk_some (good_spec hb).1
  obtain ⟨hn, _⟩ := cr_good ha hb h
  obtain ⟨l1, l2⟩ := comp_len _ _ hn
  have hf := closeP_fine (stays (comp (atoms a) (atoms b))) (puts (comp (atoms a) (atoms b)))
  have he := closeP_atoms (comp (atoms a) (atoms b))
  have s1 := src_fine hf
  have t1 := tgt_fine hf
  rw [he] at s1 t1
  have s2 := src_nS sa
  have t2 := tgt_nT sb
  have := (good_spec ha).2.1
  have := (good_spec hb).2.2
  obtain ⟨k1, k2, k3, k4⟩ := norm_spec hf ⟨by omega, by omega⟩
  refine ⟨?_, by rw [← he]; exact k2, ?_, ?_⟩
  · unfold good
    rw [show okk 0 (composed a b) = true from k1, show src (composed a b) = src (closeP _ _) from k3, show tgt (composed a b) = tgt (closeP _ _) from k4]
    simp; omega
  · rw [show src (composed a b) = src (closeP _ _) from k3]; omega
  · rw [show tgt (composed a b) = tgt (closeP _ _) from k4]; omega
theorem pr_good {a b : List Prt} (ha : good a = true) (hb : good b = true) (h : tgt a = src b) : PR (stays (comp (atoms a) (atoms b))) (puts (comp (atoms a) (atoms b))) := by
  have sa := okk_some (good_spec ha).1
  have sb := okk_some (good_spec hb).1
  obtain ⟨hn, _⟩ := cr_good ha hb h
  obtain ⟨l1, l2⟩ := comp_len _ _ hn
  have s2 := src_nS sa
  have t2 := tgt_nT sb
  have := (good_spec ha).2.1
  have := (good_spec hb).2.2
  refine ⟨puts_len _, by rw [← nS_stays]; omega, fun q hq => ?_⟩
  have := put_le _ q hq
  rw [nT_eq] at l2
  omega

def composeOf (a b : List Prt) : List Prt × Bool := if good a = true ∧ good b = true ∧ tgt a = src b then (composed a b, true) else ([], false)
theorem i_compose_eq {a b : List Prt} (ha : good a = true) (hb : good b = true) (h : tgt a = src b) : i_compose a b = some (composed a b) := by
  have sa := okk_some (good_spec ha).1
  have sb := okk_some (good_spec hb).1
  have := (good_spec ha).2.1
  have := (good_spec hb).2.1
  have t2 := tgt_nT sb
  have := (good_spec hb).2.2
  obtain ⟨hn, hCR⟩ := cr_good ha hb h
  have hl := head_len (atoms b)
  rw [nT_eq] at t2
  unfold i_compose
  rw [i_tell_eq (good_sm ha) (by omega) sa (by omega), i_tell_eq (good_sm hb) (by omega) sb (by omega), Option.bind_some, Option.bind_some]
  obtain ⟨q, qs, e, _⟩ := puts_cons (atoms b)
  have hlp := i_compose_loop hCR ((puts (atoms b)).headD []) (by omega)
  rw [cmpG_comp _ _ hn] at hlp
  refine Ok.eq (Ok.yes (by simp) (Ok.yes (by rw [e]; simp) (Ok.bind_eq (r := (puts (atoms b)).headD []) (by rw [e]; rfl) (Ok.bind_eq hlp ?_))))
  refine (i_parts_eq (pr_good ha hb h)).bind ?_
  rintro _ ⟨rfl, _⟩
  exact Ok.mk rfl
theorem s_compose_eq {a b : List Prt} (ha : good a = true) (hb : good b = true) (h : tgt a = src b) : s_l1Compose a b = some (composed a b) := by
  have sa := okk_some (good_spec ha).1
  have sb := okk_some (good_spec hb).1
  have := (good_spec ha).2.1
  have := (good_spec hb).2.1
  have t2 := tgt_nT sb
  have := (good_spec hb).2.2
  obtain ⟨hn, hCR⟩ := cr_good ha hb h
  have hl := head_len (atoms b)
  rw [nT_eq] at t2
  have hx := hCR.x
  have hnn := hCR.n
  unfold s_l1Compose
  rw [s_Open_eq (good_sm ha) (by omega) sa (by omega), s_Open_eq (good_sm hb) (by omega) sb (by omega), Option.bind_some, Option.bind_some]
  obtain ⟨q, qs, e, _⟩ := puts_cons (atoms b)
  have hlp := s_compose_loop hCR ((puts (atoms b)).headD []) (by omega)
  rw [cmpG_comp _ _ hn] at hlp
  have rep : List.replicate (Int.toNat ((List.length (puts (atoms a)) : Nat) : Int)) ([] : List UInt8) = [] :: List.replicate ((puts (atoms a)).length - 1) [] := by
    rw [Int.toNat_natCast, show (puts (atoms a)).length = ((puts (atoms a)).length - 1) + 1 by omega, List.replicate_succ, Nat.add_sub_cancel]
  dsimp only
  rw [rep]
  refine Ok.eq (Ok.yes (by simp) (Ok.yes (by simp) (Ok.yes (by simp [roomFor]; omega) (Ok.yes (by simp) (Ok.yes (by rw [e]; simp) (Ok.bind_eq (r := (puts (atoms b)).headD []) (by rw [e]; rfl) (Ok.yes (by simp) (Ok.yes (by simp) (Ok.bind_eq (r := []) rfl (Ok.bind_eq (r := []) rfl (Ok.bind_eq hlp ?_)))))))))))
  refine (s_close_eq (pr_good ha hb h)).bind ?_
  rintro _ ⟨rfl, _⟩
  exact Ok.mk rfl
theorem i_ComposeChanges_eq {A B : Nat} {a b : List Prt} (ha : Sm A a) (hA : A ≤ 1099511627776) (hb : Sm B b) (hB : B ≤ 1099511627776) : i_ComposeChanges a b = some (composeOf a b) := by
  unfold i_ComposeChanges composeOf
  rw [i_LengthsOf_eq ha hA, Option.bind_some]
  unfold lensOf
  cases ga : good a with
  | false => simp
  | true =>
    simp only [if_true, Bool.not_true, Bool.false_eq_true, if_false, i_fits_eq hb hB, Option.bind_some]
    cases gb : good b with
    | false => simp
    | true =>
      by_cases hs : tgt a = src b
      · simp [hs, i_compose_eq ga gb hs]
      · have hs' : ¬ src b = tgt a := fun h => hs h.symm
        simp [hs, hs']
theorem s_ComposeChanges_eq {A B : Nat} {a b : List Prt} (ha : Sm A a) (hA : A ≤ 1099511627776) (hb : Sm B b) (hB : B ≤ 1099511627776) : s_ComposeChanges a b = some (composeOf a b) := by
  unfold s_ComposeChanges composeOf
  rw [s_Good_eq ha hA, Option.bind_some]
  cases ga : good a with
  | false => simp
  | true =>
    simp only [if_true, Bool.not_true, Bool.false_eq_true, if_false, s_Good_eq hb hB, Option.bind_some]
    cases gb : good b with
    | false => simp
    | true =>
      have sa := okk_some (good_spec ga).1
      have sb := okk_some (good_spec gb).1
      have := (good_spec ga).2.2
      have := (good_spec gb).2.1
      simp only [Bool.not_true, Bool.false_eq_true, if_false, s_Target_eq ha hA sa (by omega), s_Source_eq hb hB sb (by omega), Option.bind_some]
      by_cases hs : tgt a = src b
      · simp [hs, s_compose_eq ga gb hs]
      · simp [hs]

/-! ### inverted -/
def invP1 (p : Prt) (t : List UInt8) : Prt := if kd p = 1 then p else if kd p = 2 then (0, 0, t.take p.2.1.toNat) else (0, ((p.2.2.length : Nat) : Int), [])
def invP : List Prt → List UInt8 → List Prt
  | [], _ => []
  | p :: c, t => invP1 p t :: invP c (t.drop (p.1 + p.2.1).toNat)
theorem inv_append : ∀ (x y : List Atom) (t : List UInt8), nS x ≤ t.length → inv (x ++ y) t = inv x (t.take (nS x)) ++ inv y (t.drop (nS x))
  | [], y, t, _ => by cases t <;> simp [inv, nS]
  | .ins b :: x, y, t, h => by simp only [List.cons_append, inv, nS]; rw [inv_append x y t h]
  | .keep :: x, y, c :: t, h => by
    simp only [List.cons_append, inv, nS, List.take_succ_cons, List.drop_succ_cons]; rw [inv_append x y t (by simpa [nS] using h)]
  | .drop :: x, y, c :: t, h => by
    simp only [List.cons_append, inv, nS, List.take_succ_cons, List.drop_succ_cons]; rw [inv_append x y t (by simpa [nS] using h)]
  | .keep :: x, y, [], h => by simp [nS] at h
  | .drop :: x, y, [], h => by simp [nS] at h
theorem inv_keep : ∀ (n : Nat) (t : List UInt8), t.length = n → inv (List.replicate n .keep) t = List.replicate n .keep
  | 0, [], _ => rfl
  | n + 1, c :: t, h => by rw [List.replicate_succ]; simp only [inv]; rw [inv_keep n t (by simpa using h)]
theorem inv_drop : ∀ (n : Nat) (t : List UInt8), t.length = n → inv (List.replicate n .drop) t = t.map Atom.ins
  | 0, [], _ => rfl
  | n + 1, c :: t, h => by rw [List.replicate_succ]; simp only [inv]; rw [inv_drop n t (by simpa using h)]; rfl
theorem inv_map : ∀ s : List UInt8, inv (s.map Atom.ins) [] = List.replicate s.length .drop
  | [] => rfl
  | b :: s => by simp only [List.map_cons, inv, List.length_cons, List.replicate_succ]; rw [inv_map s]
def backk (k : Int) : Int := if k = 1 then 1 else if k = 2 then 3 else if k = 3 then 2 else 0
theorem invP1_spec {p : Prt} (h : kd p ≠ 0) (t : List UInt8) (ht : t.length = (p.1 + p.2.1).toNat) : kd (invP1 p t) = backk (kd p) ∧ pa (invP1 p t) = inv (pa p) t := by
  rcases kd_cases h with ⟨a, ha, rfl, k⟩ | ⟨a, ha, rfl, k⟩ | ⟨s, hs, rfl, k⟩
  · simp only [Int.add_zero] at ht
    rw [invP1, k, if_pos rfl, k, pa_keep (by omega), inv_keep _ t ht]
    exact ⟨rfl, rfl⟩
  · simp only [Int.zero_add] at ht
    rw [invP1, k, if_neg (by omega), if_pos rfl]
    dsimp only
    rw [List.take_of_length_le (by omega), pa_put, pa_drop (by omega), inv_drop _ t ht]
    have : t ≠ [] := by intro e; subst e; simp at ht; omega
    exact ⟨by simp [kd, this, backk], rfl⟩
  · have : t = [] := List.eq_nil_of_length_eq_zero (by simpa using ht)
    subst this
    rw [invP1, k, if_neg (by omega), if_neg (by omega)]
    dsimp only
    rw [pa_put, inv_map, pa_drop (by omega)]
    have : 0 < s.length := List.length_pos_iff.2 hs
    exact ⟨by simp [kd, backk]; omega, by simp⟩
theorem backk_inj {j k : Int} (hj : j = 1 ∨ j = 2 ∨ j = 3) (hk : k = 0 ∨ k = 1 ∨ k = 2 ∨ k = 3) (h : backk j = backk k) : j = k := by
  unfold backk at h
  rcases hj with rfl | rfl | rfl <;> rcases hk with rfl | rfl | rfl | rfl <;> simp at h ⊢
theorem kd_range (p : Prt) : kd p = 0 ∨ kd p = 1 ∨ kd p = 2 ∨ kd p = 3 := by
  unfold kd; split; omega; split; omega; split <;> omega
theorem invP_spec : ∀ (c : List Prt) (k : Int) (t : List UInt8), (k = 0 ∨ k = 1 ∨ k = 2 ∨ k = 3) → okk k c = true → ((t.length : Nat) : Int) = src c → okk (backk k) (invP c t) = true ∧ atoms (invP c t) = inv (atoms c) t
  | [], k, t, _, _, ht => by
    have : t = [] := List.eq_nil_of_length_eq_zero (by simp only [src] at ht; omega)
    subst this
    exact ⟨rfl, rfl⟩
  | p :: c, k, t, hk, h, ht => by
    have hs := okk_some h
    have s1 := hs p (by simp)
    have k0 := s1.k; have d0 := s1.d
    have n1 := src_nonneg (l := c) fun q hq => hs q (by simp [hq])
    simp only [src] at ht
    simp only [okk, Bool.and_eq_true, Bool.not_eq_true', decide_eq_false_iff_not] at h
    obtain ⟨⟨h1, h2⟩, h3⟩ := h
    obtain ⟨e1, e2⟩ := invP1_spec h1 (t.take (p.1 + p.2.1).toNat) (by rw [List.length_take]; omega)
    have e3 : invP1 p (t.take (p.1 + p.2.1).toNat) = invP1 p t := by
      unfold invP1
      split
      · rfl
      · split
        · rename_i hk2
          rcases kd_cases h1 with ⟨a, ha, rfl, q⟩ | ⟨a, ha, rfl, q⟩ | ⟨a, ha, rfl, q⟩
          · omega
          · simp [List.take_take]
          · omega
        · rfl
    rw [e3] at e1 e2
    obtain ⟨r1, r2⟩ := invP_spec c (kd p) (t.drop (p.1 + p.2.1).toNat) (kd_range p) h3 (by rw [List.length_drop]; omega)
    have kp : kd p = 1 ∨ kd p = 2 ∨ kd p = 3 := by rcases kd_range p with h | h | h | h <;> simp_all
    constructor
    · show (!(decide (kd (invP1 p t) = 0)) && !(decide (kd (invP1 p t) = backk k)) && okk (kd (invP1 p t)) (invP c _)) = true
      rw [e1, r1]
      have g1 : ¬ backk (kd p) = 0 := by unfold backk; rcases kp with h | h | h <;> simp [h]
      have g2 : ¬ backk (kd p) = backk k := fun h => h2 (backk_inj kp hk h)
      simp [g1, g2]
    · show pa (invP1 p t) ++ atoms (invP c _) = inv (pa p ++ atoms c) t
      rw [e2, r2, inv_append _ _ _ (by rw [nS_pa]; omega), nS_pa]
theorem invert_loop {c : List Prt} (hg : good c = true) {t : List UInt8} (ht : ((t.length : Nat) : Int) = src c) : loopG i_InvertChange_L1 (t, [], 0, c, ((List.length c : Nat) : Int), 0) = some (invP c t) := by
  have hs := okk_some (good_spec hg).1
  have sle := (good_spec hg).2.1
  have hlen := (good_sm hg).len
  refine Ok.eq (Ok.loop (fun y => y.1 = t ∧ y.2.2.2.1 = c ∧ y.2.2.2.2.1 = ((List.length c : Nat) : Int) ∧ ∃ k : Nat, y.2.2.2.2.2 = ((k : Nat) : Int) ∧ k ≤ c.length ∧ y.2.2.1 = src (c.take k) ∧ List.length y.2.1 = k ∧ y.2.1 ++ invP (c.drop k) (t.drop (src (c.take k)).toNat) = invP c t) (fun y => (((List.length c : Nat) : Int) - y.2.2.2.2.2).toNat)
    ⟨rfl, rfl, rfl, 0, rfl, Nat.zero_le _, by simp [src], rfl, by simp [src]⟩ ?_)
  rintro ⟨t', o, s, c', n, k'⟩ ⟨e1, e2, e3, k, e4, hk, e5, e6, hf⟩
  dsimp only at e1 e2 e3 e4 e5 e6 hf
  subst e1 e2 e3 e4
  unfold i_InvertChange_L1
  dsimp only
  refine Ok.ite (fun hc => ?_) fun hc => ?_
  · have hlt : k < c'.length := by simpa using hc
    have p1 := hs _ (List.getElem_mem hlt)
    have k0 := p1.k; have d0 := p1.d
    have a1 := src_at hlt
    have n1 := src_nonneg (l := c'.take k) fun p h => hs p (mem_take h)
    have n3 := src_nonneg (l := c'.drop (k + 1)) fun p h => hs p (mem_drop h)
    have room : ∀ x : Prt, roomFor (List.length o + List.length [x]) 32 = true := fun x => room1 (by omega) (by omega)
    rw [List.drop_eq_getElem_cons hlt] at hf
    have hf' : o ++ invP1 c'[k] (t'.drop (src (c'.take k)).toNat) :: invP (c'.drop (k + 1)) (t'.drop (src (c'.take (k + 1))).toNat) = invP c' t' := by
      rw [← hf, src_take hlt, show (src (c'.take k) + (c'[k].1 + c'[k].2.1)).toNat = (src (c'.take k)).toNat + (c'[k].1 + c'[k].2.1).toNat by omega]
      show _ = o ++ (invP1 c'[k] _ :: invP (c'.drop (k + 1)) ((t'.drop (src (c'.take k)).toNat).drop (c'[k].1 + c'[k].2.1).toNat))
      rw [List.drop_drop]
    refine Ok.yes (by simp) (Ok.bind_eq (r := c'[k]) (by simp [List.getElem?_eq_getElem hlt]) (Ok.bind_eq (i_kind_eq _ _ _) ?_))
    have ek : kd (c'[k].1, c'[k].2.1, c'[k].2.2) = kd c'[k] := rfl
    rw [ek]
    refine Ok.bind (Q := fun v => v = (t', o ++ [invP1 c'[k] (t'.drop (src (c'.take k)).toNat)], s, c', ((List.length c' : Nat) : Int), ((k : Nat) : Int), c'[k].1, c'[k].2.1, c'[k].2.2)) ?_ ?_
    · subst e5
      rcases kd_cases p1.ne with ⟨a, ha, ep, kk⟩ | ⟨a, ha, ep, kk⟩ | ⟨a, ha, ep, kk⟩
      · refine Ok.yes (by simp [kk]) (Ok.yes (room _) (Ok.mk ?_))
        have : invP1 c'[k] (t'.drop (src (c'.take k)).toNat) = c'[k] := by rw [invP1, if_pos kk]
        rw [this]
      · have w1 : IntKind.wrap .i64 (src (c'.take k) + c'[k].2.1) = src (c'.take k) + c'[k].2.1 := w64 (by omega) (by omega)
        have hv : (t'.drop (Int.toNat (src (c'.take k)))).take (Int.toNat (src (c'.take k) + c'[k].2.1) - Int.toNat (src (c'.take k))) = (t'.drop (src (c'.take k)).toNat).take c'[k].2.1.toNat := by
          rw [show Int.toNat (src (c'.take k) + c'[k].2.1) - Int.toNat (src (c'.take k)) = c'[k].2.1.toNat by omega]
        refine Ok.no (by simp [kk]) (Ok.bind (Q := fun v => v = (t', o ++ [invP1 c'[k] (t'.drop (src (c'.take k)).toNat)], src (c'.take k), c', ((List.length c' : Nat) : Int), ((k : Nat) : Int), c'[k].1, c'[k].2.1, c'[k].2.2)) ?_ (fun v hv => Ok.mk hv))
        rw [w1]
        refine Ok.yes (by simp [kk]) (Ok.yes (decide_eq_true n1) (Ok.yes (decide_eq_true (by omega)) (Ok.yes (decide_eq_true (by omega)) (Ok.yes (by simp) (Ok.yes (room _) (Ok.mk ?_))))))
        have : invP1 c'[k] (t'.drop (src (c'.take k)).toNat) = (0, 0, (t'.drop (src (c'.take k)).toNat).take c'[k].2.1.toNat) := by rw [invP1, kk, if_neg (by omega), if_pos rfl]
        rw [this, hv]
      · refine Ok.no (by simp [kk]) (Ok.bind (Q := fun v => v = (t', o ++ [invP1 c'[k] (t'.drop (src (c'.take k)).toNat)], src (c'.take k), c', ((List.length c' : Nat) : Int), ((k : Nat) : Int), c'[k].1, c'[k].2.1, c'[k].2.2)) ?_ (fun v hv => Ok.mk hv))
        refine Ok.no (by simp [kk]) (Ok.bind (Q := fun v => v = (t', o ++ [invP1 c'[k] (t'.drop (src (c'.take k)).toNat)], src (c'.take k), c', ((List.length c' : Nat) : Int), ((k : Nat) : Int), c'[k].1, c'[k].2.1, c'[k].2.2)) ?_ (fun v hv => Ok.mk hv))
        refine Ok.yes (by simp [kk]) (Ok.yes (room _) (Ok.mk ?_))
        have : invP1 c'[k] (t'.drop (src (c'.take k)).toNat) = (0, ((c'[k].2.2.length : Nat) : Int), []) := by rw [invP1, kk, if_neg (by omega), if_neg (by omega)]
        rw [this]
    rintro _ rfl
    dsimp only
    subst e5
    have w2 : IntKind.wrap .i64 (c'[k].1 + c'[k].2.1) = c'[k].1 + c'[k].2.1 := w64 (by omega) (by omega)
    have w3 : IntKind.wrap .i64 (src (c'.take k) + (c'[k].1 + c'[k].2.1)) = src (c'.take k) + (c'[k].1 + c'[k].2.1) := w64 (by omega) (by omega)
    rw [w2, w3, idx_succ (n := c'.length) (by omega) hlt]
    exact Ok.mk ⟨⟨rfl, rfl, rfl, k + 1, rfl, by omega, (src_take hlt).symm, by simp [e6], by rw [← hf']; simp⟩, by dsimp only; omega⟩
  · have : k = c'.length := by
      have : ¬ ((k : Int) < ((List.length c' : Nat) : Int)) := by simpa using hc
      omega
    subst this
    rw [List.drop_length] at hf
    exact Ok.mk (by rw [← hf]; simp [invP])
def invertOf (t : List UInt8) (c : List Prt) : List Prt × Bool := if good c = true ∧ src c = ((t.length : Nat) : Int) then (invP c t, true) else ([], false)
theorem i_InvertChange_eq {B : Nat} {c : List Prt} (h : Sm B c) (hB : B ≤ 1099511627776) (t : List UInt8) : i_InvertChange t c = some (invertOf t c) := by
  unfold i_InvertChange invertOf
  rw [i_fits_eq h hB, Option.bind_some]
  cases hg : good c with
  | false => simp
  | true =>
    by_cases hs : src c = ((t.length : Nat) : Int)
    · simp [hs, invert_loop hg hs.symm]
    · simp [hs]
theorem invP_good {c : List Prt} (hg : good c = true) {t : List UInt8} (ht : ((t.length : Nat) : Int) = src c) : good (invP c t) = true ∧ atoms (invP c t) = inv (atoms c) t ∧ src (invP c t) = tgt c := by
  obtain ⟨g1, g2, g3⟩ := good_spec hg
  have hs := okk_some g1
  obtain ⟨k1, k2⟩ := invP_spec c 0 t (.inl rfl) g1 ht
  have k1' : okk 0 (invP c t) = true := k1
  have s1 := okk_some k1'
  have q1 := src_nS s1
  have q2 := tgt_nT s1
  have q3 := src_nS hs
  have q4 := tgt_nT hs
  rw [k2] at q1 q2
  obtain ⟨i1, i2⟩ := inv_len (atoms c) t (by omega)
  refine ⟨?_, k2, by omega⟩
  unfold good
  rw [k1']
  simp; omega

theorem drawCompose_ok {code : List Int} (hb : Bytes code) : Ok (s_DrawComposeChanges code) fun r => Sm 853 r.1 ∧ Sm 853 r.2 := by
  have h : At code 100000 0 := ⟨hb, by omega, by omega⟩
  unfold s_DrawComposeChanges
  refine (size_ok (h.less (by omega))).bind ?_
  rintro ⟨n, c1, a1, s1⟩ ⟨hn, t1⟩
  dsimp only at hn t1 ⊢
  refine (changeOf_ok 120 (by omega) (by omega) (by omega) (t1.at (h.less (by omega)))).bind ?_
  rintro ⟨x, c2, a2, s2⟩ ⟨hx, t2⟩
  dsimp only at hx t2 ⊢
  have t2 := t1.trans t2
  refine Ok.bind_eq (s_Good_eq hx (by omega)) ?_
  refine Ok.bind (Q := fun v => v.1 = x ∧ (0 ≤ v.2.1 ∧ v.2.1 ≤ 120) ∧ To code 0 1300 v.2.2.1 v.2.2.2.1) ?_ ?_
  · refine Ok.ite (fun hg => ?_) fun _ => Ok.mk ⟨rfl, by simp, t2.more (by omega)⟩
    obtain ⟨g1, g2, g3⟩ := good_spec hg
    have := tgt_nonneg (okk_some g1)
    exact Ok.bind_eq (s_Target_eq hx (by omega) (okk_some g1) (by omega)) (Ok.mk ⟨rfl, by dsimp only; omega, t2.more (by omega)⟩)
  rintro ⟨x', m, c3, a3, s3⟩ ⟨e1, hm, t3⟩
  dsimp only at e1 hm t3 ⊢
  subst e1
  refine (one_ok (t3.at (j := 2) (h.less (by omega)))).bind ?_
  rintro ⟨f, c4, a4, s4⟩ t4
  dsimp only at t4 ⊢
  have t4 := t3.trans t4
  have e : IntKind.wrap .i64 (m + 1) = m + 1 := w64 (by omega) (by omega)
  rw [e]
  refine Ok.bind (Q := fun v => v.1 = x' ∧ (0 ≤ v.2.1 ∧ v.2.1 ≤ 121) ∧ To code 0 1302 v.2.2.1 v.2.2.2.1) ?_ ?_
  · exact Ok.ite (fun _ => Ok.mk ⟨rfl, by dsimp only; omega, t4.more (by omega)⟩) fun _ => Ok.mk ⟨rfl, by dsimp only; omega, t4.more (by omega)⟩
  rintro ⟨x2, m2, c5, a5, s5⟩ ⟨e2, hm2, t5⟩
  dsimp only at e2 hm2 t5 ⊢
  subst e2
  refine (changeOf_ok 121 (by omega) (by omega) (by omega) (t5.at (h.less (by omega)))).bind ?_
  rintro ⟨y, c6, a6, s6⟩ ⟨hy, t6⟩
  exact Ok.mk ⟨hx.mono (by omega), hy.mono (by omega)⟩
theorem changeFor_ok {code : List Int} (hb : Bytes code) (n : Int) : Ok (s_ChangeFor code n) fun r => Sm 853 r := by
  have h : At code 100000 0 := ⟨hb, by omega, by omega⟩
  unfold s_ChangeFor
  refine Ok.bind (Q := fun v => v = (n, decide (n < 0 ∨ 120 < n), code, 0, 0)) ?_ ?_
  · refine Ok.ite (fun hq => Ok.mk ?_) fun hq => Ok.mk ?_
    · have : n < 0 := by simpa using hq
      simp [this]
    · have : ¬ n < 0 := by simpa using hq
      simp [this]
  rintro _ rfl
  dsimp only
  refine Ok.bind (Q := fun v => (0 ≤ v.1 ∧ v.1 ≤ 120) ∧ v.2 = (code, 0, 0)) ?_ ?_
  · refine Ok.ite (fun hq => Ok.mk ⟨by simp, rfl⟩) fun hq => Ok.mk ⟨?_, rfl⟩
    have : ¬ (n < 0 ∨ 120 < n) := by simpa using hq
    dsimp only; omega
  rintro ⟨m, c, a, s⟩ ⟨hm, e⟩
  injection e with e1 e2
  injection e2 with e2 e3
  subst e1 e2 e3
  dsimp only at hm ⊢
  refine (changeOf_ok 120 (by omega) (by omega) (by omega) (h.less (by omega))).bind ?_
  rintro ⟨y, c6, a6, s6⟩ ⟨hy, t6⟩
  exact Ok.mk (hy.mono (by omega))
end Go.V.G
