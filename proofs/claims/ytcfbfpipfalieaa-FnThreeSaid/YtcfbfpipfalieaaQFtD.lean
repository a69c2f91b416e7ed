import Derived.Test.YtcfbfpipfalieaaQFtC
set_option linter.unusedVariables false
set_option linter.unusedSimpArgs false
set_option maxRecDepth 100000
namespace Go.V.G
open Go.V
def stP (S : List Bool) (k : Nat) : List Prt := match S[k]? with
  | some true => [(1, 0, [])]
  | some false => [(0, 1, [])]
  | none => []
theorem closeP_step {S : List Bool} {P : List (List UInt8)} (h : P.length = S.length + 1) {k : Nat} (hk : k < P.length) : closeP (S.drop k) (P.drop k) = (0, 0, P[k]) :: (stP S k ++ closeP (S.drop (k + 1)) (P.drop (k + 1))) := by
  rw [List.drop_eq_getElem_cons hk]
  by_cases hs : k < S.length
  · rw [List.drop_eq_getElem_cons hs]
    simp only [closeP, stP, List.getElem?_eq_getElem hs]
    cases S[k] <;> rfl
  · rw [List.drop_eq_nil_of_le (show S.length ≤ k by omega), List.drop_eq_nil_of_le (show S.length ≤ k + 1 by omega), List.drop_eq_nil_of_le (show P.length ≤ k + 1 by omega)]
    simp [closeP, stP, List.getElem?_eq_none (show S.length ≤ k by omega)]
structure PR (S : List Bool) (P : List (List UInt8)) : Prop where
  x : P.length = S.length + 1
  n : S.length ≤ 1000
  p : ∀ q ∈ P, q.length ≤ 1000
theorem addp_zero (l : List Prt) : addp l (0, 0, []) = l := by simp [addp]
theorem i_parts_eq {S : List Bool} {P : List (List UInt8)} (h : PR S P) : Ok (i_told_parts S P) fun z => z = norm (closeP S P) ∧ Sm 4004004 z := by
  unfold i_told_parts
  refine Ok.bind (Q := fun z => z = norm (closeP S P) ∧ Sm 4004004 z) ?_ (fun z hz => Ok.mk hz)
  refine Ok.loop (fun y => y.1 = P ∧ y.2.1 = ((List.length P : Nat) : Int) ∧ y.2.2.2.1 = S ∧ ∃ k : Nat, y.2.2.1 = ((k : Nat) : Int) ∧ k ≤ P.length ∧ Sm (k * 4000) y.2.2.2.2.2 ∧ (closeP (S.drop k) (P.drop k)).foldl addp y.2.2.2.2.2 = norm (closeP S P)) (fun y => (((List.length P : Nat) : Int) - y.2.2.1).toNat)
    ⟨rfl, rfl, rfl, 0, rfl, Nat.zero_le _, Sm.nil _, rfl⟩ ?_
  rintro ⟨p1, n, k', s, p2, o⟩ ⟨e1, e2, e3, k, e4, hk, ho, hf⟩
  dsimp only at e1 e2 e3 e4 ho hf
  subst e1 e2 e3 e4
  obtain ⟨hx, hn, hp⟩ := h
  have z := one_I.2
  unfold i_told_parts_L1
  dsimp only
  refine Ok.ite (fun hc => ?_) fun hc => ?_
  · have hlt : k < p1.length := by simpa using hc
    have lp := hp _ (List.getElem_mem hlt)
    rw [closeP_step hx hlt, List.foldl_cons, List.foldl_append] at hf
    refine Ok.yes (by simp) (Ok.bind_eq (r := p1[k]) (by simp [List.getElem?_eq_getElem hlt]) ?_)
    refine Ok.bind (Q := fun v => v = (((k : Nat) : Int), p1, ((List.length p1 : Nat) : Int), ((k : Nat) : Int), s, p2, addp o (0, 0, p1[k]))) ?_ ?_
    · refine Ok.ite (fun hq => Ok.bind_eq (i_add_eq ho (by omega) 0 0 _ (by omega)) (Ok.mk rfl)) fun hq => Ok.mk ?_
      have : p1[k] = [] := by simpa using hq
      rw [this, addp_zero]
    rintro _ rfl
    dsimp only
    have so : Sm (k * 4000 + 1000) (addp o (0, 0, p1[k])) := addp_sm ho ⟨z, z⟩ (by omega) (by dsimp only; omega)
    refine Ok.bind (Q := fun v => v = (p1, ((List.length p1 : Nat) : Int), ((k : Nat) : Int), s, p2, (stP s k).foldl addp (addp o (0, 0, p1[k])))) ?_ ?_
    · refine Ok.ite (fun hq => Ok.mk ?_) fun hq => ?_
      · have : k = s.length := by
          have : ((k : Nat) : Int) = ((List.length s : Nat) : Int) := by simpa using hq
          omega
        simp [stP, this]
      · have hks : k < s.length := by
          have : ¬ ((k : Nat) : Int) = ((List.length s : Nat) : Int) := by simpa using hq
          omega
        refine Ok.yes (by simp) (Ok.bind_eq (r := s[k]) (by simp [List.getElem?_eq_getElem hks]) ?_)
        refine Ok.bind (Q := fun v => v = (p1, ((List.length p1 : Nat) : Int), ((k : Nat) : Int), s, p2, (stP s k).foldl addp (addp o (0, 0, p1[k])))) ?_ (fun v hv => Ok.mk hv)
        simp only [stP, List.getElem?_eq_getElem hks]
        cases s[k] with
        | true => exact Ok.yes rfl (Ok.bind_eq (i_add_eq so (by omega) 1 0 [] (by simp)) (Ok.mk rfl))
        | false => exact Ok.no (by simp) (Ok.bind_eq (i_add_eq so (by omega) 0 1 [] (by simp)) (Ok.mk rfl))
    rintro _ rfl
    dsimp only
    have so4 : Sm ((k + 1) * 4000) ((stP s k).foldl addp (addp o (0, 0, p1[k]))) := by
      unfold stP
      split
      · exact addp_sm (p := (1, 0, [])) (C := (k + 1) * 4000) so ⟨one_I.1, z⟩ (by omega) (by simp; omega)
      · exact addp_sm (p := (0, 1, [])) (C := (k + 1) * 4000) so ⟨z, one_I.1⟩ (by omega) (by simp; omega)
      · exact so.mono (by omega)
    exact Ok.mk ⟨⟨rfl, rfl, rfl, k + 1, idx_succ (n := p1.length) (by omega) hlt, by omega, so4, hf⟩, by rw [idx_succ (n := p1.length) (by omega) hlt]; dsimp only; omega⟩
  · have : k = p1.length := by
      have : ¬ ((k : Int) < ((List.length p1 : Nat) : Int)) := by simpa using hc
      omega
    subst this
    refine Ok.mk ⟨?_, ho.mono (by omega)⟩
    rw [← hf, List.drop_length, List.drop_eq_nil_of_le (show s.length ≤ p1.length by omega)]; rfl
theorem s_close_eq {S : List Bool} {P : List (List UInt8)} (h : PR S P) : Ok (s_l1Close S P) fun z => z = norm (closeP S P) ∧ Sm 4004004 z := by
  unfold s_l1Close
  refine Ok.bind (Q := fun z => z = norm (closeP S P) ∧ Sm 4004004 z) ?_ (fun z hz => Ok.mk hz)
  refine Ok.loop (fun y => y.2.1 = P ∧ y.2.2.1 = ((List.length P : Nat) : Int) ∧ y.2.2.2.2.1 = S ∧ ∃ k : Nat, y.2.2.2.1 = ((k : Nat) : Int) ∧ k ≤ P.length ∧ Sm (k * 4000) y.1 ∧ (closeP (S.drop k) (P.drop k)).foldl addp y.1 = norm (closeP S P)) (fun y => (((List.length P : Nat) : Int) - y.2.2.2.1).toNat)
    ⟨rfl, rfl, rfl, 0, rfl, Nat.zero_le _, Sm.nil _, rfl⟩ ?_
  rintro ⟨o, p1, n, k', s, p2⟩ ⟨e1, e2, e3, k, e4, hk, ho, hf⟩
  dsimp only at e1 e2 e3 e4 ho hf
  subst e1 e2 e3 e4
  obtain ⟨hx, hn, hp⟩ := h
  have z := one_I.2
  unfold s_l1Close_L1
  dsimp only
  refine Ok.ite (fun hc => ?_) fun hc => ?_
  · have hlt : k < p1.length := by simpa using hc
    have lp := hp _ (List.getElem_mem hlt)
    rw [closeP_step hx hlt, List.foldl_cons, List.foldl_append] at hf
    have so : Sm (k * 4000 + 1000) (addp o (0, 0, p1[k])) := addp_sm ho ⟨z, z⟩ (by omega) (by dsimp only; omega)
    refine Ok.yes (by simp) (Ok.bind_eq (r := p1[k]) (by simp [List.getElem?_eq_getElem hlt]) (Ok.bind_eq (s_l1Add_eq ho (by omega) 0 0 _ (by omega)) ?_))
    refine Ok.bind (Q := fun v => v = ((stP s k).foldl addp (addp o (0, 0, p1[k])), p1, ((List.length p1 : Nat) : Int), ((k : Nat) : Int), s, p2)) ?_ ?_
    · refine Ok.ite (fun hq => ?_) fun hq => Ok.mk ?_
      · have hks : k < s.length := by
          have : ((k : Nat) : Int) < ((List.length s : Nat) : Int) := by simpa using hq
          omega
        refine Ok.yes (by simp) (Ok.bind_eq (r := s[k]) (by simp [List.getElem?_eq_getElem hks]) ?_)
        refine Ok.bind (Q := fun v => v = ((stP s k).foldl addp (addp o (0, 0, p1[k])), p1, ((List.length p1 : Nat) : Int), ((k : Nat) : Int), s, p2)) ?_ (fun v hv => Ok.mk hv)
        simp only [stP, List.getElem?_eq_getElem hks]
        cases s[k] with
        | true => exact Ok.yes rfl (Ok.bind_eq (s_l1Add_eq so (by omega) 1 0 [] (by simp)) (Ok.mk rfl))
        | false => exact Ok.no (by simp) (Ok.bind_eq (s_l1Add_eq so (by omega) 0 1 [] (by simp)) (Ok.mk rfl))
      · have : s.length ≤ k := by
          have : ¬ ((k : Nat) : Int) < ((List.length s : Nat) : Int) := by simpa using hq
          omega
        simp [stP, List.getElem?_eq_none this]
    rintro _ rfl
    dsimp only
    have so4 : Sm ((k + 1) * 4000) ((stP s k).foldl addp (addp o (0, 0, p1[k]))) := by
      unfold stP
      split
      · exact addp_sm (p := (1, 0, [])) (C := (k + 1) * 4000) so ⟨one_I.1, z⟩ (by omega) (by simp; omega)
      · exact addp_sm (p := (0, 1, [])) (C := (k + 1) * 4000) so ⟨z, one_I.1⟩ (by omega) (by simp; omega)
      · exact so.mono (by omega)
    exact Ok.mk ⟨⟨rfl, rfl, rfl, k + 1, idx_succ (n := p1.length) (by omega) hlt, by omega, so4, hf⟩, by rw [idx_succ (n := p1.length) (by omega) hlt]; dsimp only; omega⟩
  · have : k = p1.length := by
      have : ¬ ((k : Int) < ((List.length p1 : Nat) : Int)) := by simpa using hc
      omega
    subst this
    refine Ok.mk ⟨?_, ho.mono (by omega)⟩
    rw [← hf, List.drop_length, List.drop_eq_nil_of_le (show s.length ≤ p1.length by omega)]; rfl
section
variable {Sb : List Bool} {Pb : List (List UInt8)} {Sc : List Bool} {Pc : List (List UInt8)} (h : CR Sb Pb Sc Pc)
include h
theorem s_compose_inner {t g : Nat} {n g2 : Int} {s text : List UInt8} {oS : List Bool} {oP : List (List UInt8)} (hs : t + s.length ≤ Sc.length) (ht : text.length ≤ 1000) (hg : oP[g]? = some text) :
    loopG s_l1Compose_L1 (((t : Nat) : Int), ((g : Nat) : Int), s, 0, Pb, n, g2, Sb, Sc, Pc, oS, oP) =
      some (((t + s.length : Nat) : Int), ((g : Nat) : Int), Pb, n, g2, Sb, Sc, Pc, oS, oP.set g (text ++ inn (Sc.drop t) (Pc.drop t) s)) := by
  obtain ⟨hx, hy, hr, hn, hm, hpy⟩ := h
  have hgl : g < oP.length := (List.getElem?_eq_some_iff.1 hg).1
  have h0 : oP.set g text = oP := by
    have := (List.getElem?_eq_some_iff.1 hg).2
    rw [← this]; exact List.set_getElem_self hgl
  have := loop_run s_l1Compose_L1 (fun i => (((t + i : Nat) : Int), ((g : Nat) : Int), s, ((i : Nat) : Int), Pb, n, g2, Sb, Sc, Pc, oS, oP.set g (text ++ inn (Sc.drop t) (Pc.drop t) (s.take i)))) s.length
    (((t + s.length : Nat) : Int), ((g : Nat) : Int), Pb, n, g2, Sb, Sc, Pc, oS, oP.set g (text ++ inn (Sc.drop t) (Pc.drop t) s)) (by
      intro i hi
      have hti : t + i < Sc.length := by omega
      have htp : t + i + 1 < Pc.length := by omega
      have hl : (s.take i).length = i := by rw [List.length_take]; omega
      have sn := inn_snoc (s.take i) (Sc.drop t) (Pc.drop t) s[i] (by rw [hl, List.length_drop]; omega) (by rw [List.length_drop, List.length_drop]; omega)
      rw [← List.take_succ_eq_append_getElem hi] at sn
      simp only [hl, List.getElem_drop] at sn
      have il := inn_len (Sc.drop t) (Pc.drop t) (s.take i)
      have tl : tot (Pc.drop t).tail ≤ tot Pc := by rw [List.tail_drop]; exact tot_drop _ _
      have pq : (Pc[t + i + 1]).length ≤ tot Pc := tot_mem (List.getElem_mem htp)
      have e1 : IntKind.wrap .i64 (((i : Nat) : Int) + 1) = ((i + 1 : Nat) : Int) := idx_succ (n := s.length) (by omega) hi
      have e2 : IntKind.wrap .i64 (((t + i : Nat) : Int) + 1) = ((t + i + 1 : Nat) : Int) := idx_succ (n := Sc.length) (by omega) hti
      have g0 : (0 : Int) ≤ ((t + i : Nat) : Int) := by omega
      have g1 : ((t + i : Nat) : Int) < ((List.length Sc : Nat) : Int) := by omega
      have g2' : (0 : Int) ≤ ((i : Nat) : Int) := by omega
      have g3 : ((i : Nat) : Int) ≤ ((i + 1 : Nat) : Int) := by omega
      have g4 : ((i + 1 : Nat) : Int) ≤ ((List.length s : Nat) : Int) := by omega
      have g5 : ((i : Nat) : Int) < ((List.length s : Nat) : Int) := by omega
      have g6 : ((t + i + 1 : Nat) : Int) < ((List.length Pc : Nat) : Int) := by omega
      have g7 : (0 : Int) ≤ ((t + i + 1 : Nat) : Int) := by omega
      have g8 : (0 : Int) ≤ ((g : Nat) : Int) := by omega
      have cut : (s.drop i).take (i + 1 - i) = [s[i]] := by rw [show i + 1 - i = 1 by omega, List.drop_eq_getElem_cons hi]; rfl
      have b1 : List.length (text ++ inn (Sc.drop t) (Pc.drop t) (s.take i)) + List.length [s[i]] ≤ 9223372036854775807 := by rw [List.length_append]; simp only [List.length_singleton]; omega
      have b2 : ∀ z : List UInt8, z.length ≤ 1 → List.length (text ++ inn (Sc.drop t) (Pc.drop t) (s.take i) ++ z) + List.length (Pc[t + i + 1]) ≤ 9223372036854775807 := fun z hz => by rw [List.length_append, List.length_append]; omega
      have gl : ∀ z, ((g : Nat) : Int) < ((List.length (oP.set g z) : Nat) : Int) := fun z => by rw [List.length_set]; omega
      have gs : ∀ z, (oP.set g z)[g]? = some z := fun z => List.getElem?_set_self hgl
      unfold s_l1Compose_L1
      simp only [g0, g1, g2', g3, g4, g5, g8, gl, gs, e1, e2, decide_true, if_true, Int.toNat_natCast, Nat.zero_add, List.getElem?_eq_getElem hti, Option.bind_some, Int.le_refl, cut, b1, List.set_set]
      cases hb : Sc[t + i] with
      | true =>
        rw [hb, if_pos rfl] at sn
        have b3 := b2 [s[i]] (by simp)
        simp only [if_true, Option.bind_some, e1, e2, g6, g7, g8, gl, gs, decide_true, Int.toNat_natCast, List.getElem?_eq_getElem htp, b3, List.set_set]
        simp only [sn, List.append_assoc, Nat.add_assoc]
      | false =>
        rw [hb, if_neg (by simp)] at sn
        have b3 := b2 [] (by simp)
        rw [List.append_nil] at b3
        simp only [Bool.false_eq_true, if_false, Option.bind_some, e1, e2, g6, g7, g8, gl, gs, decide_true, if_true, Int.toNat_natCast, List.getElem?_eq_getElem htp, b3, List.set_set]
        simp only [sn, List.append_assoc, Nat.add_assoc, List.nil_append]) (by
      simp only [List.take_length]
      simp [s_l1Compose_L1])
  simpa [inn_nil, h0] using this
theorem s_compose_loop (be : List UInt8) (hbe : be.length ≤ 1000) : loopG s_l1Compose_L2 (0, Pb, ((List.length Pb : Nat) : Int), 0, Sb, Sc, Pc, [], be :: List.replicate (Pb.length - 1) []) = some (cmpG be Sb Pb Sc Pc) := by
  refine Ok.eq (Ok.loop (fun y => y.2.1 = Pb ∧ y.2.2.1 = ((List.length Pb : Nat) : Int) ∧ y.2.2.2.2.1 = Sb ∧ y.2.2.2.2.2.1 = Sc ∧ y.2.2.2.2.2.2.1 = Pc ∧ ∃ (t g : Nat) (be2 : List UInt8) (done : List (List UInt8)), y.1 = ((t : Nat) : Int) ∧ y.2.2.2.1 = ((g : Nat) : Int) ∧ g < Pb.length ∧
      be2.length ≤ 1000 ∧ t + rem (Sb.drop g) (Pb.drop g) = Sc.length ∧ y.2.2.2.2.2.2.2.1.length = g ∧ done.length = g ∧ y.2.2.2.2.2.2.2.2 = done ++ be2 :: List.replicate (Pb.length - 1 - g) [] ∧
      (y.2.2.2.2.2.2.2.1 ++ (cmpG be2 (Sb.drop g) (Pb.drop g) (Sc.drop t) (Pc.drop t)).1, done ++ (cmpG be2 (Sb.drop g) (Pb.drop g) (Sc.drop t) (Pc.drop t)).2) = cmpG be Sb Pb Sc Pc) (fun y => (((List.length Pb : Nat) : Int) - y.2.2.2.1).toNat)
    ⟨rfl, rfl, rfl, rfl, rfl, 0, 0, be, [], rfl, rfl, by rw [h.x]; omega, hbe, by have := h.r; simpa using this, rfl, rfl, by simp, by simp⟩ ?_)
  rintro ⟨t', pb, n, g', sb, sc, pc, oS, oP⟩ ⟨e1, e2, e3, e4, e5, t, g, be', done, e6, e7, hg, hbe', hrem, hoS, hdone, hoP, hf⟩
  dsimp only at e1 e2 e3 e4 e5 e6 e7 hbe' hoS hoP hf
  subst e1 e2 e3 e4 e5 e6 e7 hoP
  have hCR := h
  obtain ⟨hx, hy, hr, hn, hm, hpy⟩ := h
  obtain ⟨c1, c2, c3⟩ := cmpG_at hCR hg be' hrem
  unfold s_l1Compose_L2
  dsimp only
  refine Ok.yes (by simpa using hg) ?_
  have r1 : ∀ z : Bool, roomFor (List.length oS + List.length [z]) 1 = true := fun z => room1 (by omega) (by omega)
  have hat : (done ++ be' :: List.replicate (pb.length - 1 - g) ([] : List UInt8))[g]? = some be' := by rw [List.getElem?_append_right (by omega), hdone, Nat.sub_self]; rfl
  have hin := s_compose_inner hCR (g := g) (n := ((List.length pb : Nat) : Int)) (g2 := ((g : Nat) : Int)) (oS := oS) c1 hbe' hat
  have hset : (done ++ be' :: List.replicate (pb.length - 1 - g) ([] : List UInt8)).set g (be' ++ inn (sc.drop t) (pc.drop t) pb[g]) = done ++ (be' ++ inn (sc.drop t) (pc.drop t) pb[g]) :: List.replicate (pb.length - 1 - g) [] := by
    rw [List.set_append_right _ _ (by omega), hdone, Nat.sub_self]; rfl
  rw [hset] at hin
  refine Ok.bind (Q := fun v => match v with
      | .inl y => ∃ t2 be2 oS2 done2, y = (((t2 : Nat) : Int), pb, ((List.length pb : Nat) : Int), ((g : Nat) : Int), sb, sc, pc, oS2, done2 ++ be2 :: List.replicate (pb.length - 1 - (g + 1)) []) ∧ g + 1 < pb.length ∧ List.length be2 ≤ 1000 ∧ t2 + rem (sb.drop (g + 1)) (pb.drop (g + 1)) = sc.length ∧ List.length oS2 = g + 1 ∧ List.length done2 = g + 1 ∧
          (oS2 ++ (cmpG be2 (sb.drop (g + 1)) (pb.drop (g + 1)) (sc.drop t2) (pc.drop t2)).1, done2 ++ (cmpG be2 (sb.drop (g + 1)) (pb.drop (g + 1)) (sc.drop t2) (pc.drop t2)).2) = cmpG be sb pb sc pc
      | .inr z => z = cmpG be sb pb sc pc) ?_ ?_
  · refine Ok.yes (decide_eq_true (by omega)) (Ok.yes (by simpa using hg) (Ok.bind_eq (r := pb[g]) (by simp [List.getElem?_eq_getElem hg]) (Ok.bind_eq hin ?_)))
    dsimp only
    refine Ok.ite (fun hq => ?_) fun hq => ?_
    · have he : g = sb.length := by
        have : ((g : Nat) : Int) = ((List.length sb : Nat) : Int) := by simpa using hq
        omega
      rw [c2 he] at hf
      refine Ok.mk ?_
      rw [← hf, List.append_nil, show pb.length - 1 - g = 0 by omega]; rfl
    · have hks : g < sb.length := by
        have : ¬ ((g : Nat) : Int) = ((List.length sb : Nat) : Int) := by simpa using hq
        omega
      have rep : List.replicate (pb.length - 1 - g) ([] : List UInt8) = [] :: List.replicate (pb.length - 1 - (g + 1)) [] := by rw [show pb.length - 1 - g = (pb.length - 1 - (g + 1)) + 1 by omega, List.replicate_succ]
      refine Ok.yes (decide_eq_true (by omega)) (Ok.yes (by simpa using hks) (Ok.bind_eq (r := sb[g]) (by simp [List.getElem?_eq_getElem hks]) ?_))
      cases hb : sb[g] with
      | false =>
        obtain ⟨k1, k2⟩ := (c3 hks).1 hb
        rw [k2] at hf
        refine Ok.yes (by simp) (Ok.yes (r1 _) (Ok.mk ⟨t + pb[g].length, [], oS ++ [false], done ++ [be' ++ inn (sc.drop t) (pc.drop t) pb[g]], ?_, by omega, by simp, k1, by simp [hoS], by simp [hdone], ?_⟩))
        · rw [rep]; simp
        · rw [← hf]; simp
      | true =>
        obtain ⟨k1, k2, k3, k4⟩ := (c3 hks).2 hb
        rw [k4] at hf
        have e9 : IntKind.wrap .i64 (((t + pb[g].length : Nat) : Int) + 1) = ((t + pb[g].length + 1 : Nat) : Int) := idx_succ (n := sc.length) (by omega) k2
        have e10 : IntKind.wrap .i64 (((g : Nat) : Int) + 1) = ((g + 1 : Nat) : Int) := idx_succ (n := pb.length) (by omega) hg
        have hq2 : (pc[t + pb[g].length + 1]).length ≤ tot pc := tot_mem (List.getElem_mem k3)
        have hlen : (done ++ (be' ++ inn (sc.drop t) (pc.drop t) pb[g]) :: List.replicate (pb.length - 1 - g) ([] : List UInt8)).length = pb.length := by simp; omega
        have hget : (done ++ (be' ++ inn (sc.drop t) (pc.drop t) pb[g]) :: List.replicate (pb.length - 1 - g) ([] : List UInt8))[0 + Int.toNat ((g + 1 : Nat) : Int)]? = some [] := by
          rw [rep, Int.toNat_natCast, Nat.zero_add, List.getElem?_append_right (by omega), hdone, show g + 1 - g = 1 by omega]; rfl
        have hset2 : (done ++ (be' ++ inn (sc.drop t) (pc.drop t) pb[g]) :: List.replicate (pb.length - 1 - g) ([] : List UInt8)).set (0 + Int.toNat ((g + 1 : Nat) : Int)) pc[t + pb[g].length + 1] = (done ++ [be' ++ inn (sc.drop t) (pc.drop t) pb[g]]) ++ pc[t + pb[g].length + 1] :: List.replicate (pb.length - 1 - (g + 1)) [] := by
          rw [rep, Int.toNat_natCast, Nat.zero_add, List.set_append_right _ _ (by omega), hdone, show g + 1 - g = 1 by omega]; simp
        rw [e9, e10]
        refine Ok.no (by simp) (Ok.yes (decide_eq_true (by omega)) (Ok.yes (decide_eq_true (by omega)) (Ok.bind_eq (r := sc[t + pb[g].length]) (by rw [Nat.zero_add, Int.toNat_natCast]; exact List.getElem?_eq_getElem k2) (Ok.yes (r1 _)
          (Ok.yes (decide_eq_true (by omega)) (Ok.yes (decide_eq_true (by omega)) (Ok.bind_eq (r := pc[t + pb[g].length + 1]) (by rw [Nat.zero_add, Int.toNat_natCast]; exact List.getElem?_eq_getElem k3)
            (Ok.yes (decide_eq_true (by omega)) (Ok.yes (decide_eq_true (by rw [hlen]; omega)) (Ok.bind_eq hget (Ok.bind_eq hget (Ok.mk ⟨t + pb[g].length + 1, pc[t + pb[g].length + 1], oS ++ [sc[t + pb[g].length]], done ++ [be' ++ inn (sc.drop t) (pc.drop t) pb[g]], ?_, by omega, by omega, k1, by simp [hoS], by simp [hdone], ?_⟩))))))))))))
        · rw [hset2]
        · rw [← hf]; simp
  rintro (y | z) hv
  · obtain ⟨t2, be2, oS2, done2, rfl, k1, k2, k3, k4, k5, k6⟩ := hv
    dsimp only
    have e9 : IntKind.wrap .i64 (((g : Nat) : Int) + 1) = ((g + 1 : Nat) : Int) := idx_succ (n := pb.length) (by omega) hg
    rw [e9]
    exact Ok.mk ⟨⟨rfl, rfl, rfl, rfl, rfl, t2, g + 1, be2, done2, rfl, rfl, k1, k2, k3, k4, k5, rfl, k6⟩, by dsimp only; omega⟩
  · exact Ok.mk hv
end
end Go.V.G

set_option linter.unusedVariables false
set_option linter.unusedSimpArgs false
set_option maxRecDepth 100000
namespace Go.V.G
open Go.V
theorem comp_len : ∀ (x y : List Atom), nT x = nS y → nS (comp x y) = nS x ∧ nT (comp x y) = nT y := by
  intro x y
  induction x, y using comp.induct with
  | case1 x b y ih => intro h; rw [comp]; have := ih h; simp only [nS, nT]; omega
  | case2 x ih => intro h; rw [comp]; have := ih h; simp only [nS, nT] at this ⊢; omega
  | case3 x y ih => intro h; rw [comp]; have := ih h; simp only [nS, nT] at this ⊢; omega
  | case4 x y ih => intro h; rw [comp]; have := ih h; simp only [nS, nT] at this ⊢; omega
  | case5 b x y ih => intro h; rw [comp]; have := ih (by simpa [nS, nT] using h); simp only [nS, nT]; omega
  | case6 b x y ih => intro h; rw [comp]; have := ih (by simpa [nS, nT] using h); simp only [nS, nT]; omega
  | case7 x y ih => intro h; rw [comp]; have := ih (by simpa [nS, nT] using h); simp only [nS, nT]; omega
  | case8 x y ih => intro h; rw [comp]; have := ih (by simpa [nS, nT] using h); simp only [nS, nT]; omega
  | case9 x y h1 h2 h3 h4 h5 h6 h7 h8 =>
    intro g
    match x, y with
    | x, .ins b :: y => exact absurd rfl (h1 b y)
    | .drop :: x, [] => exact absurd rfl (h2 x rfl)
    | .drop :: x, .keep :: y => exact absurd rfl (h3 x y rfl)
    | .drop :: x, .drop :: y => exact absurd rfl (h4 x y rfl)
    | .ins b :: x, .keep :: y => exact absurd rfl (h5 b x y rfl)
    | .ins b :: x, .drop :: y => exact absurd rfl (h6 b x y rfl)
    | .keep :: x, .keep :: y => exact absurd rfl (h7 x y rfl)
    | .keep :: x, .drop :: y => exact absurd rfl (h8 x y rfl)
    | [], [] => simp [comp, nS, nT]
    | .ins b :: x, [] => simp [nS, nT] at g
    | .keep :: x, [] => simp [nS, nT] at g
    | [], .keep :: y => simp [nS, nT] at g
    | [], .drop :: y => simp [nS, nT] at g
theorem comp_assoc : ∀ (b c : List Atom) (a : List Atom), nT b = nS c → nT a = nS b → comp (comp a b) c = comp a (comp b c) := by
  intro b c
  induction b, c using comp.induct with
  | case1 b d c ih => intro a h g; rw [comp, comp, comp, ih a h g]
  | case2 b ih =>
    intro a h g
    rw [comp.eq_2 b]
    induction a with
    | nil => simp [nS, nT] at g
    | cons u a iha =>
      cases u with
      | ins d => rw [comp, comp]; exact ih a h (by simpa [nS, nT] using g)
      | keep => rw [comp, comp, comp, ih a h (by simpa [nS, nT] using g)]
      | drop => rw [comp, comp, comp, iha (by simpa [nS, nT] using g)]
  | case3 b c ih =>
    intro a h g
    rw [comp.eq_3 b c]
    induction a with
    | nil => simp [nS, nT] at g
    | cons u a iha =>
      cases u with
      | ins d => rw [comp, comp]; exact ih a h (by simpa [nS, nT] using g)
      | keep => rw [comp, comp, comp, ih a h (by simpa [nS, nT] using g)]
      | drop => rw [comp, comp, comp, iha (by simpa [nS, nT] using g)]
  | case4 b c ih =>
    intro a h g
    rw [comp.eq_4 b c]
    induction a with
    | nil => simp [nS, nT] at g
    | cons u a iha =>
      cases u with
      | ins d => rw [comp, comp]; exact ih a h (by simpa [nS, nT] using g)
      | keep => rw [comp, comp, comp, ih a h (by simpa [nS, nT] using g)]
      | drop => rw [comp, comp, comp, iha (by simpa [nS, nT] using g)]
  | case5 d b c ih => intro a h g; rw [comp.eq_5 d b c, comp, comp, comp, ih a (by simpa [nS, nT] using h) g]
  | case6 d b c ih => intro a h g; rw [comp.eq_6 d b c, comp, comp]; exact ih a (by simpa [nS, nT] using h) g
  | case7 b c ih =>
    intro a h g
    rw [comp.eq_7 b c]
    induction a with
    | nil => simp [nS, nT] at g
    | cons u a iha =>
      cases u with
      | ins d => rw [comp, comp, comp, ih a (by simpa [nS, nT] using h) (by simpa [nS, nT] using g)]
      | keep => rw [comp, comp, comp, ih a (by simpa [nS, nT] using h) (by simpa [nS, nT] using g)]
      | drop => rw [comp, comp, comp, iha (by simpa [nS, nT] using g)]
  | case8 b c ih =>
    intro a h g
    rw [comp.eq_8 b c]
    induction a with
    | nil => simp [nS, nT] at g
    | cons u a iha =>
      cases u with
      | ins d => rw [comp, comp, comp]; exact ih a (by simpa [nS, nT] using h) (by simpa [nS, nT] using g)
      | keep => rw [comp, comp, comp, ih a (by simpa [nS, nT] using h) (by simpa [nS, nT] using g)]
      | drop => rw [comp, comp, comp, iha (by simpa [nS, nT] using g)]
  | case9 b c h1 h2 h3 h4 h5 h6 h7 h8 =>
    intro a g gt
    match b, c with
    | b, .ins d :: c => exact absurd rfl (h1 d c)
    | .drop :: b, [] => exact absurd rfl (h2 b rfl)
    | .drop :: b, .keep :: c => exact absurd rfl (h3 b c rfl)
    | .drop :: b, .drop :: c => exact absurd rfl (h4 b c rfl)
    | .ins d :: b, .keep :: c => exact absurd rfl (h5 d b c rfl)
    | .ins d :: b, .drop :: c => exact absurd rfl (h6 d b c rfl)
    | .keep :: b, .keep :: c => exact absurd rfl (h7 b c rfl)
    | .keep :: b, .drop :: c => exact absurd rfl (h8 b c rfl)
    | [], [] =>
      have : comp [] [] = [] := by simp [comp]
      rw [this]
      have key : ∀ a : List Atom, comp (comp a []) [] = comp a [] := by
        intro a
        induction a with
        | nil => simp [comp]
        | cons u a ih =>
          cases u with
          | drop => rw [comp, comp, ih]
          | keep => simp [comp]
          | ins d => simp [comp]
      exact key a
    | .ins d :: b, [] => simp [nS, nT] at g
    | .keep :: b, [] => simp [nS, nT] at g
    | [], .keep :: c => simp [nS, nT] at g
    | [], .drop :: c => simp [nS, nT] at g
end Go.V.G

set_option linter.unusedVariables false
set_option linter.unusedSimpArgs false
set_option maxRecDepth 100000
namespace Go.V.G
open Go.V
theorem cr_good {a b : List Prt} (ha : good a = true) (hb : good b = true) (h : tgt a = src b) : nT (atoms a) = nS (atoms b) ∧ CR (stays (atoms a)) (puts (atoms a)) (stays (atoms b)) (puts (atoms b)) := by
  have sa := okk_some (good_spec ha).1
  have sb := okk_some (good_spec hb).1
  have la := stays_len sa
  have lb := stays_len sb
  have ta := tgt_nT sa
  have tb := tgt_nT sb
  have sb' := src_nS sb
  have := (good_spec ha).2.1
  have := (good_spec hb).2.1
  have := (good_spec hb).2.2
  have hn : nT (atoms a) = nS (atoms b) := by omega
  refine ⟨hn, puts_len _, puts_len _, by rw [rem_nT, hn, nS_stays], by omega, by omega, ?_⟩
  rw [tot_puts]
  rw [nT_eq] at tb
  omega
theorem head_len (l : List Atom) : ((puts l).headD []).length ≤ nIns l := by
  obtain ⟨p, ps, e, _⟩ := puts_cons l
  have := put_le l p (by rw [e]; simp)
  rw [e]; exact this
def composed (a b : List Prt) : List Prt := norm (closeP (stays (comp (atoms a) (atoms b))) (puts (comp (atoms a) (atoms b))))
theorem composed_spec {a b : List Prt} (ha : good a = true) (hb : good b = true) (h : tgt a = src b) :
    good (composed a b) = true ∧ atoms (composed a b) = comp (atoms a) (atoms b) ∧ src (composed a b) = src a ∧ tgt (composed a b) = tgt b := by
  have sa := okk_some (good_spec ha).1
  have sb := okk_some (good_spec hb).1
  obtain ⟨hn, _⟩ := cr_good ha hb h
  obtain ⟨l1, l2⟩ := comp_len _ _ hn
  have hf := closeP_fine (stays (comp (atoms a) (atoms b))) (puts (comp (atoms a) (atoms b)))
  have he := closeP_atoms (comp (atoms a) (atoms b))
  have s1 := src_fine hf
  have t1 := tgt_fine hf
  rw [he] at s1 t1
  have s2 := src_nS sa
  have t2 := tgt_nT sb
  have := (good_spec ha).2.1
  have := (good_spec hb).2.2
  obtain ⟨k1, k2, k3, k4⟩ := norm_spec hf ⟨by omega, by omega⟩
  refine ⟨?_, by rw [← he]; exact k2, ?_, ?_⟩
  · unfold good
    rw [show okk 0 (composed a b) = true from k1, show src (composed a b) = src (closeP _ _) from k3, show tgt (composed a b) = tgt (closeP _ _) from k4]
    simp; omega
  · rw [show src (composed a b) = src (closeP _ _) from k3]; omega
  · rw [show tgt (composed a b) = tgt (closeP _ _) from k4]; omega
theorem pr_good {a b : List Prt} (ha : good a = true) (hb : good b = true) (h : tgt a = src b) : PR (stays (comp (atoms a) (atoms b))) (puts (comp (atoms a) (atoms b))) := by
  have sa := okk_some (good_spec ha).1
  have sb := okk_some (good_spec hb).1
  obtain ⟨hn, _⟩ := cr_good ha hb h
  obtain ⟨l1, l2⟩ := comp_len _ _ hn
  have s2 := src_nS sa
  have t2 := tgt_nT sb
  have := (good_spec ha).2.1
  have := (good_spec hb).2.2
  refine ⟨puts_len _, by rw [← nS_stays]; omega, fun q hq => ?_⟩
  have := put_le _ q hq
  rw [nT_eq] at l2
  omega
def composeOf (a b : List Prt) : List Prt × Bool := if good a = true ∧ good b = true ∧ tgt a = src b then (composed a b, true) else ([], false)
theorem i_compose_eq {a b : List Prt} (ha : good a = true) (hb : good b = true) (h : tgt a = src b) : i_compose a b = some (composed a b) := by
  have sa := okk_some (good_spec ha).1
  have sb := okk_some (good_spec hb).1
  have := (good_spec ha).2.1
  have := (good_spec hb).2.1
  have t2 := tgt_nT sb
  have := (good_spec hb).2.2
  obtain ⟨hn, hCR⟩ := cr_good ha hb h
  have hl := head_len (atoms b)
  rw [nT_eq] at t2
  unfold i_compose
  rw [i_tell_eq (good_sm ha) (by omega) sa (by omega), i_tell_eq (good_sm hb) (by omega) sb (by omega), Option.bind_some, Option.bind_some]
  obtain ⟨q, qs, e, _⟩ := puts_cons (atoms b)
  have hlp := i_compose_loop hCR ((puts (atoms b)).headD []) (by omega)
  rw [cmpG_comp _ _ hn] at hlp
  refine Ok.eq (Ok.yes (by simp) (Ok.yes (by rw [e]; simp) (Ok.bind_eq (r := (puts (atoms b)).headD []) (by rw [e]; rfl) (Ok.bind_eq hlp ?_))))
  refine (i_parts_eq (pr_good ha hb h)).bind ?_
  rintro _ ⟨rfl, _⟩
  exact Ok.mk rfl
theorem s_compose_eq {a b : List Prt} (ha : good a = true) (hb : good b = true) (h : tgt a = src b) : s_l1Compose a b = some (composed a b) := by
  have sa := okk_some (good_spec ha).1
  have sb := okk_some (good_spec hb).1
  have := (good_spec ha).2.1
  have := (good_spec hb).2.1
  have t2 := tgt_nT sb
  have := (good_spec hb).2.2
  obtain ⟨hn, hCR⟩ := cr_good ha hb h
  have hl := head_len (atoms b)
  rw [nT_eq] at t2
  have hx := hCR.x
  have hnn := hCR.n
  unfold s_l1Compose
  rw [s_Open_eq (good_sm ha) (by omega) sa (by omega), s_Open_eq (good_sm hb) (by omega) sb (by omega), Option.bind_some, Option.bind_some]
  obtain ⟨q, qs, e, _⟩ := puts_cons (atoms b)
  have hlp := s_compose_loop hCR ((puts (atoms b)).headD []) (by omega)
  rw [cmpG_comp _ _ hn] at hlp
  have rep : List.replicate (Int.toNat ((List.length (puts (atoms a)) : Nat) : Int)) ([] : List UInt8) = [] :: List.replicate ((puts (atoms a)).length - 1) [] := by
    rw [Int.toNat_natCast, show (puts (atoms a)).length = ((puts (atoms a)).length - 1) + 1 by omega, List.replicate_succ, Nat.add_sub_cancel]
  dsimp only
  rw [rep]
  refine Ok.eq (Ok.yes (by simp) (Ok.yes (by simp) (Ok.yes (by simp [roomFor]; omega) (Ok.yes (by simp) (Ok.yes (by rw [e]; simp) (Ok.bind_eq (r := (puts (atoms b)).headD []) (by rw [e]; rfl) (Ok.yes (by simp) (Ok.yes (by simp) (Ok.bind_eq (r := []) rfl (Ok.bind_eq (r := []) rfl (Ok.bind_eq hlp ?_)))))))))))
  refine (s_close_eq (pr_good ha hb h)).bind ?_
  rintro _ ⟨rfl, _⟩
  exact Ok.mk rfl
theorem i_ComposeChanges_eq {A B : Nat} {a b : List Prt} (ha : Sm A a) (hA : A ≤ 1099511627776) (hb : Sm B b) (hB : B ≤ 1099511627776) : i_ComposeChanges a b = some (composeOf a b) := by
  unfold i_ComposeChanges composeOf
  rw [i_LengthsOf_eq ha hA, Option.bind_some]
  unfold lensOf
  cases ga : good a with
  | false => simp
  | true =>
    simp only [if_true, Bool.not_true, Bool.false_eq_true, if_false, i_fits_eq hb hB, Option.bind_some]
    cases gb : good b with
    | false => simp
    | true =>
      by_cases hs : tgt a = src b
      · simp [hs, i_compose_eq ga gb hs]
      · have hs' : ¬ src b = tgt a := fun h => hs h.symm
        simp [hs, hs']
end Go.V.G

set_option linter.unusedVariables false
set_option linter.unusedSimpArgs false
set_option maxRecDepth 100000
namespace Go.V.G
open Go.V
theorem rowOf_ok {n m : Int} {code : List Int} {a s : Int} (hn : n ≤ 120) (hm : 0 ≤ m ∧ m ≤ 65) (h : At code 100000 a) :
    Ok (s_l1Cur_rowOf_f n m code a s) fun r => ((∀ c ∈ r.1, Sm 853 c) ∧ r.1.length ≤ 65) ∧ To code a 90000 r.2.1 r.2.2.1 := by
  unfold s_l1Cur_rowOf_f
  refine Ok.bind (Q := fun r => ((∀ c ∈ r.1, Sm 853 c) ∧ r.1.length ≤ 65) ∧ To code a 90000 r.2.1 r.2.2.1) ?_ (fun r hr => Ok.mk hr)
  refine Ok.loop (fun y => y.1 ≤ 120 ∧ (0 ≤ y.2.1 ∧ y.2.1 ≤ 65) ∧ (∀ c ∈ y.2.2.1, Sm 853 c) ∧ (y.2.2.1.length : Int) ≤ 65 - y.2.1 ∧ To code a (1234 * (65 - y.2.1)) y.2.2.2.1 y.2.2.2.2.1) (fun y => y.2.1.toNat)
    ⟨hn, hm, fun c hc => (by cases hc), by simp; omega, (To.refl _ _).more (by dsimp only; omega)⟩ ?_
  rintro ⟨n, m, l, c, e, s⟩ ⟨h1, h2, h3, h4, t⟩
  dsimp only at h1 h2 h3 h4 t
  unfold s_l1Cur_rowOf_f_L1
  dsimp only
  refine Ok.ite (fun hc => ?_) fun hc => Ok.mk ⟨⟨h3, by dsimp only; omega⟩, t.more (by omega)⟩
  have hm0 : 0 < m := by simpa using hc
  refine (changeOf_ok 121 (by omega) (by omega) (by omega) (t.at (h.less (by omega)))).bind ?_
  rintro ⟨x, c2, e2, s2⟩ ⟨hx, t2⟩
  dsimp only at hx t2 ⊢
  have t3 := t.trans t2
  have hx' : Sm 853 x := hx.mono (by omega)
  have hl : ∀ c ∈ l ++ [x], Sm 853 c := fun c hc => by
    rcases List.mem_append.1 hc with hc | hc
    · exact h3 c hc
    · rw [List.mem_singleton.1 hc]; exact hx'
  refine Ok.yes (by simp [roomFor]; omega) (Ok.bind_eq (s_Good_eq hx' (by omega)) (Ok.ite (fun _ => Ok.mk ⟨⟨hl, by dsimp only; simp; omega⟩, t3.more (by omega)⟩) fun hg => ?_))
  have hg' : good x = true := by simpa using hg
  obtain ⟨g1, g2, g3⟩ := good_spec hg'
  have em : IntKind.wrap .i64 (m - 1) = m - 1 := w64 (by omega) (by omega)
  refine Ok.bind_eq (s_Target_eq hx' (by omega) (okk_some g1) (by omega)) ?_
  rw [em]
  refine Ok.mk ⟨⟨g3, ⟨by dsimp only; omega, by dsimp only; omega⟩, hl, by dsimp only; simp; omega, t3.more (by dsimp only; omega)⟩, ?_⟩
  dsimp only; omega
theorem drawAll_ok {code : List Int} (hb : Bytes code) : Ok (s_DrawComposeAll code) fun r => (∀ c ∈ r, Sm 853 c) ∧ r.length ≤ 65 := by
  have h : At code 1000000 0 := ⟨hb, by omega, by omega⟩
  unfold s_DrawComposeAll
  refine (pick_ok (h.less (by omega))).bind ?_
  rintro ⟨n, c1, a1, s1⟩ ⟨⟨n0, n1⟩, t1⟩
  dsimp only at n0 n1 t1 ⊢
  refine (one_ok (t1.at (j := 2) (h.less (by omega)))).bind ?_
  rintro ⟨f, c2, a2, s2⟩ t2
  dsimp only at t2 ⊢
  have t2' := t1.trans t2
  refine Ok.bind (Q := fun v => (0 ≤ v.1 ∧ v.1 ≤ 65) ∧ To code 0 10 v.2.1 v.2.2.1) ?_ ?_
  · refine Ok.ite (fun _ => ?_) fun _ => Ok.mk ⟨?_, t2'.more (by omega)⟩
    · refine (among_ok (t2'.at (j := 2) (h.less (by omega))) (by simp)).bind ?_
      rintro ⟨q, c3, a3, s3⟩ ⟨hq, t3⟩
      dsimp only at hq t3 ⊢
      refine Ok.mk ⟨?_, (t2'.trans t3).more (by omega)⟩
      simp at hq
      dsimp only
      omega
    · dsimp only
      rw [w64 (by omega) (by omega)]; omega
  rintro ⟨m, c4, a4, s4⟩ ⟨hm, t4⟩
  dsimp only at hm t4 ⊢
  refine (pick_ok (t4.at (j := 2) (h.less (by omega)))).bind ?_
  rintro ⟨n5, c5, a5, s5⟩ ⟨⟨p0, p1⟩, t5⟩
  dsimp only at p0 p1 t5 ⊢
  have t5' := t4.trans t5
  refine (rowOf_ok (by omega) hm (t5'.at (h.less (by omega)))).bind ?_
  rintro ⟨l, c6, a6, s6⟩ ⟨⟨hl, hn⟩, t6⟩
  dsimp only at hl hn t6 ⊢
  have t6' := t5'.trans t6
  refine Ok.bind (Q := fun v => v.1 = l ∧ (v.2.1 = true → 1 < l.length) ∧ To code 0 100000 v.2.2.1 v.2.2.2.1) ?_ ?_
  · refine (one_ok (t6'.at (j := 2) (h.less (by omega)))).bind ?_
    rintro ⟨f7, c7, a7, s7⟩ t7
    dsimp only at t7 ⊢
    have t7' := t6'.trans t7
    refine Ok.ite (fun _ => Ok.mk ⟨rfl, fun hh => ?_, t7'.more (by omega)⟩) fun _ => Ok.mk ⟨rfl, fun hh => (by cases hh), t7'.more (by omega)⟩
    have := of_decide_eq_true hh
    omega
  rintro ⟨l', f8, c8, a8, s8⟩ ⟨rfl, hf, t8⟩
  dsimp only at hl hn hf t8 ⊢
  refine Ok.bind (Q := fun r => (∀ c ∈ r, Sm 853 c) ∧ r.length ≤ 65) ?_ (fun r hr => Ok.mk hr)
  refine Ok.ite (fun hh => ?_) fun _ => Ok.mk ⟨hl, hn⟩
  have h1 := hf hh
  refine (changeOf_ok 121 (by omega) (by omega) (by omega) (t8.at (h.less (by omega)))).bind ?_
  rintro ⟨x, c9, a9, s9⟩ ⟨hx, t9⟩
  dsimp only at hx t9 ⊢
  have hg : l'[0 + Int.toNat 1]? = some l'[1] := List.getElem?_eq_getElem h1
  refine Ok.yes (by simp) (Ok.yes (by simp; omega) (Ok.bind_eq hg (Ok.bind_eq hg (Ok.mk ⟨fun c hc => ?_, by rw [List.length_set]; exact hn⟩))))
  rcases List.mem_or_eq_of_mem_set hc with hc | rfl
  · exact hl c hc
  · exact hx.mono (by omega)
structure Chain (l : List (List Prt)) : Prop where
  g : ∀ j (h : j < l.length), good l[j] = true
  t : ∀ j (h : j + 1 < l.length), tgt l[j] = src l[j + 1]
theorem s_ComposeAll_ok {l : List (List Prt)} (hl : ∀ c ∈ l, Sm 853 c) (hn : l.length ≤ 65) : Ok (s_ComposeAll l) fun r => r.2 = true → Chain l := by
  unfold s_ComposeAll
  refine Ok.bind_eq (s_In_eq _ _ _) (Ok.ite (fun _ => Ok.mk fun h => by cases h) fun _ => ?_)
  refine Ok.bind (Q := fun v => match v with | .inl _ => Chain l | .inr b => b = false) ?_ ?_
  · refine Ok.loop (fun y => ∃ (i : Nat) (acc : List Prt), i ≤ l.length ∧ y = (acc, l, ((l.length : Nat) : Int), ((i : Nat) : Int)) ∧ (∀ j (h : j < l.length), j < i → good l[j] = true) ∧ (∀ j (h : j + 1 < l.length), j + 1 < i → tgt l[j] = src l[j + 1]) ∧ (i = 0 → acc = []) ∧
      (0 < i → good acc = true ∧ ∀ h : i - 1 < l.length, tgt acc = tgt l[i - 1])) (fun y => (y.2.2.1 - y.2.2.2).toNat) ⟨0, [], by omega, rfl, fun j _ h => by omega, fun j _ h => by omega, fun _ => rfl, fun h => by omega⟩ ?_
    rintro _ ⟨i, acc, hi, rfl, q1, q2, q3, q4⟩
    unfold s_ComposeAll_L1
    dsimp only
    refine Ok.ite (fun hc => ?_) fun hc => Ok.mk ⟨fun j h => q1 j h (by simp at hc; omega), fun j h => q2 j h (by simp at hc; omega)⟩
    have hlt : i < l.length := by simpa using hc
    have hx := hl _ (List.getElem_mem hlt)
    have hxl := hx.len
    have hg : l[Int.toNat ((i : Nat) : Int)]? = some l[i] := by simp [hlt]
    have e1 : IntKind.wrap .i64 (((i : Nat) : Int) + 1) = ((i + 1 : Nat) : Int) := by rw [w64 (by omega) (by omega)]; omega
    refine Ok.bind (Q := fun v => v = .inr false ∨ ∃ acc', v = .inl (acc', l, ((l.length : Nat) : Int), ((i : Nat) : Int)) ∧ good l[i] = true ∧ (0 < i → tgt acc = src l[i]) ∧ good acc' = true ∧ tgt acc' = tgt l[i]) ?_ ?_
    · refine Ok.yes (by simp) (Ok.bind_eq hg ?_)
      refine Ok.bind (Q := fun v => ∃ bad, v = (acc, ((i : Nat) : Int), l, ((l.length : Nat) : Int), ((i : Nat) : Int), bad, l[i]) ∧ (bad = false → good l[i] = true ∧ (0 < i → tgt acc = src l[i]))) ?_ ?_
      · refine Ok.bind_eq (s_Good_eq hx (by omega)) ?_
        refine Ok.ite (fun hb => Ok.mk ⟨true, rfl, fun h => by cases h⟩) fun hb => ?_
        have hgd : good l[i] = true := by simpa using hb
        refine Ok.ite (fun hp => ?_) fun hp => Ok.mk ⟨false, rfl, fun _ => ⟨hgd, fun h => absurd (by simpa using h) hp⟩⟩
        have hi0 : 0 < i := by simpa using hp
        obtain ⟨ga, gt⟩ := q4 hi0
        have t1 := (good_spec ga).2.2
        have t2 := (good_spec hgd).2.1
        exact Ok.bind_eq (s_Target_eq (good_sm ga) (by omega) (okk_some (good_spec ga).1) (by omega)) (Ok.bind_eq (s_Source_eq hx (by omega) (okk_some (good_spec hgd).1) (by omega)) (Ok.mk ⟨_, rfl, fun h => ⟨hgd, fun _ => by simpa using h⟩⟩))
      rintro _ ⟨bad, rfl, hbad⟩
      dsimp only
      refine Ok.ite (fun _ => Ok.mk (.inl rfl)) fun hb => ?_
      obtain ⟨hgd, hts⟩ := hbad (by simpa using hb)
      refine Ok.ite (fun hz => ?_) fun hz => ?_
      · have hi0 : i = 0 := by simpa using hz
        have ea := q3 hi0
        subst ea
        refine Ok.yes (by simp [roomFor]; omega) (Ok.mk (.inr ⟨l[i], by rw [List.nil_append], hgd, hts, hgd, rfl⟩))
      · have hi0 : 0 < i := by
          have : ¬ i = 0 := fun hh => hz (by simp [hh])
          omega
        obtain ⟨ga, gt⟩ := q4 hi0
        have hts' := hts hi0
        obtain ⟨c1, c2, c3, c4⟩ := composed_spec ga hgd hts'
        exact Ok.bind_eq (s_compose_eq ga hgd hts') (Ok.mk (.inr ⟨composed acc l[i], rfl, hgd, hts, c1, c4⟩))
    rintro v (rfl | ⟨acc', rfl, hgd, hts, ga, gt⟩)
    · exact Ok.mk rfl
    · dsimp only
      rw [e1]
      refine Ok.mk ⟨⟨i + 1, acc', by omega, rfl, fun j h hj => ?_, fun j h hj => ?_, fun h => by omega, fun _ => ⟨ga, fun _ => gt⟩⟩, ?_⟩
      · by_cases hji : j = i
        · subst hji; exact hgd
        · exact q1 j h (by omega)
      · by_cases hji : j + 1 = i
        · subst hji
          have h1 := hts (by omega)
          have h2 := (q4 (by omega)).2 (by omega)
          exact h2.symm.trans h1
        · exact q2 j h (by omega)
      · dsimp only; omega
  · rintro (y | b) hv
    · exact Ok.mk fun _ => hv
    · exact Ok.mk fun h => by rw [hv] at h; cases h
theorem three (code : List Int) (hb : Bytes code) : l_FnThree code = some true := by
  unfold l_FnThree
  refine Ok.eq (Ok.ite (fun _ => Ok.mk rfl) fun _ => ?_)
  refine (drawAll_ok hb).bind ?_
  rintro l ⟨hl, hn⟩
  refine (s_ComposeAll_ok hl hn).bind ?_
  rintro ⟨x, f⟩ hf
  dsimp only at hf ⊢
  refine Ok.bind (Q := fun v => v.1 = l ∧ (v.2 = false → Chain l ∧ 3 ≤ l.length)) ?_ ?_
  · refine Ok.ite (fun _ => Ok.mk ⟨rfl, fun h => by cases h⟩) fun hff => Ok.mk ⟨rfl, fun h => ⟨hf (by simpa using hff), ?_⟩⟩
    have := of_decide_eq_false h
    omega
  rintro ⟨l', f'⟩ ⟨rfl, hc⟩
  dsimp only at hc ⊢
  refine Ok.ite (fun _ => Ok.mk rfl) fun hff => ?_
  obtain ⟨ch, h3⟩ := hc (by simpa using hff)
  have h0 : l'[0 + Int.toNat 0]? = some l'[0] := List.getElem?_eq_getElem (by omega)
  have h1 : l'[0 + Int.toNat 1]? = some l'[1] := List.getElem?_eq_getElem (by omega)
  have h2 : l'[0 + Int.toNat 2]? = some l'[2] := List.getElem?_eq_getElem (by omega)
  have g0 := ch.g 0 (by omega)
  have g1 := ch.g 1 (by omega)
  have g2 := ch.g 2 (by omega)
  have t0 := ch.t 0 (by omega)
  have t1 := ch.t 1 (by omega)
  generalize l'[0] = a at *
  generalize l'[1] = b at *
  generalize l'[2] = c at *
  have lt0 : decide ((0 : Int) < ((List.length l' : Nat) : Int)) = true := by simp; omega
  have lt1 : decide ((1 : Int) < ((List.length l' : Nat) : Int)) = true := by simp; omega
  have lt2 : decide ((2 : Int) < ((List.length l' : Nat) : Int)) = true := by simp; omega
  obtain ⟨b1, b2, b3, b4⟩ := composed_spec g1 g2 t1
  obtain ⟨a1, a2, a3, a4⟩ := composed_spec g0 g1 t0
  have s1 : tgt a = src (composed b c) := by omega
  have s2 : tgt (composed a b) = src c := by omega
  have e1 : i_ComposeChanges b c = some (composed b c, true) := by rw [i_ComposeChanges_eq (good_sm g1) (by omega) (good_sm g2) (by omega)]; simp [composeOf, g1, g2, t1]
  have e2 : i_ComposeChanges a (composed b c) = some (composed a (composed b c), true) := by rw [i_ComposeChanges_eq (good_sm g0) (by omega) (good_sm b1) (by omega)]; simp [composeOf, g0, b1, s1]
  have e3 : i_ComposeChanges a b = some (composed a b, true) := by rw [i_ComposeChanges_eq (good_sm g0) (by omega) (good_sm g1) (by omega)]; simp [composeOf, g0, g1, t0]
  have e4 : i_ComposeChanges (composed a b) c = some (composed (composed a b) c, true) := by rw [i_ComposeChanges_eq (good_sm a1) (by omega) (good_sm g2) (by omega)]; simp [composeOf, a1, g2, s2]
  obtain ⟨p1, p2, _⟩ := composed_spec g0 b1 s1
  obtain ⟨r1, r2, _⟩ := composed_spec a1 g2 s2
  have eq : composed a (composed b c) = composed (composed a b) c := by
    refine norm_unique (good_spec p1).1 (good_spec r1).1 ?_
    rw [p2, r2, a2, b2]
    exact (comp_assoc _ _ _ (cr_good g1 g2 t1).1 (cr_good g0 g1 t0).1).symm
  have hs := sameParts_self (c := composed (composed a b) c) (by have := (good_sm r1).len; omega)
  simp only [h0, h1, h2, lt0, lt1, lt2, e1, e2, e3, e4, eq, hs, Option.bind_some, if_true, show decide ((0 : Int) ≤ 0) = true from rfl, show decide ((0 : Int) ≤ 1) = true from rfl, show decide ((0 : Int) ≤ 2) = true from rfl]
  exact Ok.mk rfl
theorem bytes_of3 {x : List Int} (g : Fits (.sl false 5 (.int .u8)) x) : Bytes x := fun v hv => by
  have h2 : (Lit.int .u8 v).wf = true := g.2 v hv
  simp [Lit.wf, IntKind.min, IntKind.max, IntKind.bits, IntKind.signed] at h2
  omega
end Go.V.G
namespace Go.Proofs.Ytcfbfpipfalieaa
open Go.V
theorem pure_FnThree (x0 : List Int) (g0 : Fits (.sl false 5 (.int .u8)) x0) : G.l_FnThree x0 = some true := G.three x0 (G.bytes_of3 g0)
end Go.Proofs.Ytcfbfpipfalieaa
