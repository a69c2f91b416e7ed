import Derived.Test.YtcfbfpipfalieaaQPaC
set_option linter.unusedVariables false
set_option linter.unusedSimpArgs false
set_option maxRecDepth 100000
namespace Go.V.G
open Go.V
def tot (P : List (List UInt8)) : Nat := (P.map List.length).sum
theorem tot_cons (p : List UInt8) (P : List (List UInt8)) : tot (p :: P) = p.length + tot P := by simp [tot]
theorem tot_drop (P : List (List UInt8)) : ∀ n, tot (P.drop n) ≤ tot P := by
  induction P with
  | nil => intro n; simp [tot]
  | cons p P ih =>
    intro n
    cases n with
    | zero => simp
    | succ n => rw [List.drop_succ_cons, tot_cons]; have := ih n; omega
theorem tot_mem : ∀ {P : List (List UInt8)} {p : List UInt8}, p ∈ P → p.length ≤ tot P
  | q :: P, p, h => by
    rw [tot_cons]
    rcases List.mem_cons.1 h with rfl | h
    · omega
    · have := tot_mem h; omega
def nTrue : List Bool → Nat
  | [] => 0
  | b :: l => (if b = true then 1 else 0) + nTrue l
def rem (S : List Bool) (P : List (List UInt8)) : Nat := tot P + nTrue S
theorem tot_puts : ∀ l : List Atom, tot (puts l) = nIns l
  | [] => rfl
  | .ins b :: l => by
    obtain ⟨p, ps, e, _⟩ := puts_cons l
    have ih := tot_puts l
    show tot (consHead b (puts l)) = nIns l + 1
    rw [e] at ih ⊢
    simp only [consHead, tot_cons, List.length_cons] at ih ⊢; omega
  | .keep :: l => by show tot ([] :: puts l) = nIns l; rw [tot_cons, tot_puts l]; simp
  | .drop :: l => by show tot ([] :: puts l) = nIns l; rw [tot_cons, tot_puts l]; simp
theorem nTrue_stays : ∀ l : List Atom, nTrue (stays l) = nK l
  | [] => rfl
  | .ins _ :: l => nTrue_stays l
  | .keep :: l => by show 1 + nTrue (stays l) = nK l + 1; rw [nTrue_stays l]; omega
  | .drop :: l => by show 0 + nTrue (stays l) = nK l; rw [nTrue_stays l]; omega
theorem rem_nT (l : List Atom) : rem (stays l) (puts l) = nT l := by rw [rem, tot_puts, nTrue_stays, nT_eq]
theorem inn_len : ∀ (Sc : List Bool) (Pc : List (List UInt8)) (s : List UInt8), (inn Sc Pc s).length ≤ s.length + tot Pc.tail
  | [], _, s => by simp [inn]
  | _ :: _, [], s => by simp [inn]
  | _ :: _, [_], s => by simp [inn]
  | _ :: _, _ :: _ :: _, [] => by rw [inn_nil]; simp
  | sc :: Sc, r :: q :: Pc, b :: s => by
    have ih := inn_len Sc (q :: Pc) s
    rw [inn_cons]
    simp only [List.length_append, List.length_cons, List.tail_cons, tot_cons] at ih ⊢
    split <;> simp <;> omega
theorem inn_snoc : ∀ (s : List UInt8) (Sc : List Bool) (Pc : List (List UInt8)) (b : UInt8) (h1 : s.length < Sc.length) (h2 : Pc.length = Sc.length + 1),
    inn Sc Pc (s ++ [b]) = inn Sc Pc s ++ ((if Sc[s.length] = true then [b] else []) ++ Pc[s.length + 1]'(by omega))
  | [], sc :: Sc, r :: q :: Pc, b, h1, h2 => by simp [inn_cons, inn_nil]
  | [], sc :: Sc, [], b, h1, h2 => by simp at h2
  | [], sc :: Sc, [_], b, h1, h2 => by simp at h2
  | [], [], _, b, h1, h2 => by simp at h1
  | a :: s, [], _, b, h1, h2 => by simp at h1
  | a :: s, sc :: Sc, [], b, h1, h2 => by simp at h2
  | a :: s, sc :: Sc, [_], b, h1, h2 => by simp at h2
  | a :: s, sc :: Sc, r :: q :: Pc, b, h1, h2 => by
    have ih := inn_snoc s Sc (q :: Pc) b (by simpa using h1) (by simpa using h2)
    rw [List.cons_append, inn_cons, inn_cons, ih]
    simp [List.append_assoc]
structure CR (Sb : List Bool) (Pb : List (List UInt8)) (Sc : List Bool) (Pc : List (List UInt8)) : Prop where
  x : Pb.length = Sb.length + 1
  y : Pc.length = Sc.length + 1
  r : rem Sb Pb = Sc.length
  n : Sb.length ≤ 1000
  m : Sc.length ≤ 1000
  py : tot Pc ≤ 1000
theorem rem_drop {S : List Bool} {P : List (List UInt8)} (h : P.length = S.length + 1) {g : Nat} (hg : g < P.length) : rem (S.drop g) (P.drop g) = P[g].length + (if h : g < S.length then (if S[g] = true then 1 else 0) else 0) + rem (S.drop (g + 1)) (P.drop (g + 1)) := by
  rw [List.drop_eq_getElem_cons hg]
  by_cases hs : g < S.length
  · rw [List.drop_eq_getElem_cons hs, dif_pos hs]
    simp only [rem, tot_cons, nTrue]; omega
  · rw [dif_neg hs, List.drop_eq_nil_of_le (show S.length ≤ g by omega), List.drop_eq_nil_of_le (show S.length ≤ g + 1 by omega)]
    simp only [rem, tot_cons, nTrue]; omega
section
variable {Sb : List Bool} {Pb : List (List UInt8)} {Sc : List Bool} {Pc : List (List UInt8)} (h : CR Sb Pb Sc Pc)
include h
theorem i_compose_inner {t : Nat} {g n g2 : Int} {s text : List UInt8} {oS : List Bool} {oP : List (List UInt8)} (hs : t + s.length ≤ Sc.length) (ht : text.length ≤ 1000) :
    loopG i_compose_L1 (((t : Nat) : Int), g, s, text, Pb, n, g2, ((List.length s : Nat) : Int), 0, Sb, Sc, Pc, oS, oP) =
      some (((t + s.length : Nat) : Int), g, text ++ inn (Sc.drop t) (Pc.drop t) s, Pb, n, g2, Sb, Sc, Pc, oS, oP) := by
  obtain ⟨hx, hy, hr, hn, hm, hpy⟩ := h
  have := loop_run i_compose_L1 (fun i => (((t + i : Nat) : Int), g, s, text ++ inn (Sc.drop t) (Pc.drop t) (s.take i), Pb, n, g2, ((List.length s : Nat) : Int), ((i : Nat) : Int), Sb, Sc, Pc, oS, oP)) s.length
    (((t + s.length : Nat) : Int), g, text ++ inn (Sc.drop t) (Pc.drop t) s, Pb, n, g2, Sb, Sc, Pc, oS, oP) (by
      intro i hi
      have hti : t + i < Sc.length := by omega
      have htp : t + i + 1 < Pc.length := by omega
      have hl : (s.take i).length = i := by rw [List.length_take]; omega
      have sn := inn_snoc (s.take i) (Sc.drop t) (Pc.drop t) s[i] (by rw [hl, List.length_drop]; omega) (by rw [List.length_drop, List.length_drop]; omega)
      rw [← List.take_succ_eq_append_getElem hi] at sn
      simp only [hl, List.getElem_drop] at sn
      have il := inn_len (Sc.drop t) (Pc.drop t) (s.take i)
      have tl : tot (Pc.drop t).tail ≤ tot Pc := by rw [List.tail_drop]; exact tot_drop _ _
      have pq : (Pc[t + i + 1]).length ≤ tot Pc := tot_mem (List.getElem_mem htp)
      have e1 : IntKind.wrap .i64 (((i : Nat) : Int) + 1) = ((i + 1 : Nat) : Int) := idx_succ (n := s.length) (by omega) hi
      have e2 : IntKind.wrap .i64 (((t + i : Nat) : Int) + 1) = ((t + i + 1 : Nat) : Int) := idx_succ (n := Sc.length) (by omega) hti
      have g0 : (0 : Int) ≤ ((t + i : Nat) : Int) := by omega
      have g1 : ((t + i : Nat) : Int) < ((List.length Sc : Nat) : Int) := by omega
      have g2' : (0 : Int) ≤ ((i : Nat) : Int) := by omega
      have g3 : ((i : Nat) : Int) ≤ ((i + 1 : Nat) : Int) := by omega
      have g4 : ((i + 1 : Nat) : Int) ≤ ((List.length s : Nat) : Int) := by omega
      have g5 : ((i : Nat) : Int) < ((List.length s : Nat) : Int) := by omega
      have g6 : ((t + i + 1 : Nat) : Int) < ((List.length Pc : Nat) : Int) := by omega
      have g7 : (0 : Int) ≤ ((t + i + 1 : Nat) : Int) := by omega
      have cut : (s.drop i).take (i + 1 - i) = [s[i]] := by rw [show i + 1 - i = 1 by omega, List.drop_eq_getElem_cons hi]; rfl
      have b1 : List.length (text ++ inn (Sc.drop t) (Pc.drop t) (s.take i)) + List.length [s[i]] ≤ 9223372036854775807 := by rw [List.length_append]; simp only [List.length_singleton]; omega
      have b2 : ∀ z : List UInt8, z.length ≤ 1 → List.length (text ++ inn (Sc.drop t) (Pc.drop t) (s.take i) ++ z) + List.length (Pc[t + i + 1]) ≤ 9223372036854775807 := fun z hz => by rw [List.length_append, List.length_append]; omega
      unfold i_compose_L1
      simp only [g0, g1, g2', g3, g4, g5, e1, e2, decide_true, if_true, Int.toNat_natCast, Nat.zero_add, List.getElem?_eq_getElem hti, Option.bind_some, Int.le_refl, cut, b1]
      cases hb : Sc[t + i] with
      | true =>
        rw [hb, if_pos rfl] at sn
        have b3 := b2 [s[i]] (by simp)
        simp only [if_true, Option.bind_some, e1, e2, g6, g7, decide_true, Int.toNat_natCast, List.getElem?_eq_getElem htp, b3]
        simp only [sn, List.append_assoc, Nat.add_assoc]
      | false =>
        rw [hb, if_neg (by simp)] at sn
        have b3 := b2 [] (by simp)
        rw [List.append_nil] at b3
        simp only [Bool.false_eq_true, if_false, Option.bind_some, e1, e2, g6, g7, decide_true, if_true, Int.toNat_natCast, List.getElem?_eq_getElem htp, b3]
        simp only [sn, List.append_assoc, Nat.add_assoc, List.nil_append]) (by
      simp only [List.take_length]
      simp [i_compose_L1])
  simpa [inn_nil] using this
theorem cmpG_at {g t : Nat} (hg : g < Pb.length) (be : List UInt8) (ht : t + rem (Sb.drop g) (Pb.drop g) = Sc.length) :
    t + Pb[g].length ≤ Sc.length ∧ (g = Sb.length → cmpG be (Sb.drop g) (Pb.drop g) (Sc.drop t) (Pc.drop t) = ([], [be ++ inn (Sc.drop t) (Pc.drop t) Pb[g]])) ∧
    ∀ h1 : g < Sb.length, (Sb[g] = false → t + Pb[g].length + rem (Sb.drop (g + 1)) (Pb.drop (g + 1)) = Sc.length ∧ cmpG be (Sb.drop g) (Pb.drop g) (Sc.drop t) (Pc.drop t) =
        (false :: (cmpG [] (Sb.drop (g + 1)) (Pb.drop (g + 1)) (Sc.drop (t + Pb[g].length)) (Pc.drop (t + Pb[g].length))).1, (be ++ inn (Sc.drop t) (Pc.drop t) Pb[g]) :: (cmpG [] (Sb.drop (g + 1)) (Pb.drop (g + 1)) (Sc.drop (t + Pb[g].length)) (Pc.drop (t + Pb[g].length))).2)) ∧
      (Sb[g] = true → t + Pb[g].length + 1 + rem (Sb.drop (g + 1)) (Pb.drop (g + 1)) = Sc.length ∧ ∃ (h2 : t + Pb[g].length < Sc.length) (h3 : t + Pb[g].length + 1 < Pc.length), cmpG be (Sb.drop g) (Pb.drop g) (Sc.drop t) (Pc.drop t) =
        (Sc[t + Pb[g].length] :: (cmpG Pc[t + Pb[g].length + 1] (Sb.drop (g + 1)) (Pb.drop (g + 1)) (Sc.drop (t + Pb[g].length + 1)) (Pc.drop (t + Pb[g].length + 1))).1,
          (be ++ inn (Sc.drop t) (Pc.drop t) Pb[g]) :: (cmpG Pc[t + Pb[g].length + 1] (Sb.drop (g + 1)) (Pb.drop (g + 1)) (Sc.drop (t + Pb[g].length + 1)) (Pc.drop (t + Pb[g].length + 1))).2)) := by
  obtain ⟨hx, hy, hr, hn, hm, hpy⟩ := h
  have rd := rem_drop hx hg
  rw [rd] at ht
  refine ⟨by omega, fun he => ?_, fun h1 => ⟨fun hb => ⟨?_, ?_⟩, fun hb => ⟨?_, ?_⟩⟩⟩
  · subst he
    rw [List.drop_length, List.drop_eq_getElem_cons hg]
    simp [cmpG]
  · simp only [h1, hb, Bool.false_eq_true, if_false, dif_pos] at ht; omega
  · rw [List.drop_eq_getElem_cons hg, List.drop_eq_getElem_cons h1, hb]
    simp only [cmpG, Bool.false_eq_true, if_false, List.drop_drop]
  · simp only [h1, hb, if_true, dif_pos] at ht; omega
  · simp only [h1, hb, if_true, dif_pos] at ht
    have h2 : t + Pb[g].length < Sc.length := by omega
    have h3 : t + Pb[g].length + 1 < Pc.length := by omega
    refine ⟨h2, h3, ?_⟩
    rw [List.drop_eq_getElem_cons hg, List.drop_eq_getElem_cons h1, hb]
    simp only [cmpG, if_true, List.drop_drop]
    have e1 : (Sc.drop (t + Pb[g].length)).getD 0 false = Sc[t + Pb[g].length] := by rw [List.drop_eq_getElem_cons h2]; rfl
    have e2 : (Pc.drop (t + Pb[g].length)).getD 1 [] = Pc[t + Pb[g].length + 1] := by
      rw [List.drop_eq_getElem_cons (by omega), List.drop_eq_getElem_cons h3]; rfl
    rw [e1, e2]
theorem i_compose_loop (be : List UInt8) (hbe : be.length ≤ 1000) : loopG i_compose_L2 (0, be, Pb, ((List.length Pb : Nat) : Int), 0, Sb, Sc, Pc, [], []) = some (cmpG be Sb Pb Sc Pc) := by
  refine Ok.eq (Ok.loop (fun y => y.2.2.1 = Pb ∧ y.2.2.2.1 = ((List.length Pb : Nat) : Int) ∧ y.2.2.2.2.2.1 = Sb ∧ y.2.2.2.2.2.2.1 = Sc ∧ y.2.2.2.2.2.2.2.1 = Pc ∧ ∃ t g : Nat, y.1 = ((t : Nat) : Int) ∧ y.2.2.2.2.1 = ((g : Nat) : Int) ∧ g < Pb.length ∧
      y.2.1.length ≤ 1000 ∧ t + rem (Sb.drop g) (Pb.drop g) = Sc.length ∧ y.2.2.2.2.2.2.2.2.1.length = g ∧ y.2.2.2.2.2.2.2.2.2.length = g ∧
      (y.2.2.2.2.2.2.2.2.1 ++ (cmpG y.2.1 (Sb.drop g) (Pb.drop g) (Sc.drop t) (Pc.drop t)).1, y.2.2.2.2.2.2.2.2.2 ++ (cmpG y.2.1 (Sb.drop g) (Pb.drop g) (Sc.drop t) (Pc.drop t)).2) = cmpG be Sb Pb Sc Pc) (fun y => (((List.length Pb : Nat) : Int) - y.2.2.2.2.1).toNat)
    ⟨rfl, rfl, rfl, rfl, rfl, 0, 0, rfl, rfl, by rw [h.x]; omega, hbe, by have := h.r; simpa using this, rfl, rfl, by simp⟩ ?_)
  rintro ⟨t', be', pb, n, g', sb, sc, pc, oS, oP⟩ ⟨e1, e2, e3, e4, e5, t, g, e6, e7, hg, hbe', hrem, hoS, hoP, hf⟩
  dsimp only at e1 e2 e3 e4 e5 e6 e7 hbe' hoS hoP hf
  subst e1 e2 e3 e4 e5 e6 e7
  have hCR := h
  obtain ⟨hx, hy, hr, hn, hm, hpy⟩ := h
  obtain ⟨c1, c2, c3⟩ := cmpG_at hCR hg be' hrem
  unfold i_compose_L2
  dsimp only
  refine Ok.yes (by simpa using hg) ?_
  have r16 : ∀ z : List UInt8, roomFor (List.length oP + List.length [z]) 16 = true := fun z => room1 (by omega) (by omega)
  have r1 : ∀ z : Bool, roomFor (List.length oS + List.length [z]) 1 = true := fun z => room1 (by omega) (by omega)
  have hin := i_compose_inner hCR (g := ((g : Nat) : Int)) (n := ((List.length pb : Nat) : Int)) (g2 := ((g : Nat) : Int)) (text := be') (oS := oS) (oP := oP) c1 hbe'
  refine Ok.bind (Q := fun v => match v with
      | .inl y => ∃ t2 be2 oS2 oP2, y = (((t2 : Nat) : Int), be2, pb, ((List.length pb : Nat) : Int), ((g : Nat) : Int), sb, sc, pc, oS2, oP2) ∧ g + 1 < pb.length ∧ List.length be2 ≤ 1000 ∧ t2 + rem (sb.drop (g + 1)) (pb.drop (g + 1)) = sc.length ∧ List.length oS2 = g + 1 ∧ List.length oP2 = g + 1 ∧
          (oS2 ++ (cmpG be2 (sb.drop (g + 1)) (pb.drop (g + 1)) (sc.drop t2) (pc.drop t2)).1, oP2 ++ (cmpG be2 (sb.drop (g + 1)) (pb.drop (g + 1)) (sc.drop t2) (pc.drop t2)).2) = cmpG be sb pb sc pc
      | .inr z => z = cmpG be sb pb sc pc) ?_ ?_
  · refine Ok.yes (by simp) (Ok.yes (by simpa using hg) (Ok.bind_eq (r := pb[g]) (by simp [List.getElem?_eq_getElem hg]) (Ok.bind_eq hin (Ok.yes (r16 _) ?_))))
    dsimp only
    refine Ok.ite (fun hq => ?_) fun hq => ?_
    · have he : g = sb.length := by
        have : ((g : Nat) : Int) = ((List.length sb : Nat) : Int) := by simpa using hq
        omega
      rw [c2 he] at hf
      exact Ok.mk (by rw [← hf, List.append_nil])
    · have hks : g < sb.length := by
        have : ¬ ((g : Nat) : Int) = ((List.length sb : Nat) : Int) := by simpa using hq
        omega
      refine Ok.yes (by simp) (Ok.yes (by simpa using hks) (Ok.bind_eq (r := sb[g]) (by simp [List.getElem?_eq_getElem hks]) ?_))
      cases hb : sb[g] with
      | false =>
        obtain ⟨k1, k2⟩ := (c3 hks).1 hb
        rw [k2] at hf
        refine Ok.yes (by simp) (Ok.yes (r1 _) (Ok.mk ⟨_, _, _, _, rfl, by omega, by simp, k1, by simp [hoS], by simp [hoP], ?_⟩))
        rw [← hf]; simp
      | true =>
        obtain ⟨k1, k2, k3, k4⟩ := (c3 hks).2 hb
        rw [k4] at hf
        have e9 : IntKind.wrap .i64 (((t + pb[g].length : Nat) : Int) + 1) = ((t + pb[g].length + 1 : Nat) : Int) := idx_succ (n := sc.length) (by omega) k2
        have hq2 : (pc[t + pb[g].length + 1]).length ≤ tot pc := tot_mem (List.getElem_mem k3)
        rw [e9]
        refine Ok.no (by simp) (Ok.yes (decide_eq_true (by omega)) (Ok.yes (decide_eq_true (by omega)) (Ok.bind_eq (r := sc[t + pb[g].length]) (by rw [Nat.zero_add, Int.toNat_natCast]; exact List.getElem?_eq_getElem k2) (Ok.yes (r1 _)
          (Ok.yes (decide_eq_true (by omega)) (Ok.yes (decide_eq_true (by omega)) (Ok.bind_eq (r := pc[t + pb[g].length + 1]) (by rw [Nat.zero_add, Int.toNat_natCast]; exact List.getElem?_eq_getElem k3) (Ok.mk ⟨_, _, _, _, rfl, by omega, by omega, k1, by simp [hoS], by simp [hoP], ?_⟩))))))))
        rw [← hf]; simp
  rintro (y | z) hv
  · obtain ⟨t2, be2, oS2, oP2, rfl, k1, k2, k3, k4, k5, k6⟩ := hv
    dsimp only
    have e9 : IntKind.wrap .i64 (((g : Nat) : Int) + 1) = ((g + 1 : Nat) : Int) := idx_succ (n := pb.length) (by omega) hg
    rw [e9]
    exact Ok.mk ⟨⟨rfl, rfl, rfl, rfl, rfl, t2, g + 1, rfl, rfl, k1, k2, k3, k4, k5, k6⟩, by dsimp only; omega⟩
  · exact Ok.mk hv
end
end Go.V.G

set_option linter.unusedVariables false
set_option linter.unusedSimpArgs false
set_option maxRecDepth 100000
namespace Go.V.G
open Go.V
def stP (S : List Bool) (k : Nat) : List Prt := match S[k]? with
  | some true => [(1, 0, [])]
  | some false => [(0, 1, [])]
  | none => []
theorem closeP_step {S : List Bool} {P : List (List UInt8)} (h : P.length = S.length + 1) {k : Nat} (hk : k < P.length) : closeP (S.drop k) (P.drop k) = (0, 0, P[k]) :: (stP S k ++ closeP (S.drop (k + 1)) (P.drop (k + 1))) := by
  rw [List.drop_eq_getElem_cons hk]
  by_cases hs : k < S.length
  · rw [List.drop_eq_getElem_cons hs]
    simp only [closeP, stP, List.getElem?_eq_getElem hs]
    cases S[k] <;> rfl
  · rw [List.drop_eq_nil_of_le (show S.length ≤ k by omega), List.drop_eq_nil_of_le (show S.length ≤ k + 1 by omega), List.drop_eq_nil_of_le (show P.length ≤ k + 1 by omega)]
    simp [closeP, stP, List.getElem?_eq_none (show S.length ≤ k by omega)]
structure PR (S : List Bool) (P : List (List UInt8)) : Prop where
  x : P.length = S.length + 1
  n : S.length ≤ 1000
  p : ∀ q ∈ P, q.length ≤ 1000
theorem addp_zero (l : List Prt) : addp l (0, 0, []) = l := by simp [addp]
theorem i_parts_eq {S : List Bool} {P : List (List UInt8)} (h : PR S P) : Ok (i_told_parts S P) fun z => z = norm (closeP S P) ∧ Sm 4004004 z := by
  unfold i_told_parts
  refine Ok.bind (Q := fun z => z = norm (closeP S P) ∧ Sm 4004004 z) ?_ (fun z hz => Ok.mk hz)
  refine Ok.loop (fun y => y.1 = P ∧ y.2.1 = ((List.length P : Nat) : Int) ∧ y.2.2.2.1 = S ∧ ∃ k : Nat, y.2.2.1 = ((k : Nat) : Int) ∧ k ≤ P.length ∧ Sm (k * 4000) y.2.2.2.2.2 ∧ (closeP (S.drop k) (P.drop k)).foldl addp y.2.2.2.2.2 = norm (closeP S P)) (fun y => (((List.length P : Nat) : Int) - y.2.2.1).toNat)
    ⟨rfl, rfl, rfl, 0, rfl, Nat.zero_le _, Sm.nil _, rfl⟩ ?_
  rintro ⟨p1, n, k', s, p2, o⟩ ⟨e1, e2, e3, k, e4, hk, ho, hf⟩
  dsimp only at e1 e2 e3 e4 ho hf
  subst e1 e2 e3 e4
  obtain ⟨hx, hn, hp⟩ := h
  have z := one_I.2
  unfold i_told_parts_L1
  dsimp only
  refine Ok.ite (fun hc => ?_) fun hc => ?_
  · have hlt : k < p1.length := by simpa using hc
    have lp := hp _ (List.getElem_mem hlt)
    rw [closeP_step hx hlt, List.foldl_cons, List.foldl_append] at hf
    refine Ok.yes (by simp) (Ok.bind_eq (r := p1[k]) (by simp [List.getElem?_eq_getElem hlt]) ?_)
    refine Ok.bind (Q := fun v => v = (((k : Nat) : Int), p1, ((List.length p1 : Nat) : Int), ((k : Nat) : Int), s, p2, addp o (0, 0, p1[k]))) ?_ ?_
    · refine Ok.ite (fun hq => Ok.bind_eq (i_add_eq ho (by omega) 0 0 _ (by omega)) (Ok.mk rfl)) fun hq => Ok.mk ?_
      have : p1[k] = [] := by simpa using hq
      rw [this, addp_zero]
    rintro _ rfl
    dsimp only
    have so : Sm (k * 4000 + 1000) (addp o (0, 0, p1[k])) := addp_sm ho ⟨z, z⟩ (by omega) (by dsimp only; omega)
    refine Ok.bind (Q := fun v => v = (p1, ((List.length p1 : Nat) : Int), ((k : Nat) : Int), s, p2, (stP s k).foldl addp (addp o (0, 0, p1[k])))) ?_ ?_
    · refine Ok.ite (fun hq => Ok.mk ?_) fun hq => ?_
      · have : k = s.length := by
          have : ((k : Nat) : Int) = ((List.length s : Nat) : Int) := by simpa using hq
          omega
        simp [stP, this]
      · have hks : k < s.length := by
          have : ¬ ((k : Nat) : Int) = ((List.length s : Nat) : Int) := by simpa using hq
          omega
        refine Ok.yes (by simp) (Ok.bind_eq (r := s[k]) (by simp [List.getElem?_eq_getElem hks]) ?_)
        refine Ok.bind (Q := fun v => v = (p1, ((List.length p1 : Nat) : Int), ((k : Nat) : Int), s, p2, (stP s k).foldl addp (addp o (0, 0, p1[k])))) ?_ (fun v hv => Ok.mk hv)
        simp only [stP, List.getElem?_eq_getElem hks]
        cases s[k] with
        | true => exact Ok.yes rfl (Ok.bind_eq (i_add_eq so (by omega) 1 0 [] (by simp)) (Ok.mk rfl))
        | false => exact Ok.no (by simp) (Ok.bind_eq (i_add_eq so (by omega) 0 1 [] (by simp)) (Ok.mk rfl))
    rintro _ rfl
    dsimp only
    have so4 : Sm ((k + 1) * 4000) ((stP s k).foldl addp (addp o (0, 0, p1[k]))) := by
      unfold stP
      split
      · exact addp_sm (p := (1, 0, [])) (C := (k + 1) * 4000) so ⟨one_I.1, z⟩ (by omega) (by simp; omega)
      · exact addp_sm (p := (0, 1, [])) (C := (k + 1) * 4000) so ⟨z, one_I.1⟩ (by omega) (by simp; omega)
      · exact so.mono (by omega)
    exact Ok.mk ⟨⟨rfl, rfl, rfl, k + 1, idx_succ (n := p1.length) (by omega) hlt, by omega, so4, hf⟩, by rw [idx_succ (n := p1.length) (by omega) hlt]; dsimp only; omega⟩
  · have : k = p1.length := by
      have : ¬ ((k : Int) < ((List.length p1 : Nat) : Int)) := by simpa using hc
      omega
    subst this
    refine Ok.mk ⟨?_, ho.mono (by omega)⟩
    rw [← hf, List.drop_length, List.drop_eq_nil_of_le (show s.length ≤ p1.length by omega)]; rfl
theorem s_close_eq {S : List Bool} {P : List (List UInt8)} (h : PR S P) : Ok (s_l1Close S P) fun z => z = norm (closeP S P) ∧ Sm 4004004 z := by
  unfold s_l1Close
  refine Ok.bind (Q := fun z => z = norm (closeP S P) ∧ Sm 4004004 z) ?_ (fun z hz => Ok.mk hz)
  refine Ok.loop (fun y => y.2.1 = P ∧ y.2.2.1 = ((List.length P : Nat) : Int) ∧ y.2.2.2.2.1 = S ∧ ∃ k : Nat, y.2.2.2.1 = ((k : Nat) : Int) ∧ k ≤ P.length ∧ Sm (k * 4000) y.1 ∧ (closeP (S.drop k) (P.drop k)).foldl addp y.1 = norm (closeP S P)) (fun y => (((List.length P : Nat) : Int) - y.2.2.2.1).toNat)
    ⟨rfl, rfl, rfl, 0, rfl, Nat.zero_le _, Sm.nil _, rfl⟩ ?_
  rintro ⟨o, p1, n, k', s, p2⟩ ⟨e1, e2, e3, k, e4, hk, ho, hf⟩
  dsimp only at e1 e2 e3 e4 ho hf
  subst e1 e2 e3 e4
  obtain ⟨hx, hn, hp⟩ := h
  have z := one_I.2
  unfold s_l1Close_L1
  dsimp only
  refine Ok.ite (fun hc => ?_) fun hc => ?_
  · have hlt : k < p1.length := by simpa using hc
    have lp := hp _ (List.getElem_mem hlt)
    rw [closeP_step hx hlt, List.foldl_cons, List.foldl_append] at hf
    have so : Sm (k * 4000 + 1000) (addp o (0, 0, p1[k])) := addp_sm ho ⟨z, z⟩ (by omega) (by dsimp only; omega)
    refine Ok.yes (by simp) (Ok.bind_eq (r := p1[k]) (by simp [List.getElem?_eq_getElem hlt]) (Ok.bind_eq (s_l1Add_eq ho (by omega) 0 0 _ (by omega)) ?_))
    refine Ok.bind (Q := fun v => v = ((stP s k).foldl addp (addp o (0, 0, p1[k])), p1, ((List.length p1 : Nat) : Int), ((k : Nat) : Int), s, p2)) ?_ ?_
    · refine Ok.ite (fun hq => ?_) fun hq => Ok.mk ?_
      · have hks : k < s.length := by
          have : ((k : Nat) : Int) < ((List.length s : Nat) : Int) := by simpa using hq
          omega
        refine Ok.yes (by simp) (Ok.bind_eq (r := s[k]) (by simp [List.getElem?_eq_getElem hks]) ?_)
        refine Ok.bind (Q := fun v => v = ((stP s k).foldl addp (addp o (0, 0, p1[k])), p1, ((List.length p1 : Nat) : Int), ((k : Nat) : Int), s, p2)) ?_ (fun v hv => Ok.mk hv)
        simp only [stP, List.getElem?_eq_getElem hks]
        cases s[k] with
        | true => exact Ok.yes rfl (Ok.bind_eq (s_l1Add_eq so (by omega) 1 0 [] (by simp)) (Ok.mk rfl))
        | false => exact Ok.no (by simp) (Ok.bind_eq (s_l1Add_eq so (by omega) 0 1 [] (by simp)) (Ok.mk rfl))
      · have : s.length ≤ k := by
          have : ¬ ((k : Nat) : Int) < ((List.length s : Nat) : Int) := by simpa using hq
          omega
        simp [stP, List.getElem?_eq_none this]
    rintro _ rfl
    dsimp only
    have so4 : Sm ((k + 1) * 4000) ((stP s k).foldl addp (addp o (0, 0, p1[k]))) := by
      unfold stP
      split
      · exact addp_sm (p := (1, 0, [])) (C := (k + 1) * 4000) so ⟨one_I.1, z⟩ (by omega) (by simp; omega)
      · exact addp_sm (p := (0, 1, [])) (C := (k + 1) * 4000) so ⟨z, one_I.1⟩ (by omega) (by simp; omega)
      · exact so.mono (by omega)
    exact Ok.mk ⟨⟨rfl, rfl, rfl, k + 1, idx_succ (n := p1.length) (by omega) hlt, by omega, so4, hf⟩, by rw [idx_succ (n := p1.length) (by omega) hlt]; dsimp only; omega⟩
  · have : k = p1.length := by
      have : ¬ ((k : Int) < ((List.length p1 : Nat) : Int)) := by simpa using hc
      omega
    subst this
    refine Ok.mk ⟨?_, ho.mono (by omega)⟩
    rw [← hf, List.drop_length, List.drop_eq_nil_of_le (show s.length ≤ p1.length by omega)]; rfl
section
variable {Sb : List Bool} {Pb : List (List UInt8)} {Sc : List Bool} {Pc : List (List UInt8)} (h : CR Sb Pb Sc Pc)
include h
theorem s_compose_inner {t g : Nat} {n g2 : Int} {s text : List UInt8} {oS : List Bool} {oP : List (List UInt8)} (hs : t + s.length ≤ Sc.length) (ht : text.length ≤ 1000) (hg : oP[g]? = some text) :
    loopG s_l1Compose_L1 (((t : Nat) : Int), ((g : Nat) : Int), s, 0, Pb, n, g2, Sb, Sc, Pc, oS, oP) =
      some (((t + s.length : Nat) : Int), ((g : Nat) : Int), Pb, n, g2, Sb, Sc, Pc, oS, oP.set g (text ++ inn (Sc.drop t) (Pc.drop t) s)) := by
  obtain ⟨hx, hy, hr, hn, hm, hpy⟩ := h
  have hgl : g < oP.length := (List.getElem?_eq_some_iff.1 hg).1
  have h0 : oP.set g text = oP := by
    have := (List.getElem?_eq_some_iff.1 hg).2
    rw [← this]; exact List.set_getElem_self hgl
  have := loop_run s_l1Compose_L1 (fun i => (((t + i : Nat) : Int), ((g : Nat) : Int), s, ((i : Nat) : Int), Pb, n, g2, Sb, Sc, Pc, oS, oP.set g (text ++ inn (Sc.drop t) (Pc.drop t) (s.take i)))) s.length
    (((t + s.length : Nat) : Int), ((g : Nat) : Int), Pb, n, g2, Sb, Sc, Pc, oS, oP.set g (text ++ inn (Sc.drop t) (Pc.drop t) s)) (by
      intro i hi
      have hti : t + i < Sc.length := by omega
      have htp : t + i + 1 < Pc.length := by omega
      have hl : (s.take i).length = i := by rw [List.length_take]; omega
      have sn := inn_snoc (s.take i) (Sc.drop t) (Pc.drop t) s[i] (by rw [hl, List.length_drop]; omega) (by rw [List.length_drop, List.length_drop]; omega)
      rw [← List.take_succ_eq_append_getElem hi] at sn
      simp only [hl, List.getElem_drop] at sn
      have il := inn_len (Sc.drop t) (Pc.drop t) (s.take i)
      have tl : tot (Pc.drop t).tail ≤ tot Pc := by rw [List.tail_drop]; exact tot_drop _ _
      have pq : (Pc[t + i + 1]).length ≤ tot Pc := tot_mem (List.getElem_mem htp)
      have e1 : IntKind.wrap .i64 (((i : Nat) : Int) + 1) = ((i + 1 : Nat) : Int) := idx_succ (n := s.length) (by omega) hi
      have e2 : IntKind.wrap .i64 (((t + i : Nat) : Int) + 1) = ((t + i + 1 : Nat) : Int) := idx_succ (n := Sc.length) (by omega) hti
      have g0 : (0 : Int) ≤ ((t + i : Nat) : Int) := by omega
      have g1 : ((t + i : Nat) : Int) < ((List.length Sc : Nat) : Int) := by omega
      have g2' : (0 : Int) ≤ ((i : Nat) : Int) := by omega
      have g3 : ((i : Nat) : Int) ≤ ((i + 1 : Nat) : Int) := by omega
      have g4 : ((i + 1 : Nat) : Int) ≤ ((List.length s : Nat) : Int) := by omega
      have g5 : ((i : Nat) : Int) < ((List.length s : Nat) : Int) := by omega
      have g6 : ((t + i + 1 : Nat) : Int) < ((List.length Pc : Nat) : Int) := by omega
      have g7 : (0 : Int) ≤ ((t + i + 1 : Nat) : Int) := by omega
      have g8 : (0 : Int) ≤ ((g : Nat) : Int) := by omega
      have cut : (s.drop i).take (i + 1 - i) = [s[i]] := by rw [show i + 1 - i = 1 by omega, List.drop_eq_getElem_cons hi]; rfl
      have b1 : List.length (text ++ inn (Sc.drop t) (Pc.drop t) (s.take i)) + List.length [s[i]] ≤ 9223372036854775807 := by rw [List.length_append]; simp only [List.length_singleton]; omega
      have b2 : ∀ z : List UInt8, z.length ≤ 1 → List.length (text ++ inn (Sc.drop t) (Pc.drop t) (s.take i) ++ z) + List.length (Pc[t + i + 1]) ≤ 9223372036854775807 := fun z hz => by rw [List.length_append, List.length_append]; omega
      have gl : ∀ z, ((g : Nat) : Int) < ((List.length (oP.set g z) : Nat) : Int) := fun z => by rw [List.length_set]; omega
      have gs : ∀ z, (oP.set g z)[g]? = some z := fun z => List.getElem?_set_self hgl
      unfold s_l1Compose_L1
      simp only [g0, g1, g2', g3, g4, g5, g8, gl, gs, e1, e2, decide_true, if_true, Int.toNat_natCast, Nat.zero_add, List.getElem?_eq_getElem hti, Option.bind_some, Int.le_refl, cut, b1, List.set_set]
      cases hb : Sc[t + i] with
      | true =>
        rw [hb, if_pos rfl] at sn
        have b3 := b2 [s[i]] (by simp)
        simp only [if_true, Option.bind_some, e1, e2, g6, g7, g8, gl, gs, decide_true, Int.toNat_natCast, List.getElem?_eq_getElem htp, b3, List.set_set]
        simp only [sn, List.append_assoc, Nat.add_assoc]
      | false =>
        rw [hb, if_neg (by simp)] at sn
        have b3 := b2 [] (by simp)
        rw [List.append_nil] at b3
        simp only [Bool.false_eq_true, if_false, Option.bind_some, e1, e2, g6, g7, g8, gl, gs, decide_true, if_true, Int.toNat_natCast, List.getElem?_eq_getElem htp, b3, List.set_set]
        simp only [sn, List.append_assoc, Nat.add_assoc, List.nil_append]) (by
      simp only [List.take_length]
      simp [s_l1Compose_L1])
  simpa [inn_nil, h0] using this
theorem s_compose_loop (be : List UInt8) (hbe : be.length ≤ 1000) : loopG s_l1Compose_L2 (0, Pb, ((List.length Pb : Nat) : Int), 0, Sb, Sc, Pc, [], be :: List.replicate (Pb.length - 1) []) = some (cmpG be Sb Pb Sc Pc) := by
  refine Ok.eq (Ok.loop (fun y => y.2.1 = Pb ∧ y.2.2.1 = ((List.length Pb : Nat) : Int) ∧ y.2.2.2.2.1 = Sb ∧ y.2.2.2.2.2.1 = Sc ∧ y.2.2.2.2.2.2.1 = Pc ∧ ∃ (t g : Nat) (be2 : List UInt8) (done : List (List UInt8)), y.1 = ((t : Nat) : Int) ∧ y.2.2.2.1 = ((g : Nat) : Int) ∧ g < Pb.length ∧
      be2.length ≤ 1000 ∧ t + rem (Sb.drop g) (Pb.drop g) = Sc.length ∧ y.2.2.2.2.2.2.2.1.length = g ∧ done.length = g ∧ y.2.2.2.2.2.2.2.2 = done ++ be2 :: List.replicate (Pb.length - 1 - g) [] ∧
      (y.2.2.2.2.2.2.2.1 ++ (cmpG be2 (Sb.drop g) (Pb.drop g) (Sc.drop t) (Pc.drop t)).1, done ++ (cmpG be2 (Sb.drop g) (Pb.drop g) (Sc.drop t) (Pc.drop t)).2) = cmpG be Sb Pb Sc Pc) (fun y => (((List.length Pb : Nat) : Int) - y.2.2.2.1).toNat)
    ⟨rfl, rfl, rfl, rfl, rfl, 0, 0, be, [], rfl, rfl, by rw [h.x]; omega, hbe, by have := h.r; simpa using this, rfl, rfl, by simp, by simp⟩ ?_)
  rintro ⟨t', pb, n, g', sb, sc, pc, oS, oP⟩ ⟨e1, e2, e3, e4, e5, t, g, be', done, e6, e7, hg, hbe', hrem, hoS, hdone, hoP, hf⟩
  dsimp only at e1 e2 e3 e4 e5 e6 e7 hbe' hoS hoP hf
  subst e1 e2 e3 e4 e5 e6 e7 hoP
  have hCR := h
  obtain ⟨hx, hy, hr, hn, hm, hpy⟩ := h
  obtain ⟨c1, c2, c3⟩ := cmpG_at hCR hg be' hrem
  unfold s_l1Compose_L2
  dsimp only
  refine Ok.yes (by simpa using hg) ?_
  have r1 : ∀ z : Bool, roomFor (List.length oS + List.length [z]) 1 = true := fun z => room1 (by omega) (by omega)
  have hat : (done ++ be' :: List.replicate (pb.length - 1 - g) ([] : List UInt8))[g]? = some be' := by rw [List.getElem?_append_right (by omega), hdone, Nat.sub_self]; rfl
  have hin := s_compose_inner hCR (g := g) (n := ((List.length pb : Nat) : Int)) (g2 := ((g : Nat) : Int)) (oS := oS) c1 hbe' hat
  have hset : (done ++ be' :: List.replicate (pb.length - 1 - g) ([] : List UInt8)).set g (be' ++ inn (sc.drop t) (pc.drop t) pb[g]) = done ++ (be' ++ inn (sc.drop t) (pc.drop t) pb[g]) :: List.replicate (pb.length - 1 - g) [] := by
    rw [List.set_append_right _ _ (by omega), hdone, Nat.sub_self]; rfl
  rw [hset] at hin
  refine Ok.bind (Q := fun v => match v with
      | .inl y => ∃ t2 be2 oS2 done2, y = (((t2 : Nat) : Int), pb, ((List.length pb : Nat) : Int), ((g : Nat) : Int), sb, sc, pc, oS2, done2 ++ be2 :: List.replicate (pb.length - 1 - (g + 1)) []) ∧ g + 1 < pb.length ∧ List.length be2 ≤ 1000 ∧ t2 + rem (sb.drop (g + 1)) (pb.drop (g + 1)) = sc.length ∧ List.length oS2 = g + 1 ∧ List.length done2 = g + 1 ∧
          (oS2 ++ (cmpG be2 (sb.drop (g + 1)) (pb.drop (g + 1)) (sc.drop t2) (pc.drop t2)).1, done2 ++ (cmpG be2 (sb.drop (g + 1)) (pb.drop (g + 1)) (sc.drop t2) (pc.drop t2)).2) = cmpG be sb pb sc pc
      | .inr z => z = cmpG be sb pb sc pc) ?_ ?_
  · refine Ok.yes (decide_eq_true (by omega)) (Ok.yes (by simpa using hg) (Ok.bind_eq (r := pb[g]) (by simp [List.getElem?_eq_getElem hg]) (Ok.bind_eq hin ?_)))
    dsimp only
    refine Ok.ite (fun hq => ?_) fun hq => ?_
    · have he : g = sb.length := by
        have : ((g : Nat) : Int) = ((List.length sb : Nat) : Int) := by simpa using hq
        omega
      rw [c2 he] at hf
      refine Ok.mk ?_
      rw [← hf, List.append_nil, show pb.length - 1 - g = 0 by omega]; rfl
    · have hks : g < sb.length := by
        have : ¬ ((g : Nat) : Int) = ((List.length sb : Nat) : Int) := by simpa using hq
        omega
      have rep : List.replicate (pb.length - 1 - g) ([] : List UInt8) = [] :: List.replicate (pb.length - 1 - (g + 1)) [] := by rw [show pb.length - 1 - g = (pb.length - 1 - (g + 1)) + 1 by omega, List.replicate_succ]
      refine Ok.yes (decide_eq_true (by omega)) (Ok.yes (by simpa using hks) (Ok.bind_eq (r := sb[g]) (by simp [List.getElem?_eq_getElem hks]) ?_))
      cases hb : sb[g] with
      | false =>
        obtain ⟨k1, k2⟩ := (c3 hks).1 hb
        rw [k2] at hf
        refine Ok.yes (by simp) (Ok.yes (r1 _) (Ok.mk ⟨t + pb[g].length, [], oS ++ [false], done ++ [be' ++ inn (sc.drop t) (pc.drop t) pb[g]], ?_, by omega, by simp, k1, by simp [hoS], by simp [hdone], ?_⟩))
        · rw [rep]; simp
        · rw [← hf]; simp
      | true =>
        obtain ⟨k1, k2, k3, k4⟩ := (c3 hks).2 hb
        rw [k4] at hf
        have e9 : IntKind.wrap .i64 (((t + pb[g].length : Nat) : Int) + 1) = ((t + pb[g].length + 1 : Nat) : Int) := idx_succ (n := sc.length) (by omega) k2
        have e10 : IntKind.wrap .i64 (((g : Nat) : Int) + 1) = ((g + 1 : Nat) : Int) := idx_succ (n := pb.length) (by omega) hg
        have hq2 : (pc[t + pb[g].length + 1]).length ≤ tot pc := tot_mem (List.getElem_mem k3)
        have hlen : (done ++ (be' ++ inn (sc.drop t) (pc.drop t) pb[g]) :: List.replicate (pb.length - 1 - g) ([] : List UInt8)).length = pb.length := by simp; omega
        have hget : (done ++ (be' ++ inn (sc.drop t) (pc.drop t) pb[g]) :: List.replicate (pb.length - 1 - g) ([] : List UInt8))[0 + Int.toNat ((g + 1 : Nat) : Int)]? = some [] := by
          rw [rep, Int.toNat_natCast, Nat.zero_add, List.getElem?_append_right (by omega), hdone, show g + 1 - g = 1 by omega]; rfl
        have hset2 : (done ++ (be' ++ inn (sc.drop t) (pc.drop t) pb[g]) :: List.replicate (pb.length - 1 - g) ([] : List UInt8)).set (0 + Int.toNat ((g + 1 : Nat) : Int)) pc[t + pb[g].length + 1] = (done ++ [be' ++ inn (sc.drop t) (pc.drop t) pb[g]]) ++ pc[t + pb[g].length + 1] :: List.replicate (pb.length - 1 - (g + 1)) [] := by
          rw [rep, Int.toNat_natCast, Nat.zero_add, List.set_append_right _ _ (by omega), hdone, show g + 1 - g = 1 by omega]; simp
        rw [e9, e10]
        refine Ok.no (by simp) (Ok.yes (decide_eq_true (by omega)) (Ok.yes (decide_eq_true (by omega)) (Ok.bind_eq (r := sc[t + pb[g].length]) (by rw [Nat.zero_add, Int.toNat_natCast]; exact List.getElem?_eq_getElem k2) (Ok.yes (r1 _)
          (Ok.yes (decide_eq_true (by omega)) (Ok.yes (decide_eq_true (by omega)) (Ok.bind_eq (r := pc[t + pb[g].length + 1]) (by rw [Nat.zero_add, Int.toNat_natCast]; exact List.getElem?_eq_getElem k3)
            (Ok.yes (decide_eq_true (by omega)) (Ok.yes (decide_eq_true (by rw [hlen]; omega)) (Ok.bind_eq hget (Ok.bind_eq hget (Ok.mk ⟨t + pb[g].length + 1, pc[t + pb[g].length + 1], oS ++ [sc[t + pb[g].length]], done ++ [be' ++ inn (sc.drop t) (pc.drop t) pb[g]], ?_, by omega, by omega, k1, by simp [hoS], by simp [hdone], ?_⟩))))))))))))
        · rw [hset2]
        · rw [← hf]; simp
  rintro (y | z) hv
  · obtain ⟨t2, be2, oS2, done2, rfl, k1, k2, k3, k4, k5, k6⟩ := hv
    dsimp only
    have e9 : IntKind.wrap .i64 (((g : Nat) : Int) + 1) = ((g + 1 : Nat) : Int) := idx_succ (n := pb.length) (by omega) hg
    rw [e9]
    exact Ok.mk ⟨⟨rfl, rfl, rfl, rfl, rfl, t2, g + 1, be2, done2, rfl, rfl, k1, k2, k3, k4, k5, rfl, k6⟩, by dsimp only; omega⟩
  · exact Ok.mk hv
end
end Go.V.G

set_option linter.unusedVariables false
set_option linter.unusedSimpArgs false
set_option maxRecDepth 100000
namespace Go.V.G
open Go.V
theorem comp_len : ∀ (x y : List Atom), nT x = nS y → nS (comp x y) = nS x ∧ nT (comp x y) = nT y := by
  intro x y
  induction x, y using comp.induct with
  | case1 x b y ih => intro h; rw [comp]; have := ih h; simp only [nS, nT]; omega
  | case2 x ih => intro h; rw [comp]; have := ih h; simp only [nS, nT] at this ⊢; omega
  | case3 x y ih => intro h; rw [comp]; have := ih h; simp only [nS, nT] at this ⊢; omega
  | case4 x y ih => intro h; rw [comp]; have := ih h; simp only [nS, nT] at this ⊢; omega
  | case5 b x y ih => intro h; rw [comp]; have := ih (by simpa [nS, nT] using h); simp only [nS, nT]; omega
  | case6 b x y ih => intro h; rw [comp]; have := ih (by simpa [nS, nT] using h); simp only [nS, nT]; omega
  | case7 x y ih => intro h; rw [comp]; have := ih (by simpa [nS, nT] using h); simp only [nS, nT]; omega
  | case8 x y ih => intro h; rw [comp]; have := ih (by simpa [nS, nT] using h); simp only [nS, nT]; omega
  | case9 x y h1 h2 h3 h4 h5 h6 h7 h8 =>
    intro g
    match x, y with
    | x, .ins b :: y => exact absurd rfl (h1 b y)
    | .drop :: x, [] => exact absurd rfl (h2 x rfl)
    | .drop :: x, .keep :: y => exact absurd rfl (h3 x y rfl)
    | .drop :: x, .drop :: y => exact absurd rfl (h4 x y rfl)
    | .ins b :: x, .keep :: y => exact absurd rfl (h5 b x y rfl)
    | .ins b :: x, .drop :: y => exact absurd rfl (h6 b x y rfl)
    | .keep :: x, .keep :: y => exact absurd rfl (h7 x y rfl)
    | .keep :: x, .drop :: y => exact absurd rfl (h8 x y rfl)
    | [], [] => simp [comp, nS, nT]
    | .ins b :: x, [] => simp [nS, nT] at g
    | .keep :: x, [] => simp [nS, nT] at g
    | [], .keep :: y => simp [nS, nT] at g
    | [], .drop :: y => simp [nS, nT] at g
end Go.V.G

set_option linter.unusedVariables false
set_option linter.unusedSimpArgs false
set_option maxRecDepth 100000
namespace Go.V.G
open Go.V
theorem cr_good {a b : List Prt} (ha : good a = true) (hb : good b = true) (h : tgt a = src b) : nT (atoms a) = nS (atoms b) ∧ CR (stays (atoms a)) (puts (atoms a)) (stays (atoms b)) (puts (atoms b)) := by
  have sa := okk_some (good_spec ha).1
  have sb := okk_some (good_spec hb).1
  have la := stays_len sa
  have lb := stays_len sb
  have ta := tgt_nT sa
  have tb := tgt_nT sb
  have sb' := src_nS sb
  have := (good_spec ha).2.1
  have := (good_spec hb).2.1
  have := (good_spec hb).2.2
  have hn : nT (atoms a) = nS (atoms b) := by omega
  refine ⟨hn, puts_len _, puts_len _, by rw [rem_nT, hn, nS_stays], by omega, by omega, ?_⟩
  rw [tot_puts]
  rw [nT_eq] at tb
  omega
theorem head_len (l : List Atom) : ((puts l).headD []).length ≤ nIns l := by
  obtain ⟨p, ps, e, _⟩ := puts_cons l
  have := put_le l p (by rw [e]; simp)
  rw [e]; exact this
def composed (a b : List Prt) : List Prt := norm (closeP (stays (comp (atoms a) (atoms b))) (puts (comp (atoms a) (atoms b))))
theorem composed_spec {a b : List Prt} (ha : good a = true) (hb : good b = true) (h : tgt a = src b) :
    good (composed a b) = true ∧ atoms (composed a b) = comp (atoms a) (atoms b) ∧ src (composed a b) = src a ∧ tgt (composed a b) = tgt b := by
  have sa := okk_some (good_spec ha).1
  have sb := okk_some (good_spec hb).1
  obtain ⟨hn, _⟩ := cr_good ha hb h
  obtain ⟨l1, l2⟩ := comp_len _ _ hn
  have hf := closeP_fine (stays (comp (atoms a) (atoms b))) (puts (comp (atoms a) (atoms b)))
  have he := closeP_atoms (comp (atoms a) (atoms b))
  have s1 := src_fine hf
  have t1 := tgt_fine hf
  rw [he] at s1 t1
  have s2 := src_nS sa
  have t2 := tgt_nT sb
  have := (good_spec ha).2.1
  have := (good_spec hb).2.2
  obtain ⟨k1, k2, k3, k4⟩ := norm_spec hf ⟨by omega, by omega⟩
  refine ⟨?_, by rw [← he]; exact k2, ?_, ?_⟩
  · unfold good
    rw [show okk 0 (composed a b) = true from k1, show src (composed a b) = src (closeP _ _) from k3, show tgt (composed a b) = tgt (closeP _ _) from k4]
    simp; omega
  · rw [show src (composed a b) = src (closeP _ _) from k3]; omega
  · rw [show tgt (composed a b) = tgt (closeP _ _) from k4]; omega
theorem pr_good {a b : List Prt} (ha : good a = true) (hb : good b = true) (h : tgt a = src b) : PR (stays (comp (atoms a) (atoms b))) (puts (comp (atoms a) (atoms b))) := by
  have sa := okk_some (good_spec ha).1
  have sb := okk_some (good_spec hb).1
  obtain ⟨hn, _⟩ := cr_good ha hb h
  obtain ⟨l1, l2⟩ := comp_len _ _ hn
  have s2 := src_nS sa
  have t2 := tgt_nT sb
  have := (good_spec ha).2.1
  have := (good_spec hb).2.2
  refine ⟨puts_len _, by rw [← nS_stays]; omega, fun q hq => ?_⟩
  have := put_le _ q hq
  rw [nT_eq] at l2
  omega
theorem i_compose_eq {a b : List Prt} (ha : good a = true) (hb : good b = true) (h : tgt a = src b) : i_compose a b = some (composed a b) := by
  have sa := okk_some (good_spec ha).1
  have sb := okk_some (good_spec hb).1
  have := (good_spec ha).2.1
  have := (good_spec hb).2.1
  have t2 := tgt_nT sb
  have := (good_spec hb).2.2
  obtain ⟨hn, hCR⟩ := cr_good ha hb h
  have hl := head_len (atoms b)
  rw [nT_eq] at t2
  unfold i_compose
  rw [i_tell_eq (good_sm ha) (by omega) sa (by omega), i_tell_eq (good_sm hb) (by omega) sb (by omega), Option.bind_some, Option.bind_some]
  obtain ⟨q, qs, e, _⟩ := puts_cons (atoms b)
  have hlp := i_compose_loop hCR ((puts (atoms b)).headD []) (by omega)
  rw [cmpG_comp _ _ hn] at hlp
  refine Ok.eq (Ok.yes (by simp) (Ok.yes (by rw [e]; simp) (Ok.bind_eq (r := (puts (atoms b)).headD []) (by rw [e]; rfl) (Ok.bind_eq hlp ?_))))
  refine (i_parts_eq (pr_good ha hb h)).bind ?_
  rintro _ ⟨rfl, _⟩
  exact Ok.mk rfl
theorem s_compose_eq {a b : List Prt} (ha : good a = true) (hb : good b = true) (h : tgt a = src b) : s_l1Compose a b = some (composed a b) := by
  have sa := okk_some (good_spec ha).1
  have sb := okk_some (good_spec hb).1
  have := (good_spec ha).2.1
  have := (good_spec hb).2.1
  have t2 := tgt_nT sb
  have := (good_spec hb).2.2
  obtain ⟨hn, hCR⟩ := cr_good ha hb h
  have hl := head_len (atoms b)
  rw [nT_eq] at t2
  have hx := hCR.x
  have hnn := hCR.n
  unfold s_l1Compose
  rw [s_Open_eq (good_sm ha) (by omega) sa (by omega), s_Open_eq (good_sm hb) (by omega) sb (by omega), Option.bind_some, Option.bind_some]
  obtain ⟨q, qs, e, _⟩ := puts_cons (atoms b)
  have hlp := s_compose_loop hCR ((puts (atoms b)).headD []) (by omega)
  rw [cmpG_comp _ _ hn] at hlp
  have rep : List.replicate (Int.toNat ((List.length (puts (atoms a)) : Nat) : Int)) ([] : List UInt8) = [] :: List.replicate ((puts (atoms a)).length - 1) [] := by
    rw [Int.toNat_natCast, show (puts (atoms a)).length = ((puts (atoms a)).length - 1) + 1 by omega, List.replicate_succ, Nat.add_sub_cancel]
  dsimp only
  rw [rep]
  refine Ok.eq (Ok.yes (by simp) (Ok.yes (by simp) (Ok.yes (by simp [roomFor]; omega) (Ok.yes (by simp) (Ok.yes (by rw [e]; simp) (Ok.bind_eq (r := (puts (atoms b)).headD []) (by rw [e]; rfl) (Ok.yes (by simp) (Ok.yes (by simp) (Ok.bind_eq (r := []) rfl (Ok.bind_eq (r := []) rfl (Ok.bind_eq hlp ?_)))))))))))
  refine (s_close_eq (pr_good ha hb h)).bind ?_
  rintro _ ⟨rfl, _⟩
  exact Ok.mk rfl
end Go.V.G

set_option linter.unusedVariables false
set_option linter.unusedSimpArgs false
set_option maxRecDepth 100000
namespace Go.V.G
open Go.V
abbrev Rn := Int × Int
def rsum : List Rn → Int
  | [] => 0
  | r :: l => r.2 + rsum l
def alt : Option Int → List Rn → Bool
  | _, [] => true
  | p, r :: l => !(decide (p = some r.1)) && alt (some r.1) l
def Pos (l : List Rn) : Prop := ∀ q ∈ l, 1 ≤ q.2
theorem Pos.nil : Pos [] := fun q h => by cases h
theorem Pos.tail {r : Rn} {l : List Rn} (h : Pos (r :: l)) : Pos l := fun q hq => h q (by simp [hq])
theorem rsum_nonneg : ∀ {l : List Rn}, Pos l → 0 ≤ rsum l
  | [], _ => Int.le_refl _
  | r :: l, h => by
    have := h r (by simp); have := rsum_nonneg h.tail
    simp only [rsum]; omega
theorem rlen_le : ∀ {l : List Rn}, Pos l → ((l.length : Nat) : Int) ≤ rsum l
  | [], _ => Int.le_refl _
  | r :: l, h => by
    have := h r (by simp); have := rlen_le h.tail
    simp only [rsum, List.length_cons]; omega
structure Rs (l : List Rn) (n : Int) : Prop where
  pos : Pos l
  sum : rsum l = n
  alt : alt none l = true
theorem Rs.nil : Rs [] 0 := ⟨Pos.nil, rfl, rfl⟩
def inRev (most : Int) (l : List Rn) : Bool := l.all fun r => decide (0 ≤ r.1 ∧ r.1 ≤ most)
def grn (most : Int) : Option Int → Int → List Rn → Bool
  | _, left, [] => decide (left = 0)
  | p, left, r :: l => (decide (0 ≤ r.1 ∧ r.1 ≤ most) && (decide (1 ≤ r.2 ∧ r.2 ≤ left) && !(decide (p = some r.1)))) && grn most (some r.1) (left - r.2) l
def goodRuns (l : List Rn) (many most : Int) : Bool := (decide (0 ≤ many ∧ many ≤ 120) && decide (0 ≤ most ∧ most ≤ 60)) && grn most none many l
theorem grn_iff (most : Int) : ∀ (l : List Rn) (p : Option Int) (left : Int), grn most p left l = true ↔ (inRev most l = true ∧ Pos l ∧ rsum l = left ∧ alt p l = true)
  | [], p, left => by
    simp only [grn, decide_eq_true_eq, inRev, List.all_nil, rsum, G.alt, true_and]
    exact ⟨fun h => ⟨Pos.nil, h.symm, trivial⟩, fun h => h.2.1.symm⟩
  | r :: l, p, left => by
    have ih := grn_iff most l (some r.1) (left - r.2)
    simp only [grn, Bool.and_eq_true, decide_eq_true_eq, ih, inRev, List.all_cons, rsum, G.alt]
    constructor
    · rintro ⟨⟨h1, h2, h3⟩, h4, h5, h6, h7⟩
      refine ⟨⟨h1, h4⟩, fun q hq => ?_, by omega, h3, h7⟩
      rcases List.mem_cons.1 hq with rfl | hq
      · exact h2.1
      · exact h5 q hq
    · rintro ⟨⟨h1, h4⟩, h5, h6, h3, h7⟩
      have h8 := h5 r (by simp)
      have h9 := rsum_nonneg h5.tail
      exact ⟨⟨h1, ⟨h8, by omega⟩, h3⟩, h4, h5.tail, by omega, h7⟩
theorem goodRuns_iff {l : List Rn} {many most : Int} : goodRuns l many most = true ↔ ((0 ≤ many ∧ many ≤ 120) ∧ (0 ≤ most ∧ most ≤ 60)) ∧ inRev most l = true ∧ Rs l many := by
  simp only [goodRuns, Bool.and_eq_true, decide_eq_true_eq, grn_iff]
  constructor
  · rintro ⟨h, h1, h2, h3, h4⟩; exact ⟨h, h1, h2, h3, h4⟩
  · rintro ⟨h, h1, h2⟩; exact ⟨h, h1, h2.pos, h2.sum, h2.alt⟩
end Go.V.G

set_option linter.unusedVariables false
set_option linter.unusedSimpArgs false
set_option maxRecDepth 100000
namespace Go.V.G
open Go.V
def idc (n : Int) : List Prt := if n = 0 then [] else [(n, 0, [])]
theorem idc_spec {n : Int} (h0 : 0 ≤ n) (h : n ≤ 120) : good (idc n) = true ∧ atoms (idc n) = List.replicate n.toNat .keep ∧ src (idc n) = n ∧ tgt (idc n) = n := by
  unfold idc
  split
  · rename_i e
    subst e
    exact ⟨rfl, rfl, rfl, rfl⟩
  · rename_i hn
    have hp : 0 < n := by omega
    have hk : kd (n, 0, []) = 1 := by simp [kd, hp]
    refine ⟨?_, ?_, ?_, ?_⟩
    · simp [good, okk, hk, src, tgt, h]
    · simp only [atoms, List.flatMap_cons, List.flatMap_nil, List.append_nil]; exact pa_keep h0
    · simp [src]
    · simp [tgt]
theorem comp_keep : ∀ y : List Atom, comp (List.replicate (nS y) .keep) y = y
  | [] => by simp [nS, comp]
  | .ins b :: y => by rw [nS, comp, comp_keep y]
  | .keep :: y => by rw [nS, List.replicate_succ, comp, comp_keep y]
  | .drop :: y => by rw [nS, List.replicate_succ, comp, comp_keep y]
theorem good_nS {c : List Prt} (h : good c = true) : nS (atoms c) = (src c).toNat ∧ 0 ≤ src c ∧ src c ≤ 120 ∧ 0 ≤ tgt c ∧ tgt c ≤ 120 ∧ nT (atoms c) = (tgt c).toNat := by
  obtain ⟨h1, h2, h3⟩ := good_spec h
  have hs := okk_some h1
  have := src_nS hs; have := tgt_nT hs
  have := src_nonneg hs; have := tgt_nonneg hs
  omega
theorem composed_id {c : List Prt} (h : good c = true) : composed (idc (src c)) c = c := by
  obtain ⟨q1, q2, q3, q4, q5, q6⟩ := good_nS h
  obtain ⟨i1, i2, i3, i4⟩ := idc_spec q2 q3
  obtain ⟨k1, k2, k3, k4⟩ := composed_spec i1 h i4
  refine norm_unique (k := 0) (j := 0) (good_spec k1).1 (good_spec h).1 ?_
  rw [k2, i2, ← q1, comp_keep]
def chn : Int → List (List Prt) → Bool
  | _, [] => true
  | n, c :: cs => (good c && decide (src c = n)) && chn (tgt c) cs
def endl : Int → List (List Prt) → Int
  | n, [] => n
  | _, c :: cs => endl (tgt c) cs
theorem chn_append : ∀ (n : Int) (a b : List (List Prt)), chn n (a ++ b) = (chn n a && chn (endl n a) b)
  | _, [], b => by simp [chn, endl]
  | n, c :: a, b => by simp only [List.cons_append, chn, endl, chn_append (tgt c) a b, Bool.and_assoc]
theorem endl_append : ∀ (n : Int) (a b : List (List Prt)), endl n (a ++ b) = endl (endl n a) b
  | _, [], b => rfl
  | n, c :: a, b => endl_append (tgt c) a b
theorem chn_cons {n : Int} {c : List Prt} {cs : List (List Prt)} (h : chn n (c :: cs) = true) : good c = true ∧ src c = n ∧ chn (tgt c) cs = true := by
  simp only [chn, Bool.and_eq_true, decide_eq_true_eq] at h
  exact ⟨h.1.1, h.1.2, h.2⟩
theorem endl_in : ∀ {n : Int} {cs : List (List Prt)}, chn n cs = true → 0 ≤ n → n ≤ 120 → 0 ≤ endl n cs ∧ endl n cs ≤ 120
  | n, [], _, h0, h1 => ⟨h0, h1⟩
  | n, c :: cs, h, h0, h1 => by
    obtain ⟨k1, k2, k3⟩ := chn_cons h
    obtain ⟨_, _, _, q4, q5, _⟩ := good_nS k1
    exact endl_in (n := tgt c) k3 q4 q5
theorem chn_mem : ∀ {n : Int} {cs : List (List Prt)}, chn n cs = true → ∀ c ∈ cs, good c = true
  | n, c :: cs, h, x, hx => by
    obtain ⟨k1, k2, k3⟩ := chn_cons h
    rcases List.mem_cons.1 hx with rfl | hx
    · exact k1
    · exact chn_mem k3 x hx
theorem chn_take {n : Int} {cs : List (List Prt)} (h : chn n cs = true) (k : Nat) : chn n (cs.take k) = true ∧ chn (endl n (cs.take k)) (cs.drop k) = true := by
  have := chn_append n (cs.take k) (cs.drop k)
  rw [List.take_append_drop, h] at this
  have := this.symm
  rwa [Bool.and_eq_true] at this
def txt (t : List UInt8) (cs : List (List Prt)) : List UInt8 := cs.foldl (fun t c => apply t c) t
theorem apply_len {t : List UInt8} {c : List Prt} (hg : good c = true) (h : ((t.length : Nat) : Int) = src c) : (((apply t c).length : Nat) : Int) = tgt c := by
  obtain ⟨q1, q2, q3, q4, q5, q6⟩ := good_nS hg
  have := ap_len (atoms c) t (by omega)
  unfold apply
  omega
theorem txt_len : ∀ {cs : List (List Prt)} {t : List UInt8}, chn ((t.length : Nat) : Int) cs = true → (((txt t cs).length : Nat) : Int) = endl ((t.length : Nat) : Int) cs
  | [], t, _ => rfl
  | c :: cs, t, h => by
    obtain ⟨k1, k2, k3⟩ := chn_cons h
    have hl := apply_len k1 k2.symm
    show (((txt (apply t c) cs).length : Nat) : Int) = endl (tgt c) cs
    rw [← hl] at k3 ⊢
    exact txt_len k3
def btw (n : Int) (cs : List (List Prt)) : List Prt := cs.foldl (fun a c => composed a c) (idc n)
theorem fold_spec : ∀ {cs : List (List Prt)} {a : List Prt}, good a = true → chn (tgt a) cs = true →
    good (cs.foldl (fun a c => composed a c) a) = true ∧ src (cs.foldl (fun a c => composed a c) a) = src a ∧ tgt (cs.foldl (fun a c => composed a c) a) = endl (tgt a) cs
  | [], a, h, _ => ⟨h, rfl, rfl⟩
  | c :: cs, a, h, hc => by
    obtain ⟨k1, k2, k3⟩ := chn_cons hc
    obtain ⟨q1, q2, q3, q4⟩ := composed_spec h k1 k2.symm
    rw [← q4] at k3
    obtain ⟨r1, r2, r3⟩ := fold_spec q1 k3
    exact ⟨r1, by rw [List.foldl_cons, r2, q3], by rw [List.foldl_cons, r3, q4]; rfl⟩
theorem btw_spec {n : Int} {cs : List (List Prt)} (h : chn n cs = true) (h0 : 0 ≤ n) (h1 : n ≤ 120) : good (btw n cs) = true ∧ src (btw n cs) = n ∧ tgt (btw n cs) = endl n cs := by
  obtain ⟨i1, i2, i3, i4⟩ := idc_spec h0 h1
  obtain ⟨r1, r2, r3⟩ := fold_spec i1 (by rw [i4]; exact h)
  exact ⟨r1, by rw [btw, r2, i3], by rw [btw, r3, i4]⟩
theorem btw_cons {n : Int} {c : List Prt} {cs : List (List Prt)} (h : chn n (c :: cs) = true) : btw n (c :: cs) = cs.foldl (fun a c => composed a c) c := by
  obtain ⟨k1, k2, k3⟩ := chn_cons h
  subst k2
  unfold btw
  rw [List.foldl_cons, composed_id k1]
def goodH (f : Int) (t : List UInt8) (r : List Rn) (cs : List (List Prt)) : Bool :=
  decide (0 ≤ f ∧ f ≤ 60) && (decide (((t.length : Nat) : Int) ≤ 120) && (goodRuns r ((t.length : Nat) : Int) f && (decide (((cs.length : Nat) : Int) ≤ 60 - f) && chn ((t.length : Nat) : Int) cs)))
structure GH (f : Int) (t : List UInt8) (r : List Rn) (cs : List (List Prt)) : Prop where
  hf : 0 ≤ f ∧ f ≤ 60
  ht : ((t.length : Nat) : Int) ≤ 120
  hr : goodRuns r ((t.length : Nat) : Int) f = true
  hn : ((cs.length : Nat) : Int) ≤ 60 - f
  hc : chn ((t.length : Nat) : Int) cs = true
theorem goodH_iff {f : Int} {t : List UInt8} {r : List Rn} {cs : List (List Prt)} : goodH f t r cs = true ↔ GH f t r cs := by
  simp only [goodH, Bool.and_eq_true, decide_eq_true_eq]
  exact ⟨fun ⟨h1, h2, h3, h4, h5⟩ => ⟨h1, h2, h3, h4, h5⟩, fun ⟨h1, h2, h3, h4, h5⟩ => ⟨h1, h2, h3, h4, h5⟩⟩
structure HB (t : List UInt8) (r : List Rn) (cs : List (List Prt)) : Prop where
  ht : t.length ≤ 1099511627776
  hr : r.length ≤ 1099511627776
  hn : cs.length ≤ 1099511627776
  hc : ∀ c ∈ cs, Sm 1099511627776 c
theorem GH.hb {f : Int} {t : List UInt8} {r : List Rn} {cs : List (List Prt)} (h : GH f t r cs) : HB t r cs := by
  have h1 := h.ht; have h2 := h.hn; have h3 := h.hf
  obtain ⟨_, _, h6⟩ := goodRuns_iff.1 h.hr
  have := rlen_le h6.pos
  rw [h6.sum] at this
  exact ⟨by omega, by omega, by omega, fun c hc => (good_sm (chn_mem h.hc c hc)).mono (by omega)⟩
def codeH (f : Int) (t : List UInt8) (r : List Rn) (cs : List (List Prt)) (a b : Int) : Int :=
  if goodH f t r cs = true then (if f ≤ a ∧ a ≤ b ∧ b ≤ f + cs.length then 0 else 2) else 1
end Go.V.G

set_option linter.unusedVariables false
set_option linter.unusedSimpArgs false
set_option maxRecDepth 100000
namespace Go.V.G
open Go.V
def prv (l : List Rn) (i : Nat) : Option Int := if i = 0 then none else (l[i - 1]?).map (·.1)
theorem prv_succ {l : List Rn} {i : Nat} (h : i < l.length) : prv l (i + 1) = some l[i].1 := by simp [prv, List.getElem?_eq_getElem h]
theorem grn_drop {l : List Rn} {i : Nat} (h : i < l.length) (most left : Int) (p : Option Int) : grn most p left (l.drop i) = ((decide (0 ≤ l[i].1 ∧ l[i].1 ≤ most) && (decide (1 ≤ l[i].2 ∧ l[i].2 ≤ left) && !(decide (p = some l[i].1)))) && grn most (some l[i].1) (left - l[i].2) (l.drop (i + 1))) := by
  rw [List.drop_eq_getElem_cons h]; rfl
theorem i_GoodRuns_eq {l : List Rn} (hl : l.length ≤ 1099511627776) (many most : Int) : i_GoodRuns l many most = some (goodRuns l many most) := by
  unfold i_GoodRuns
  refine Ok.eq (Ok.bind (Q := fun v => v = (l, many, most, !(decide (0 ≤ many ∧ many ≤ 120) && decide (0 ≤ most ∧ most ≤ 60)))) ?_ ?_)
  · refine Ok.bind_eq (i_within_eq _ _ _) (Ok.ite (fun h => Ok.mk ?_) fun h => Ok.bind_eq (i_within_eq _ _ _) (Ok.mk ?_))
    · have h' : decide (0 ≤ many ∧ many ≤ 120) = false := by simpa only [Bool.not_eq_true'] using h
      rw [h']; rfl
    · have h' : decide (0 ≤ many ∧ many ≤ 120) = true := by simpa only [Bool.not_eq_true', Bool.not_eq_false] using h
      rw [h', Bool.true_and]
  rintro _ rfl
  dsimp only
  refine Ok.ite (fun hb => Ok.mk ?_) fun hb => ?_
  · have hb' : (decide (0 ≤ many ∧ many ≤ 120) && decide (0 ≤ most ∧ most ≤ 60)) = false := by simpa only [Bool.not_eq_true'] using hb
    unfold goodRuns; rw [hb']; rfl
  have hb' : (decide (0 ≤ many ∧ many ≤ 120) && decide (0 ≤ most ∧ most ≤ 60)) = true := by simpa only [Bool.not_eq_true', Bool.not_eq_false] using hb
  have hg : goodRuns l many most = grn most none many l := by unfold goodRuns; rw [hb', Bool.true_and]
  rw [Bool.and_eq_true, decide_eq_true_eq, decide_eq_true_eq] at hb'
  rw [hg]
  refine Ok.bind (Q := fun r => match r with | .inl y => decide (y.2 = y.1) = grn most none many l | .inr b => b = grn most none many l) ?_ (by rintro (y | b) hr <;> exact Ok.mk hr)
  refine Ok.loop (fun y => y.1 = l ∧ y.2.1 = many ∧ y.2.2.1 = most ∧ (0 ≤ y.2.2.2.1 ∧ y.2.2.2.1 ≤ many) ∧ y.2.2.2.2.1 = l ∧ y.2.2.2.2.2.1 = ((l.length : Nat) : Int) ∧ ∃ i : Nat, y.2.2.2.2.2.2 = ((i : Nat) : Int) ∧ i ≤ l.length ∧ grn most none many l = grn most (prv l i) (many - y.2.2.2.1) (l.drop i))
    (fun y => (((l.length : Nat) : Int) - y.2.2.2.2.2.2).toNat) ⟨rfl, rfl, rfl, ⟨by simp, hb'.1.1⟩, rfl, rfl, 0, rfl, Nat.zero_le _, by simp [prv]⟩ ?_
  rintro ⟨l1, m1, s1, all, l2, n, i'⟩ ⟨e1, e2, e3, ⟨h0, h1⟩, e4, e5, i, e6, hi, hk⟩
  dsimp only at e1 e2 e3 h0 h1 e4 e5 e6 hk
  subst e1 e2 e3 e4 e5 e6
  unfold i_GoodRuns_L1
  dsimp only
  refine Ok.ite (fun hc => ?_) fun hc => ?_
  · have hlt : i < l2.length := by simpa using hc
    have hge : l2[Int.toNat ((i : Nat) : Int)]? = some l2[i] := by simp [hlt]
    refine Ok.yes (by simp) (Ok.bind_eq hge ?_)
    refine Ok.bind (Q := fun v => v = (l2, m1, s1, all, l2, ((l2.length : Nat) : Int), ((i : Nat) : Int), !(decide (0 ≤ l2[i].1 ∧ l2[i].1 ≤ s1) && (decide (1 ≤ l2[i].2 ∧ l2[i].2 ≤ 120) && !(decide (prv l2 i = some l2[i].1)))), l2[i].1, l2[i].2)) ?_ ?_
    · refine Ok.bind_eq (i_within_eq _ _ _) (Ok.ite (fun h => Ok.mk ?_) fun h => Ok.bind_eq (i_within_eq _ _ _) (Ok.ite (fun h2 => Ok.mk ?_) fun h2 => ?_))
      · have h' : decide (0 ≤ l2[i].1 ∧ l2[i].1 ≤ s1) = false := by simpa only [Bool.not_eq_true'] using h
        rw [h']; rfl
      · have h' : decide (1 ≤ l2[i].2 ∧ l2[i].2 ≤ 120) = false := by simpa only [Bool.not_eq_true'] using h2
        rw [h', Bool.false_and, Bool.and_false]; rfl
      · have h' : decide (0 ≤ l2[i].1 ∧ l2[i].1 ≤ s1) = true := by simpa only [Bool.not_eq_true', Bool.not_eq_false] using h
        have h2' : decide (1 ≤ l2[i].2 ∧ l2[i].2 ≤ 120) = true := by simpa only [Bool.not_eq_true', Bool.not_eq_false] using h2
        rw [h', h2', Bool.true_and, Bool.true_and, Bool.not_not]
        refine Ok.ite (fun hp => ?_) fun hp => Ok.mk ?_
        · have hp' : 0 < i := by simpa using hp
          have e : IntKind.wrap .i64 ((i : Int) - 1) = ((i - 1 : Nat) : Int) := by rw [w64 (by omega) (by omega)]; omega
          have hl1 : i - 1 < l2.length := by omega
          refine Ok.yes (by simp [e]) (Ok.bind_eq (r := l2[i - 1]) (by simp [e, List.getElem?_eq_getElem hl1]) (Ok.mk ?_))
          have hne : ¬ i = 0 := by omega
          simp [prv, hne, List.getElem?_eq_getElem hl1]
        · have : i = 0 := by
            have : ¬ (0 : Int) < (i : Int) := by simpa using hp
            omega
          subst this
          simp [prv]
    rintro _ rfl
    dsimp only
    rw [grn_drop hlt] at hk
    refine Ok.ite (fun hbad => Ok.mk ?_) fun hgood => ?_
    · dsimp only
      rw [hk]
      have hbad' : (decide (0 ≤ l2[i].1 ∧ l2[i].1 ≤ s1) && (decide (1 ≤ l2[i].2 ∧ l2[i].2 ≤ 120) && !(decide (prv l2 i = some l2[i].1)))) = false := by simpa only [Bool.not_eq_true'] using hbad
      by_cases q1 : 0 ≤ l2[i].1 ∧ l2[i].1 ≤ s1
      · by_cases q3 : prv l2 i = some l2[i].1
        · simp [q3]
        · have q2 : ¬ (1 ≤ l2[i].2 ∧ l2[i].2 ≤ 120) := by simpa [q1, q3] using hbad'
          have : ¬ (1 ≤ l2[i].2 ∧ l2[i].2 ≤ m1 - all) := by omega
          simp [this]
      · simp [q1]
    · have hgood' : (decide (0 ≤ l2[i].1 ∧ l2[i].1 ≤ s1) && (decide (1 ≤ l2[i].2 ∧ l2[i].2 ≤ 120) && !(decide (prv l2 i = some l2[i].1)))) = true := by simpa only [Bool.not_eq_true', Bool.not_eq_false] using hgood
      rw [Bool.and_eq_true, Bool.and_eq_true, decide_eq_true_eq, decide_eq_true_eq] at hgood'
      obtain ⟨q1, q2, q3⟩ := hgood'
      have w : IntKind.wrap .i64 (all + l2[i].2) = all + l2[i].2 := w64 (by omega) (by omega)
      rw [w]
      refine Ok.ite (fun hbig => Ok.mk ?_) fun hfit => Ok.mk ⟨⟨rfl, rfl, rfl, ?_, rfl, rfl, i + 1, idx_succ hl hlt, by omega, ?_⟩, ?_⟩
      · dsimp only
        have : m1 < all + l2[i].2 := by simpa using hbig
        have : ¬ (1 ≤ l2[i].2 ∧ l2[i].2 ≤ m1 - all) := by omega
        rw [hk]; simp [this]
      · have : ¬ m1 < all + l2[i].2 := by simpa using hfit
        dsimp only; omega
      · have hf : ¬ m1 < all + l2[i].2 := by simpa using hfit
        have q4 : 1 ≤ l2[i].2 ∧ l2[i].2 ≤ m1 - all := by omega
        dsimp only
        rw [hk, prv_succ hlt, q3]
        simp only [q1, q4, and_self, decide_true, Bool.true_and]
        congr 1; omega
      · rw [idx_succ hl hlt]; dsimp only; omega
  · have : i = l2.length := by
      have : ¬ ((i : Int) < ((List.length l2 : Nat) : Int)) := by simpa using hc
      omega
    subst this
    refine Ok.mk ?_
    dsimp only
    rw [hk, List.drop_length, grn]
    exact decide_eq_decide.2 (by omega)
theorem s_GoodRuns_eq {l : List Rn} (hl : l.length ≤ 1099511627776) (many most : Int) : s_GoodRuns l many most = some (goodRuns l many most) := by
  unfold s_GoodRuns
  refine Ok.eq (Ok.bind (Q := fun v => v = (l, many, most, !(decide (0 ≤ many ∧ many ≤ 120) && decide (0 ≤ most ∧ most ≤ 60)))) ?_ ?_)
  · refine Ok.bind_eq (s_In_eq _ _ _) (Ok.ite (fun h => Ok.mk ?_) fun h => Ok.bind_eq (s_In_eq _ _ _) (Ok.mk ?_))
    · have h' : decide (0 ≤ many ∧ many ≤ 120) = false := by simpa only [Bool.not_eq_true'] using h
      rw [h']; rfl
    · have h' : decide (0 ≤ many ∧ many ≤ 120) = true := by simpa only [Bool.not_eq_true', Bool.not_eq_false] using h
      rw [h', Bool.true_and]
  rintro _ rfl
  dsimp only
  refine Ok.ite (fun hb => Ok.mk ?_) fun hb => ?_
  · have hb' : (decide (0 ≤ many ∧ many ≤ 120) && decide (0 ≤ most ∧ most ≤ 60)) = false := by simpa only [Bool.not_eq_true'] using hb
    unfold goodRuns; rw [hb']; rfl
  have hb' : (decide (0 ≤ many ∧ many ≤ 120) && decide (0 ≤ most ∧ most ≤ 60)) = true := by simpa only [Bool.not_eq_true', Bool.not_eq_false] using hb
  have hg : goodRuns l many most = grn most none many l := by unfold goodRuns; rw [hb', Bool.true_and]
  rw [Bool.and_eq_true, decide_eq_true_eq, decide_eq_true_eq] at hb'
  rw [hg]
  refine Ok.bind (Q := fun r => match r with | .inl y => decide (y.2 = y.1) = grn most none many l | .inr b => b = grn most none many l) ?_ (by rintro (y | b) hr <;> exact Ok.mk hr)
  refine Ok.loop (fun y => y.1 = l ∧ y.2.1 = many ∧ y.2.2.1 = most ∧ (0 ≤ y.2.2.2.1 ∧ y.2.2.2.1 ≤ many) ∧ y.2.2.2.2.1 = l ∧ y.2.2.2.2.2.1 = ((l.length : Nat) : Int) ∧ ∃ i : Nat, y.2.2.2.2.2.2 = ((i : Nat) : Int) ∧ i ≤ l.length ∧ grn most none many l = grn most (prv l i) (many - y.2.2.2.1) (l.drop i))
    (fun y => (((l.length : Nat) : Int) - y.2.2.2.2.2.2).toNat) ⟨rfl, rfl, rfl, ⟨by simp, hb'.1.1⟩, rfl, rfl, 0, rfl, Nat.zero_le _, by simp [prv]⟩ ?_
  rintro ⟨l1, m1, s1, all, l2, n, i'⟩ ⟨e1, e2, e3, ⟨h0, h1⟩, e4, e5, i, e6, hi, hk⟩
  dsimp only at e1 e2 e3 h0 h1 e4 e5 e6 hk
  subst e1 e2 e3 e4 e5 e6
  unfold s_GoodRuns_L1
  dsimp only
  have wm : IntKind.wrap .i64 (m1 - all) = m1 - all := w64 (by omega) (by omega)
  rw [wm]
  refine Ok.ite (fun hc => ?_) fun hc => ?_
  · have hlt : i < l2.length := by simpa using hc
    have hge : l2[Int.toNat ((i : Nat) : Int)]? = some l2[i] := by simp [hlt]
    refine Ok.yes (by simp) (Ok.bind_eq hge ?_)
    refine Ok.bind (Q := fun v => v = (l2, m1, s1, all, l2, ((l2.length : Nat) : Int), ((i : Nat) : Int), !(decide (0 ≤ l2[i].1 ∧ l2[i].1 ≤ s1) && (decide (1 ≤ l2[i].2 ∧ l2[i].2 ≤ m1 - all) && !(decide (prv l2 i = some l2[i].1)))), l2[i].1, l2[i].2)) ?_ ?_
    · refine Ok.bind_eq (s_In_eq _ _ _) (Ok.ite (fun h => Ok.mk ?_) fun h => Ok.bind_eq (s_In_eq _ _ _) (Ok.ite (fun h2 => Ok.mk ?_) fun h2 => ?_))
      · have h' : decide (0 ≤ l2[i].1 ∧ l2[i].1 ≤ s1) = false := by simpa only [Bool.not_eq_true'] using h
        rw [h']; rfl
      · have h' : decide (1 ≤ l2[i].2 ∧ l2[i].2 ≤ m1 - all) = false := by simpa only [Bool.not_eq_true'] using h2
        rw [h', Bool.false_and, Bool.and_false]; rfl
      · have h' : decide (0 ≤ l2[i].1 ∧ l2[i].1 ≤ s1) = true := by simpa only [Bool.not_eq_true', Bool.not_eq_false] using h
        have h2' : decide (1 ≤ l2[i].2 ∧ l2[i].2 ≤ m1 - all) = true := by simpa only [Bool.not_eq_true', Bool.not_eq_false] using h2
        rw [h', h2', Bool.true_and, Bool.true_and, Bool.not_not]
        refine Ok.ite (fun hp => ?_) fun hp => Ok.mk ?_
        · have hp' : 0 < i := by simpa using hp
          have e : IntKind.wrap .i64 ((i : Int) - 1) = ((i - 1 : Nat) : Int) := by rw [w64 (by omega) (by omega)]; omega
          have hl1 : i - 1 < l2.length := by omega
          refine Ok.yes (by simp [e]) (Ok.bind_eq (r := l2[i - 1]) (by simp [e, List.getElem?_eq_getElem hl1]) (Ok.mk ?_))
          have hne : ¬ i = 0 := by omega
          simp [prv, hne, List.getElem?_eq_getElem hl1]
        · have : i = 0 := by
            have : ¬ (0 : Int) < (i : Int) := by simpa using hp
            omega
          subst this
          simp [prv]
    rintro _ rfl
    dsimp only
    rw [grn_drop hlt] at hk
    refine Ok.ite (fun hbad => Ok.mk ?_) fun hgood => ?_
    · dsimp only
      rw [hk]
      have hbad' : (decide (0 ≤ l2[i].1 ∧ l2[i].1 ≤ s1) && (decide (1 ≤ l2[i].2 ∧ l2[i].2 ≤ m1 - all) && !(decide (prv l2 i = some l2[i].1)))) = false := by simpa only [Bool.not_eq_true'] using hbad
      rw [hbad', Bool.false_and]
    · have hgood' : (decide (0 ≤ l2[i].1 ∧ l2[i].1 ≤ s1) && (decide (1 ≤ l2[i].2 ∧ l2[i].2 ≤ m1 - all) && !(decide (prv l2 i = some l2[i].1)))) = true := by simpa only [Bool.not_eq_true', Bool.not_eq_false] using hgood
      rw [hgood', Bool.true_and] at hk
      rw [Bool.and_eq_true, Bool.and_eq_true, decide_eq_true_eq, decide_eq_true_eq] at hgood'
      obtain ⟨q1, q2, q3⟩ := hgood'
      have w : IntKind.wrap .i64 (all + l2[i].2) = all + l2[i].2 := w64 (by omega) (by omega)
      rw [w]
      refine Ok.mk ⟨⟨rfl, rfl, rfl, by dsimp only; omega, rfl, rfl, i + 1, idx_succ hl hlt, by omega, ?_⟩, ?_⟩
      · dsimp only
        rw [hk, prv_succ hlt]
        congr 1; omega
      · rw [idx_succ hl hlt]; dsimp only; omega
  · have : i = l2.length := by
      have : ¬ ((i : Int) < ((List.length l2 : Nat) : Int)) := by simpa using hc
      omega
    subst this
    refine Ok.mk ?_
    dsimp only
    rw [hk, List.drop_length, grn]
    exact decide_eq_decide.2 (by omega)
theorem room8 {n m b : Nat} (h : n + m ≤ 1099511627776) (hb : b ≤ 64) : roomFor (n + m) b = true := by
  simp only [roomFor, decide_eq_true_eq]
  have : (n + m) * b ≤ 1099511627776 * 64 := Nat.mul_le_mul h hb
  omega
end Go.V.G

set_option linter.unusedVariables false
set_option linter.unusedSimpArgs false
set_option maxRecDepth 100000
namespace Go.V.G
open Go.V
theorem chn_drop {cs : List (List Prt)} {i : Nat} (h : i < cs.length) (n : Int) : chn n (cs.drop i) = ((good cs[i] && decide (src cs[i] = n)) && chn (tgt cs[i]) (cs.drop (i + 1))) := by
  rw [List.drop_eq_getElem_cons h]; rfl
theorem i_chained_eq {cs : List (List Prt)} (hn : cs.length ≤ 1099511627776) (hs : ∀ c ∈ cs, Sm 1099511627776 c) (n : Int) : i_chained n cs = some (chn n cs) := by
  unfold i_chained
  refine Ok.eq (Ok.bind (Q := fun r => match r with | .inl _ => chn n cs = true | .inr b => b = chn n cs) ?_ (by
    rintro (y | b) hr
    · exact Ok.mk hr.symm
    · exact Ok.mk hr))
  refine Ok.loop (fun y => y.2.1 = cs ∧ y.2.2.1 = ((cs.length : Nat) : Int) ∧ ∃ i : Nat, y.2.2.2 = ((i : Nat) : Int) ∧ i ≤ cs.length ∧ chn n cs = chn y.1 (cs.drop i)) (fun y => (((cs.length : Nat) : Int) - y.2.2.2).toNat) ⟨rfl, rfl, 0, rfl, Nat.zero_le _, rfl⟩ ?_
  rintro ⟨m, cs', l, i'⟩ ⟨e1, e2, i, e3, hi, hk⟩
  dsimp only at e1 e2 e3 hk
  subst e1 e2 e3
  unfold i_chained_L1
  dsimp only
  refine Ok.ite (fun hc => ?_) fun hc => ?_
  · have hlt : i < cs'.length := by simpa using hc
    have hge : cs'[Int.toNat ((i : Nat) : Int)]? = some cs'[i] := by simp [hlt]
    refine Ok.yes (by simp) (Ok.bind_eq hge (Ok.bind_eq (i_LengthsOf_eq (hs _ (List.getElem_mem hlt)) (by omega)) ?_))
    rw [chn_drop hlt] at hk
    unfold lensOf
    cases hg : good cs'[i] with
    | false =>
      rw [hg] at hk
      refine Ok.bind_eq (r := (0, cs', ((cs'.length : Nat) : Int), ((i : Nat) : Int), true)) (by simp) (Ok.yes rfl (Ok.mk ?_))
      dsimp only; rw [hk]; simp
    | true =>
      rw [hg] at hk
      refine Ok.bind_eq (r := (tgt cs'[i], cs', ((cs'.length : Nat) : Int), ((i : Nat) : Int), decide (¬ src cs'[i] = m))) (by simp) ?_
      dsimp only
      refine Ok.ite (fun hb => Ok.mk ?_) fun hb => Ok.mk ⟨⟨rfl, rfl, i + 1, idx_succ hn hlt, by omega, ?_⟩, ?_⟩
      · have : ¬ src cs'[i] = m := by simpa using hb
        dsimp only; rw [hk]; simp [this]
      · have : src cs'[i] = m := by simpa using hb
        dsimp only; rw [hk]; simp [this]
      · rw [idx_succ hn hlt]; dsimp only; omega
  · have : i = cs'.length := by
      have : ¬ ((i : Int) < ((List.length cs' : Nat) : Int)) := by simpa using hc
      omega
    subst this
    refine Ok.mk ?_
    dsimp only
    rw [hk, List.drop_length]; rfl
theorem i_GoodHistory_eq {t : List UInt8} {r : List Rn} {cs : List (List Prt)} (h : HB t r cs) (f : Int) : i_GoodHistory f t r cs = some (goodH f t r cs) := by
  unfold i_GoodHistory goodH
  refine Ok.eq (Ok.bind (Q := fun b => b = _) ?_ (fun b hb => Ok.mk hb))
  refine Ok.bind_eq (i_within_eq _ _ _) (Ok.ite (fun q1 => ?_) fun q1 => Ok.mk ?_)
  · have q1' : 0 ≤ f ∧ f ≤ 60 := by simpa using q1
    rw [show decide (0 ≤ f ∧ f ≤ 60) = true from q1, Bool.true_and]
    refine Ok.ite (fun q2 => Ok.bind_eq (i_GoodRuns_eq h.hr _ _) (Ok.ite (fun q3 => ?_) fun q3 => Ok.mk ?_)) fun q2 => Ok.mk ?_
    · rw [show decide (((t.length : Nat) : Int) ≤ 120) = true from q2, q3, Bool.true_and, Bool.true_and]
      rw [w64 (show -9223372036854775808 ≤ 60 - f by omega) (by omega)]
      refine Ok.ite (fun q4 => Ok.bind_eq (i_chained_eq h.hn h.hc _) (Ok.mk ?_)) fun q4 => Ok.mk ?_
      · rw [q4, Bool.true_and]
      · have : decide (((cs.length : Nat) : Int) ≤ 60 - f) = false := by simpa using q4
        rw [this, Bool.false_and]
    · have : goodRuns r ((t.length : Nat) : Int) f = false := by simpa using q3
      rw [this]; simp
    · have : decide (((t.length : Nat) : Int) ≤ 120) = false := by simpa using q2
      rw [this]; simp
  · have : decide (0 ≤ f ∧ f ≤ 60) = false := by simpa using q1
    rw [this]; simp
theorem s_GoodHistory_eq {t : List UInt8} {r : List Rn} {cs : List (List Prt)} (h : HB t r cs) (f : Int) : s_GoodHistory f t r cs = some (goodH f t r cs) := by
  have hn := h.hn
  unfold s_GoodHistory
  refine Ok.eq (Ok.bind (Q := fun v => v = (!(decide (0 ≤ f ∧ f ≤ 60) && (decide (((t.length : Nat) : Int) ≤ 120) && (goodRuns r ((t.length : Nat) : Int) f && decide (((cs.length : Nat) : Int) ≤ 60 - f)))), f, t, r, cs)) ?_ ?_)
  · refine Ok.bind_eq (s_In_eq _ _ _) (Ok.ite (fun q1 => Ok.mk ?_) fun q1 => Ok.ite (fun q2 => Ok.mk ?_) fun q2 => Ok.bind_eq (s_GoodRuns_eq h.hr _ _) (Ok.ite (fun q3 => Ok.mk ?_) fun q3 => Ok.mk ?_))
    · have : decide (0 ≤ f ∧ f ≤ 60) = false := by simpa only [Bool.not_eq_true'] using q1
      rw [this]; rfl
    · have : ¬ ((t.length : Nat) : Int) ≤ 120 := by have : (120 : Int) < ((t.length : Nat) : Int) := by simpa using q2
                                                    omega
      simp [this]
    · have : goodRuns r ((t.length : Nat) : Int) f = false := by simpa only [Bool.not_eq_true'] using q3
      rw [this]; simp
    · have g1 : 0 ≤ f ∧ f ≤ 60 := by simpa using q1
      have g2 : ((t.length : Nat) : Int) ≤ 120 := by
        have : ¬ (120 : Int) < ((t.length : Nat) : Int) := by simpa using q2
        omega
      have g3 : goodRuns r ((t.length : Nat) : Int) f = true := by simpa only [Bool.not_eq_true', Bool.not_eq_false] using q3
      rw [w64 (show -9223372036854775808 ≤ 60 - f by omega) (by omega), g3]
      simp only [g1, and_self, decide_true, g2, Bool.true_and]
      congr 1
      by_cases hx : 60 - f < ((cs.length : Nat) : Int)
      · have : ¬ ((cs.length : Nat) : Int) ≤ 60 - f := by omega
        simp [hx, this]
      · have : ((cs.length : Nat) : Int) ≤ 60 - f := by omega
        simp [hx, this]
  rintro _ rfl
  dsimp only
  have split : goodH f t r cs = ((decide (0 ≤ f ∧ f ≤ 60) && (decide (((t.length : Nat) : Int) ≤ 120) && (goodRuns r ((t.length : Nat) : Int) f && decide (((cs.length : Nat) : Int) ≤ 60 - f)))) && chn ((t.length : Nat) : Int) cs) := by
    unfold goodH; simp only [Bool.and_assoc]
  rw [split]
  refine Ok.ite (fun hb => Ok.mk ?_) fun hb => ?_
  · have : (decide (0 ≤ f ∧ f ≤ 60) && (decide (((t.length : Nat) : Int) ≤ 120) && (goodRuns r ((t.length : Nat) : Int) f && decide (((cs.length : Nat) : Int) ≤ 60 - f)))) = false := by simpa only [Bool.not_eq_true'] using hb
    rw [this]; rfl
  have hb' : (decide (0 ≤ f ∧ f ≤ 60) && (decide (((t.length : Nat) : Int) ≤ 120) && (goodRuns r ((t.length : Nat) : Int) f && decide (((cs.length : Nat) : Int) ≤ 60 - f)))) = true := by simpa only [Bool.not_eq_true', Bool.not_eq_false] using hb
  rw [hb', Bool.true_and]
  have ht : ((t.length : Nat) : Int) ≤ 120 := by simp only [Bool.and_eq_true, decide_eq_true_eq] at hb'; exact hb'.2.1
  refine Ok.bind (Q := fun r => match r with | .inl _ => chn ((t.length : Nat) : Int) cs = true | .inr b => b = chn ((t.length : Nat) : Int) cs) ?_ (by
    rintro (y | b) hr
    · exact Ok.mk hr.symm
    · exact Ok.mk hr)
  refine Ok.loop (fun y => y.2.1 = cs ∧ y.2.2.1 = ((cs.length : Nat) : Int) ∧ ∃ i : Nat, y.2.2.2 = ((i : Nat) : Int) ∧ i ≤ cs.length ∧ chn ((t.length : Nat) : Int) cs = chn y.1 (cs.drop i)) (fun y => (((cs.length : Nat) : Int) - y.2.2.2).toNat) ⟨rfl, rfl, 0, rfl, Nat.zero_le _, rfl⟩ ?_
  rintro ⟨m, cs', l, i'⟩ ⟨e1, e2, i, e3, hi, hk⟩
  dsimp only at e1 e2 e3 hk
  subst e1 e2 e3
  unfold s_GoodHistory_L1
  dsimp only
  refine Ok.ite (fun hc => ?_) fun hc => ?_
  · have hlt : i < cs'.length := by simpa using hc
    have hge : cs'[Int.toNat ((i : Nat) : Int)]? = some cs'[i] := by simp [hlt]
    have sm := h.hc _ (List.getElem_mem hlt)
    refine Ok.yes (by simp) (Ok.bind_eq hge ?_)
    rw [chn_drop hlt] at hk
    cases hg : good cs'[i] with
    | false =>
      rw [hg] at hk
      refine Ok.bind_eq (r := (cs', ((cs'.length : Nat) : Int), ((i : Nat) : Int), true, cs'[i])) (by rw [s_Good_eq sm (by omega), hg]; rfl) (Ok.yes rfl (Ok.mk ?_))
      dsimp only; rw [hk]; simp
    | true =>
      rw [hg] at hk
      have ss := okk_some (good_spec hg).1
      have g2 := (good_spec hg).2
      refine Ok.bind_eq (r := (cs', ((cs'.length : Nat) : Int), ((i : Nat) : Int), decide (¬ src cs'[i] = m), cs'[i])) (by rw [s_Good_eq sm (by omega), hg, Option.bind_some, if_neg (by simp), s_Source_eq sm (by omega) ss (by omega)]; rfl) ?_
      dsimp only
      refine Ok.ite (fun hb => Ok.mk ?_) fun hb => Ok.bind_eq (s_Target_eq sm (by omega) ss (by omega)) (Ok.mk ⟨⟨rfl, rfl, i + 1, idx_succ hn hlt, by omega, ?_⟩, ?_⟩)
      · have : ¬ src cs'[i] = m := by simpa using hb
        dsimp only; rw [hk]; simp [this]
      · have : src cs'[i] = m := by simpa using hb
        dsimp only; rw [hk]; simp [this]
      · rw [idx_succ hn hlt]; dsimp only; omega
  · have : i = cs'.length := by
      have : ¬ ((i : Int) < ((List.length cs' : Nat) : Int)) := by simpa using hc
      omega
    subst this
    refine Ok.mk ?_
    dsimp only
    rw [hk, List.drop_length]; rfl
theorem i_code_eq {t : List UInt8} {r : List Rn} {cs : List (List Prt)} (h : HB t r cs) (f a b : Int) : i_History_code f t r cs a b = some (codeH f t r cs a b) := by
  unfold i_History_code codeH
  rw [i_GoodHistory_eq h, Option.bind_some]
  cases hg : goodH f t r cs with
  | false => simp
  | true =>
    have g := goodH_iff.1 hg
    have := g.hf; have := g.hn
    have w : IntKind.wrap .i64 (f + ((cs.length : Nat) : Int)) = f + ((cs.length : Nat) : Int) := w64 (by omega) (by omega)
    simp only [Bool.not_true, Bool.false_eq_true, if_false, if_true, i_History_head, Option.bind_some, w]
    by_cases h1 : a < f
    · have : ¬ (f ≤ a ∧ a ≤ b ∧ b ≤ f + ((cs.length : Nat) : Int)) := by omega
      simp [h1, this]
    · by_cases h2 : b < a
      · have : ¬ (f ≤ a ∧ a ≤ b ∧ b ≤ f + ((cs.length : Nat) : Int)) := by omega
        simp [h1, h2, this]
      · by_cases h3 : f + ((cs.length : Nat) : Int) < b
        · have : ¬ (f ≤ a ∧ a ≤ b ∧ b ≤ f + ((cs.length : Nat) : Int)) := by omega
          simp [h1, h2, h3, this]
        · have : (f ≤ a ∧ a ≤ b ∧ b ≤ f + ((cs.length : Nat) : Int)) := by omega
          simp [h1, h2, h3, this]
theorem s_range_eq {t : List UInt8} {r : List Rn} {cs : List (List Prt)} (h : HB t r cs) (f a b : Int) : s_l10Range f t r cs a b = some (codeH f t r cs a b) := by
  unfold s_l10Range codeH
  rw [s_GoodHistory_eq h, Option.bind_some]
  cases hg : goodH f t r cs with
  | false => simp
  | true =>
    have g := goodH_iff.1 hg
    have := g.hf; have := g.hn
    have w : IntKind.wrap .i64 (f + ((cs.length : Nat) : Int)) = f + ((cs.length : Nat) : Int) := w64 (by omega) (by omega)
    simp only [Bool.not_true, Bool.false_eq_true, if_false, if_true, s_l10Head, Option.bind_some, w, s_In_eq]
    by_cases h1 : f ≤ a ∧ a ≤ b
    · by_cases h3 : f + ((cs.length : Nat) : Int) < b
      · have : ¬ (f ≤ a ∧ a ≤ b ∧ b ≤ f + ((cs.length : Nat) : Int)) := by omega
        simp [h1, h3, this]
      · have : (f ≤ a ∧ a ≤ b ∧ b ≤ f + ((cs.length : Nat) : Int)) := by omega
        simp [h1, h3, this]
    · have : ¬ (f ≤ a ∧ a ≤ b ∧ b ≤ f + ((cs.length : Nat) : Int)) := by omega
      simp [h1, this]
theorem s_apply_loop : s_ApplyChange_L1 = i_apply_L1 := rfl
theorem s_apply_eq {c : List Prt} (hg : good c = true) {t : List UInt8} (ht : ((t.length : Nat) : Int) = src c) : s_ApplyChange t c = some (apply t c, true) := by
  have hs := okk_some (good_spec hg).1
  have sm := good_sm hg
  have sle := (good_spec hg).2.1
  have ha := i_apply_eq hg ht
  unfold i_apply at ha
  rw [Option.bind_eq_some_iff] at ha
  obtain ⟨z, hz, he⟩ := ha
  obtain rfl : z = apply t c := Option.some.inj he
  unfold s_ApplyChange
  rw [s_Good_eq sm (by omega), hg, Option.bind_some, if_neg (by simp), s_Source_eq sm (by omega) hs (by omega), Option.bind_some, Option.bind_some, if_neg (by simp [ht]), s_apply_loop]
  rw [hz]; rfl
theorem txt_take {t : List UInt8} {cs : List (List Prt)} {i : Nat} (h : i < cs.length) : txt t (cs.take (i + 1)) = apply (txt t (cs.take i)) cs[i] := by
  unfold txt; rw [List.take_succ_eq_append_getElem h, List.foldl_append]; rfl
theorem chn_at {n : Int} {cs : List (List Prt)} (h : chn n cs = true) {i : Nat} (hi : i < cs.length) : good cs[i] = true ∧ src cs[i] = endl n (cs.take i) ∧ endl n (cs.take (i + 1)) = tgt cs[i] := by
  have h2 := (chn_take h i).2
  rw [List.drop_eq_getElem_cons hi] at h2
  obtain ⟨k1, k2, k3⟩ := chn_cons h2
  refine ⟨k1, k2, ?_⟩
  rw [List.take_succ_eq_append_getElem hi, endl_append]; rfl
theorem i_text_loop {t : List UInt8} {cs : List (List Prt)} (hn : cs.length ≤ 1099511627776) (hc : chn ((t.length : Nat) : Int) cs = true) : loopG i_History_text_L1 (t, cs, ((cs.length : Nat) : Int), 0) = some (txt t cs) := by
  have := loop_run i_History_text_L1 (fun i => (txt t (cs.take i), cs, ((cs.length : Nat) : Int), ((i : Nat) : Int))) cs.length (txt t cs) (by
    intro i hi
    have hlt : ((i : Nat) : Int) < ((cs.length : Nat) : Int) := by omega
    obtain ⟨k1, k2, k3⟩ := chn_at hc hi
    have hl := txt_len (chn_take hc i).1
    unfold i_History_text_L1
    simp only [hlt, decide_true, if_true, show (0 : Int) ≤ ((i : Nat) : Int) from by omega, Int.toNat_natCast, List.getElem?_eq_getElem hi, Option.bind_some, i_apply_eq k1 (by rw [hl, k2]), idx_succ hn hi, txt_take hi]) (by simp [i_History_text_L1])
  simpa [txt] using this
theorem s_text_loop {t : List UInt8} {cs : List (List Prt)} (hn : cs.length ≤ 1099511627776) (hc : chn ((t.length : Nat) : Int) cs = true) : loopG s_l10Text_L1 (t, cs, ((cs.length : Nat) : Int), 0) = some (txt t cs) := by
  have := loop_run s_l10Text_L1 (fun i => (txt t (cs.take i), cs, ((cs.length : Nat) : Int), ((i : Nat) : Int))) cs.length (txt t cs) (by
    intro i hi
    have hlt : ((i : Nat) : Int) < ((cs.length : Nat) : Int) := by omega
    obtain ⟨k1, k2, k3⟩ := chn_at hc hi
    have hl := txt_len (chn_take hc i).1
    unfold s_l10Text_L1
    simp only [hlt, decide_true, if_true, show (0 : Int) ≤ ((i : Nat) : Int) from by omega, Int.toNat_natCast, List.getElem?_eq_getElem hi, Option.bind_some, s_apply_eq k1 (by rw [hl, k2]), idx_succ hn hi, txt_take hi]) (by simp [s_l10Text_L1])
  simpa [txt] using this
section
variable {f : Int} {t : List UInt8} {r : List Rn} {cs : List (List Prt)}
theorem i_text_eq (g : GH f t r cs) {x : Int} (h1 : f ≤ x) (h2 : x ≤ f + cs.length) : i_History_text f t r cs x = some (txt t (cs.take (x - f).toNat)) := by
  have := g.hf; have := g.hn
  have w : IntKind.wrap .i64 (x - f) = x - f := w64 (by omega) (by omega)
  have hl := i_text_loop (cs := cs.take (x - f).toNat) (by rw [List.length_take]; omega) (chn_take g.hc _).1
  unfold i_History_text
  simp only [w, Int.le_refl, decide_true, if_true, show (0 : Int) ≤ x - f from by omega, show x - f ≤ ((cs.length : Nat) : Int) from by omega, Int.toNat_zero, List.drop_zero, Nat.sub_zero]
  rw [hl]; rfl
theorem s_text_eq (g : GH f t r cs) {x : Int} (h1 : f ≤ x) (h2 : x ≤ f + cs.length) : s_l10Text f t r cs x = some (txt t (cs.take (x - f).toNat)) := by
  have := g.hf; have := g.hn
  have w : IntKind.wrap .i64 (x - f) = x - f := w64 (by omega) (by omega)
  have hl := s_text_loop (cs := cs.take (x - f).toNat) (by rw [List.length_take]; omega) (chn_take g.hc _).1
  unfold s_l10Text
  simp only [w, Int.le_refl, decide_true, if_true, show (0 : Int) ≤ x - f from by omega, show x - f ≤ ((cs.length : Nat) : Int) from by omega, Int.toNat_zero, List.drop_zero, Nat.sub_zero]
  rw [hl]; rfl
theorem text_in (g : GH f t r cs) (k : Nat) : (((txt t (cs.take k)).length : Nat) : Int) = endl ((t.length : Nat) : Int) (cs.take k) ∧ 0 ≤ endl ((t.length : Nat) : Int) (cs.take k) ∧ endl ((t.length : Nat) : Int) (cs.take k) ≤ 120 :=
  ⟨txt_len (chn_take g.hc k).1, endl_in (chn_take g.hc k).1 (by omega) g.ht⟩
end
end Go.V.G

set_option linter.unusedVariables false
set_option linter.unusedSimpArgs false
set_option maxRecDepth 100000
namespace Go.V.G
open Go.V
section
variable {α : Type}
theorem ixS {n i : Nat} (hn : n ≤ 4611686018427387904) (h : i < n) : IntKind.wrap .i64 (((i : Nat) : Int) + 1) = ((i + 1 : Nat) : Int) := by rw [w64 (by omega) (by omega)]; omega
def wsum (w : α → Nat) : List α → Nat
  | [] => 0
  | x :: xs => w x + wsum w xs
theorem wsum_mem (w : α → Nat) : ∀ {xs : List α} {x : α}, x ∈ xs → w x ≤ wsum w xs
  | y :: xs, x, h => by
    rcases List.mem_cons.1 h with rfl | h
    · simp only [wsum]; omega
    · have := wsum_mem w h; simp only [wsum]; omega
def lft (l : Int) (n : Nat) : Int := if ((n : Nat) : Int) ≤ l then l - n else -1
theorem sz_loop (f : List α × (Int × Int) → Option ((List α × (Int × Int)) ⊕ (Int ⊕ Int))) (w : α → Nat) (xs : List α)
    (step : ∀ (i : Nat) (h : i < xs.length) (l : Int), 0 ≤ l → l ≤ 1048576 → f (xs, l, ((i : Nat) : Int)) = some (if ((w xs[i] : Nat) : Int) ≤ l then .inl (xs, l - w xs[i], ((i + 1 : Nat) : Int)) else .inr (.inr (-1))))
    (last : ∀ l, f (xs, l, ((xs.length : Nat) : Int)) = some (.inr (.inl l))) {l : Int} (h0 : 0 ≤ l) (h1 : l ≤ 1048576) :
    loopG f (xs, l, 0) = some (if ((wsum w xs : Nat) : Int) ≤ l then .inl (l - wsum w xs) else .inr (-1)) := by
  have := loop_fn f (fun y => y.1 = xs ∧ (0 ≤ y.2.1 ∧ y.2.1 ≤ 1048576) ∧ ∃ i : Nat, y.2.2 = ((i : Nat) : Int) ∧ i ≤ xs.length) (fun y => (((xs.length : Nat) : Int) - y.2.2).toNat)
    (fun y => if ((wsum w (y.1.drop y.2.2.toNat) : Nat) : Int) ≤ y.2.1 then .inl (y.2.1 - wsum w (y.1.drop y.2.2.toNat)) else .inr (-1)) (by
      rintro ⟨ys, l, i'⟩ ⟨e1, ⟨h0, h1⟩, i, e2, hi⟩
      dsimp only at e1 h0 h1 e2
      subst e1 e2
      dsimp only
      rcases Nat.lt_or_ge i ys.length with hlt | hge
      · have hs := step i hlt l h0 h1
        have hd : wsum w (ys.drop i) = w ys[i] + wsum w (ys.drop (i + 1)) := by rw [List.drop_eq_getElem_cons hlt]; rfl
        simp only [Int.toNat_natCast]
        by_cases hw : ((w ys[i] : Nat) : Int) ≤ l
        · left
          rw [if_pos hw] at hs
          refine ⟨_, hs, ⟨rfl, by dsimp only; omega, i + 1, rfl, by omega⟩, by dsimp only; omega, ?_⟩
          dsimp only
          simp only [Int.toNat_natCast, hd]
          by_cases hx : (((wsum w (ys.drop (i + 1)) : Nat) : Int)) ≤ l - ((w ys[i] : Nat) : Int)
          · rw [if_pos hx, if_pos (by omega)]
            congr 1; omega
          · rw [if_neg hx, if_neg (by omega)]
        · right
          rw [if_neg hw] at hs
          rw [hs, if_neg (by rw [hd]; omega)]
      · right
        have : i = ys.length := by omega
        subst this
        rw [last]
        simp [wsum, h0]) (xs, l, 0) ⟨rfl, ⟨h0, h1⟩, 0, rfl, Nat.zero_le _⟩
  simpa using this
theorem eq_loop (f : List α × (List α × Int) → Option ((List α × (List α × Int)) ⊕ (Unit ⊕ Bool))) (xs : List α) (step : ∀ (i : Nat) (h : i < xs.length), f (xs, xs, ((i : Nat) : Int)) = some (.inl (xs, xs, ((i + 1 : Nat) : Int))))
    (last : f (xs, xs, ((xs.length : Nat) : Int)) = some (.inr (.inl ()))) : loopG f (xs, xs, 0) = some (.inl ()) := by
  have := loop_run f (fun k => (xs, xs, ((k : Nat) : Int))) xs.length (.inl ()) (fun k hk => step k hk) last
  simpa using this
theorem to_loop (f : List α × (List α × Int) → Option ((List α × (List α × Int)) ⊕ (List α))) (xs : List α) (z : α)
    (step : ∀ (ys : List α) (i : Nat) (h : i < xs.length), ys.length = xs.length → f (xs, ys, ((i : Nat) : Int)) = some (.inl (xs, ys.set i xs[i], ((i + 1 : Nat) : Int))))
    (last : ∀ ys : List α, f (xs, ys, ((xs.length : Nat) : Int)) = some (.inr ys)) : loopG f (xs, List.replicate xs.length z, 0) = some xs := by
  have := loop_run f (fun k => (xs, xs.take k ++ List.replicate (xs.length - k) z, ((k : Nat) : Int))) xs.length xs (fun k hk => by
    rw [step _ k hk (by simp; omega), show xs.length - k = (xs.length - (k + 1)) + 1 by omega, List.replicate_succ, List.take_succ_eq_append_getElem hk, List.set_append_right _ _ (by simp; omega),
      List.length_take, Nat.min_eq_left (Nat.le_of_lt hk), Nat.sub_self, List.set_cons_zero, List.append_assoc]
    rfl) (by rw [last]; simp)
  simpa using this
end
end Go.V.G

set_option linter.unusedVariables false
set_option linter.unusedSimpArgs false
set_option maxRecDepth 100000
namespace Go.V.G
open Go.V
def fit_RunS (xs : List (Int × Int)) : Prop := xs.length ≤ maxLen
def w_RunS (xs : List (Int × Int)) : Nat := xs.length
theorem w_RunS_len (xs : List (Int × Int)) : xs.length ≤ w_RunS xs := by unfold w_RunS; omega
theorem sz_RunS {xs : List (Int × Int)} (hf : fit_RunS xs) {l : Int} (h0 : 0 ≤ l) (h1 : l ≤ 1048576) : l_szRunS xs l = some (lft l (w_RunS xs)) := by
  have hl : xs.length ≤ maxLen := hf
  unfold maxLen at hl
  unfold l_szRunS lft w_RunS
  rw [w64 (by omega) (by omega)]
  by_cases h : l - ((xs.length : Nat) : Int) < 0
  · rw [if_pos (by simpa using h), if_neg (by omega)]
  · rw [if_neg (by simpa using h), if_pos (by omega)]
theorem to_RunS {xs : List (Int × Int)} (h : w_RunS xs ≤ 1048576) : l_toRunS xs = some xs := by
  have hl := w_RunS_len xs
  have hr : roomFor xs.length 16 = true := by simp only [roomFor, decide_eq_true_eq]; omega
  unfold l_toRunS
  simp only [Int.toNat_natCast, hr, if_true, Int.le_refl, decide_true, show (0 : Int) ≤ ((xs.length : Nat) : Int) from by omega]
  rw [to_loop l_toRunS_L1 xs _ (by
    intro ys i hi hy
    have hc : ((i : Nat) : Int) < ((xs.length : Nat) : Int) := by omega
    have hy' : i < ys.length := by omega
    have g1 : ∀ x, (ys.set i x)[i]? = some x := fun x => List.getElem?_set_self hy'
    skip
    unfold l_toRunS_L1
    simp only [hy, hc, decide_true, if_true, show (0 : Int) ≤ ((i : Nat) : Int) from by omega, Int.toNat_natCast, List.getElem?_eq_getElem hi, List.getElem?_eq_getElem hy', Option.bind_some, Nat.zero_add, List.set_set, g1, ixS (show xs.length ≤ 4611686018427387904 by omega) hi, l_toRun]) (by intro ys; simp [l_toRunS_L1])]
  rfl
theorem eq_Run (x : Int × Int) : l_eqRun x.1 x.2 x.1 x.2 = some true := by simp [l_eqRun]
theorem eq_RunS {xs : List (Int × Int)} (h : w_RunS xs ≤ 1099511627776) : l_eqRunS xs xs = some true := by
  have hl := w_RunS_len xs
  unfold l_eqRunS
  rw [if_neg (by simp), eq_loop l_eqRunS_L1 xs (by
    intro i hi
    have hc : ((i : Nat) : Int) < ((xs.length : Nat) : Int) := by omega
    skip
    unfold l_eqRunS_L1
    simp only [hc, decide_true, if_true, show (0 : Int) ≤ ((i : Nat) : Int) from by omega, Int.toNat_natCast, List.getElem?_eq_getElem hi, Option.bind_some, ixS (show xs.length ≤ 4611686018427387904 by omega) hi, eq_Run, Bool.not_true, Bool.false_eq_true, if_false, not_true_eq_false, decide_false]) (by simp [l_eqRunS_L1])]
  rfl
def fit_PartS (xs : List (Int × (Int × List UInt8))) : Prop := xs.length ≤ maxLen ∧ ∀ x ∈ xs, x.2.2.length ≤ maxLen
def w_Part (x : Int × (Int × List UInt8)) : Nat := x.2.2.length
def w_PartS (xs : List (Int × (Int × List UInt8))) : Nat := xs.length + wsum w_Part xs
theorem w_PartS_len (xs : List (Int × (Int × List UInt8))) : xs.length ≤ w_PartS xs := by unfold w_PartS; omega
theorem sz_Part {x : Int × (Int × List UInt8)} (hf : x.2.2.length ≤ maxLen) {l : Int} (h0 : 0 ≤ l) (h1 : l ≤ 1048576) : l_szPart x.1 x.2.1 x.2.2 l = some (lft l (w_Part x)) := by
  unfold maxLen at hf
  unfold l_szPart lft w_Part
  rw [w64 (by omega) (by omega)]
  by_cases h : l - ((x.2.2.length : Nat) : Int) < 0
  · rw [if_pos (by simpa using h), if_neg (by omega)]
  · rw [if_neg (by simpa using h), if_pos (by omega)]
theorem sz_PartS {xs : List (Int × (Int × List UInt8))} (hf : fit_PartS xs) {l : Int} (h0 : 0 ≤ l) (h1 : l ≤ 1048576) : l_szPartS xs l = some (lft l (w_PartS xs)) := by
  obtain ⟨hl, hx⟩ := hf
  unfold maxLen at hl
  unfold l_szPartS
  rw [w64 (by omega) (by omega)]
  by_cases h : l - ((xs.length : Nat) : Int) < 0
  · rw [if_pos (by simpa using h)]; unfold lft w_PartS; rw [if_neg (by omega)]
  · rw [if_neg (by simpa using h), sz_loop l_szPartS_L1 w_Part xs (by
      intro i hi l h0 h1
      have hc : ((i : Nat) : Int) < ((xs.length : Nat) : Int) := by omega
      have hx := hx _ (List.getElem_mem hi)
      unfold l_szPartS_L1
      simp only [hc, decide_true, if_true, show (0 : Int) ≤ ((i : Nat) : Int) from by omega, Int.toNat_natCast, List.getElem?_eq_getElem hi, Option.bind_some, sz_Part (hx) h0 h1, ixS (show xs.length ≤ 4611686018427387904 by omega) hi]
      unfold lft
      by_cases hw : ((w_Part xs[i] : Nat) : Int) ≤ l
      · have : ¬ l - ((w_Part xs[i] : Nat) : Int) < 0 := by omega
        simp [hw, this]
      · simp [hw]) (by intro l; simp [l_szPartS_L1]) (by omega) (by omega), Option.bind_some]
    unfold lft w_PartS
    by_cases hx : ((wsum w_Part xs : Nat) : Int) ≤ l - ((xs.length : Nat) : Int)
    · rw [if_pos hx, if_pos (by omega)]
      show some _ = some _
      congr 1; omega
    · rw [if_neg hx, if_neg (by omega)]
theorem to_PartS {xs : List (Int × (Int × List UInt8))} (h : w_PartS xs ≤ 1048576) : l_toPartS xs = some xs := by
  have hl := w_PartS_len xs
  have hr : roomFor xs.length 32 = true := by simp only [roomFor, decide_eq_true_eq]; omega
  unfold l_toPartS
  simp only [Int.toNat_natCast, hr, if_true, Int.le_refl, decide_true, show (0 : Int) ≤ ((xs.length : Nat) : Int) from by omega]
  rw [to_loop l_toPartS_L1 xs _ (by
    intro ys i hi hy
    have hc : ((i : Nat) : Int) < ((xs.length : Nat) : Int) := by omega
    have hy' : i < ys.length := by omega
    have g1 : ∀ x, (ys.set i x)[i]? = some x := fun x => List.getElem?_set_self hy'
    skip
    unfold l_toPartS_L1
    simp only [hy, hc, decide_true, if_true, show (0 : Int) ≤ ((i : Nat) : Int) from by omega, Int.toNat_natCast, List.getElem?_eq_getElem hi, List.getElem?_eq_getElem hy', Option.bind_some, Nat.zero_add, List.set_set, g1, ixS (show xs.length ≤ 4611686018427387904 by omega) hi, l_toPart]) (by intro ys; simp [l_toPartS_L1])]
  rfl
theorem eq_Part (x : Int × (Int × List UInt8)) : l_eqPart x.1 x.2.1 x.2.2 x.1 x.2.1 x.2.2 = some true := by simp [l_eqPart]
theorem eq_PartS {xs : List (Int × (Int × List UInt8))} (h : w_PartS xs ≤ 1099511627776) : l_eqPartS xs xs = some true := by
  have hl := w_PartS_len xs
  unfold l_eqPartS
  rw [if_neg (by simp), eq_loop l_eqPartS_L1 xs (by
    intro i hi
    have hc : ((i : Nat) : Int) < ((xs.length : Nat) : Int) := by omega
    skip
    unfold l_eqPartS_L1
    simp only [hc, decide_true, if_true, show (0 : Int) ≤ ((i : Nat) : Int) from by omega, Int.toNat_natCast, List.getElem?_eq_getElem hi, Option.bind_some, ixS (show xs.length ≤ 4611686018427387904 by omega) hi, eq_Part, Bool.not_true, Bool.false_eq_true, if_false, not_true_eq_false, decide_false]) (by simp [l_eqPartS_L1])]
  rfl
def fit_ChangeS (xs : List (List (Int × (Int × List UInt8)))) : Prop := xs.length ≤ maxLen ∧ ∀ x ∈ xs, fit_PartS x
def w_ChangeS (xs : List (List (Int × (Int × List UInt8)))) : Nat := xs.length + wsum w_PartS xs
theorem w_ChangeS_len (xs : List (List (Int × (Int × List UInt8)))) : xs.length ≤ w_ChangeS xs := by unfold w_ChangeS; omega
theorem sz_Change {x : List (Int × (Int × List UInt8))} (hf : fit_PartS x) {l : Int} (h0 : 0 ≤ l) (h1 : l ≤ 1048576) : l_szChange x l = some (lft l (w_PartS x)) := by
  unfold l_szChange
  rw [sz_PartS hf h0 h1, Option.bind_some]
  by_cases h : lft l (w_PartS x) < 0
  · rw [if_pos (by simpa using h)]; unfold lft at h ⊢; split at h
    · omega
    · rename_i hn; rw [if_neg hn]
  · rw [if_neg (by simpa using h)]
theorem sz_ChangeS {xs : List (List (Int × (Int × List UInt8)))} (hf : fit_ChangeS xs) {l : Int} (h0 : 0 ≤ l) (h1 : l ≤ 1048576) : l_szChangeS xs l = some (lft l (w_ChangeS xs)) := by
  obtain ⟨hl, hx⟩ := hf
  unfold maxLen at hl
  unfold l_szChangeS
  rw [w64 (by omega) (by omega)]
  by_cases h : l - ((xs.length : Nat) : Int) < 0
  · rw [if_pos (by simpa using h)]; unfold lft w_ChangeS; rw [if_neg (by omega)]
  · rw [if_neg (by simpa using h), sz_loop l_szChangeS_L1 w_PartS xs (by
      intro i hi l h0 h1
      have hc : ((i : Nat) : Int) < ((xs.length : Nat) : Int) := by omega
      have hx := hx _ (List.getElem_mem hi)
      unfold l_szChangeS_L1
      simp only [hc, decide_true, if_true, show (0 : Int) ≤ ((i : Nat) : Int) from by omega, Int.toNat_natCast, List.getElem?_eq_getElem hi, Option.bind_some, sz_Change (hx) h0 h1, ixS (show xs.length ≤ 4611686018427387904 by omega) hi]
      unfold lft
      by_cases hw : ((w_PartS xs[i] : Nat) : Int) ≤ l
      · have : ¬ l - ((w_PartS xs[i] : Nat) : Int) < 0 := by omega
        simp [hw, this]
      · simp [hw]) (by intro l; simp [l_szChangeS_L1]) (by omega) (by omega), Option.bind_some]
    unfold lft w_ChangeS
    by_cases hx : ((wsum w_PartS xs : Nat) : Int) ≤ l - ((xs.length : Nat) : Int)
    · rw [if_pos hx, if_pos (by omega)]
      show some _ = some _
      congr 1; omega
    · rw [if_neg hx, if_neg (by omega)]
theorem to_Change {x : List (Int × (Int × List UInt8))} (h : w_PartS x ≤ 1048576) : l_toChange x = some x := by
  unfold l_toChange; rw [to_PartS h]; rfl
theorem to_ChangeS {xs : List (List (Int × (Int × List UInt8)))} (h : w_ChangeS xs ≤ 1048576) : l_toChangeS xs = some xs := by
  have hl := w_ChangeS_len xs
  have hr : roomFor xs.length 24 = true := by simp only [roomFor, decide_eq_true_eq]; omega
  unfold l_toChangeS
  simp only [Int.toNat_natCast, hr, if_true, Int.le_refl, decide_true, show (0 : Int) ≤ ((xs.length : Nat) : Int) from by omega]
  rw [to_loop l_toChangeS_L1 xs _ (by
    intro ys i hi hy
    have hc : ((i : Nat) : Int) < ((xs.length : Nat) : Int) := by omega
    have hy' : i < ys.length := by omega
    have g1 : ∀ x, (ys.set i x)[i]? = some x := fun x => List.getElem?_set_self hy'
    have hb : w_PartS xs[i] ≤ 1048576 := by have := wsum_mem w_PartS (List.getElem_mem hi); unfold w_ChangeS at h; omega
    unfold l_toChangeS_L1
    simp only [hy, hc, decide_true, if_true, show (0 : Int) ≤ ((i : Nat) : Int) from by omega, Int.toNat_natCast, List.getElem?_eq_getElem hi, List.getElem?_eq_getElem hy', Option.bind_some, Nat.zero_add, List.set_set, g1, ixS (show xs.length ≤ 4611686018427387904 by omega) hi, to_Change (hb)]) (by intro ys; simp [l_toChangeS_L1])]
  rfl
theorem eq_Change {x : List (Int × (Int × List UInt8))} (h : w_PartS x ≤ 1099511627776) : l_eqChange x x = some true := by
  unfold l_eqChange; rw [eq_PartS h]; rfl
theorem eq_ChangeS {xs : List (List (Int × (Int × List UInt8)))} (h : w_ChangeS xs ≤ 1099511627776) : l_eqChangeS xs xs = some true := by
  have hl := w_ChangeS_len xs
  unfold l_eqChangeS
  rw [if_neg (by simp), eq_loop l_eqChangeS_L1 xs (by
    intro i hi
    have hc : ((i : Nat) : Int) < ((xs.length : Nat) : Int) := by omega
    have hb : w_PartS xs[i] ≤ 1099511627776 := by have := wsum_mem w_PartS (List.getElem_mem hi); unfold w_ChangeS at h; omega
    unfold l_eqChangeS_L1
    simp only [hc, decide_true, if_true, show (0 : Int) ≤ ((i : Nat) : Int) from by omega, Int.toNat_natCast, List.getElem?_eq_getElem hi, Option.bind_some, ixS (show xs.length ≤ 4611686018427387904 by omega) hi, eq_Change (hb), Bool.not_true, Bool.false_eq_true, if_false, not_true_eq_false, decide_false]) (by simp [l_eqChangeS_L1])]
  rfl
end Go.V.G

set_option linter.unusedVariables false
set_option linter.unusedSimpArgs false
set_option maxRecDepth 100000
namespace Go.V.G
open Go.V
theorem n2 : ((2 : Nat) : Int) = 2 := rfl
theorem n3 : ((3 : Nat) : Int) = 3 := rfl
abbrev Hst := Int × (List UInt8 × (List (Int × Int) × List (List (Int × (Int × List UInt8)))))
def w_History (h : Hst) : Nat := h.2.1.length + w_RunS h.2.2.1 + w_ChangeS h.2.2.2
def fit_History (h : Hst) : Prop := h.2.1.length ≤ maxLen ∧ fit_RunS h.2.2.1 ∧ fit_ChangeS h.2.2.2
theorem lft_lft {l : Int} {n m : Nat} (h : ((n : Nat) : Int) ≤ l) : lft (l - n) m = lft l (n + m) := by
  unfold lft
  by_cases h1 : ((m : Nat) : Int) ≤ l - n
  · rw [if_pos h1, if_pos (by omega)]; omega
  · rw [if_neg h1, if_neg (by omega)]
theorem lft_no {l : Int} {n m : Nat} (h : ¬ ((n : Nat) : Int) ≤ l) : lft l (n + m) = -1 := by unfold lft; rw [if_neg (by omega)]
theorem sz_History {a : Int} {t : List UInt8} {r : List (Int × Int)} {c : List (List (Int × (Int × List UInt8)))} (hf : fit_History (a, t, r, c)) {l : Int} (h0 : 0 ≤ l) (h1 : l ≤ 1048576) : l_szHistory a t r c l = some (lft l (w_History (a, t, r, c))) := by
  obtain ⟨f1, f2, f3⟩ := hf
  unfold maxLen at f1
  dsimp only at f1 f2 f3
  unfold l_szHistory w_History
  dsimp only
  rw [w64 (by omega) (by omega)]
  by_cases h : ((t.length : Nat) : Int) ≤ l
  · rw [if_neg (by simp; omega), sz_RunS f2 (by omega) (by omega), Option.bind_some, lft_lft h]
    by_cases h2 : (((t.length + w_RunS r : Nat)) : Int) ≤ l
    · have e : lft l (t.length + w_RunS r) = l - ((t.length + w_RunS r : Nat) : Int) := by unfold lft; rw [if_pos h2]
      rw [e, if_neg (by simp; omega), sz_ChangeS f3 (by omega) (by omega), Option.bind_some, lft_lft h2]
      by_cases h3 : (((t.length + w_RunS r + w_ChangeS c : Nat)) : Int) ≤ l
      · have e : lft l (t.length + w_RunS r + w_ChangeS c) = l - ((t.length + w_RunS r + w_ChangeS c : Nat) : Int) := by unfold lft; rw [if_pos h3]
        rw [e, if_neg (by simp; omega)]
      · have e : lft l (t.length + w_RunS r + w_ChangeS c) = -1 := by unfold lft; rw [if_neg h3]
        rw [e]; rfl
    · have e : lft l (t.length + w_RunS r) = -1 := by unfold lft; rw [if_neg h2]
      rw [e, lft_no h2]; rfl
  · rw [if_pos (by simp; omega), Nat.add_assoc, lft_no h]
theorem to_History {a : Int} {t : List UInt8} {r : List (Int × Int)} {c : List (List (Int × (Int × List UInt8)))} (h : w_History (a, t, r, c) ≤ 1048576) : l_toHistory a t r c = some (a, t, r, c) := by
  unfold w_History at h
  dsimp only at h
  unfold l_toHistory
  rw [to_RunS (by omega), Option.bind_some, to_ChangeS (by omega)]; rfl
theorem eq_History {a : Int} {t : List UInt8} {r : List (Int × Int)} {c : List (List (Int × (Int × List UInt8)))} (h : w_History (a, t, r, c) ≤ 1099511627776) : l_eqHistory a t r c a t r c = some true := by
  unfold w_History at h
  dsimp only at h
  unfold l_eqHistory
  simp [eq_RunS (show w_RunS r ≤ 1099511627776 by omega), eq_ChangeS (show w_ChangeS c ≤ 1099511627776 by omega)]
end Go.V.G

set_option linter.unusedVariables false
set_option linter.unusedSimpArgs false
set_option maxRecDepth 100000
namespace Go.V.G
open Go.V
theorem i64_of {n : Int} (h : Fits (.int .i64) n) : I64 n := by
  have h2 : (Lit.int .i64 n).wf = true := h
  simp [Lit.wf, IntKind.min, IntKind.max, IntKind.bits, IntKind.signed] at h2
  unfold I64; omega
structure FitP (c : List Prt) : Prop where
  l : fit_PartS c
  i : ∀ p ∈ c, I64 p.1 ∧ I64 p.2.1
structure FitH (t : List UInt8) (r : List Rn) (cs : List (List Prt)) : Prop where
  ht : t.length ≤ maxLen
  hr : fit_RunS r
  hc : fit_ChangeS cs
  hi : ∀ c ∈ cs, ∀ p ∈ c, I64 p.1 ∧ I64 p.2.1
theorem fitP_of {e : TypeId} {c : List Prt} (h : Fits (.sl false e (.pair (.int .i64) (.pair (.int .i64) .str))) c) : FitP c :=
  ⟨⟨h.1, fun p hp => (h.2 p hp).2.2⟩, fun p hp => ⟨i64_of (h.2 p hp).1, i64_of (h.2 p hp).2.1⟩⟩
theorem fitH_of {e1 e2 e3 : TypeId} {t : List UInt8} {r : List Rn} {cs : List (List Prt)} (h1 : Fits .str t) (h2 : Fits (.sl false e1 (.pair (.int .i64) (.int .i64))) r)
    (h3 : Fits (.sl false e2 (.sl false e3 (.pair (.int .i64) (.pair (.int .i64) .str)))) cs) : FitH t r cs :=
  ⟨h1, h2.1, ⟨h3.1, fun c hc => (fitP_of (h3.2 c hc)).l⟩, fun c hc => (fitP_of (h3.2 c hc)).i⟩
theorem psum_w : ∀ c : List Prt, w_PartS c = c.length + psum c
  | [] => rfl
  | p :: c => by
    have ih := psum_w c
    simp only [w_PartS, wsum, w_Part, psum, List.length_cons] at ih ⊢
    omega
theorem sm_of {c : List Prt} (h : FitP c) {B : Nat} (hw : w_PartS c ≤ B) : Sm B c := by
  rw [psum_w] at hw
  exact ⟨by omega, by omega, h.i⟩
theorem hb_of {f : Int} {t : List UInt8} {r : List Rn} {cs : List (List Prt)} (h : FitH t r cs) (hw : w_History (f, t, r, cs) ≤ 1048576) : HB t r cs := by
  unfold w_History w_RunS at hw
  dsimp only at hw
  have hl := w_ChangeS_len cs
  refine ⟨by omega, by omega, by omega, fun c hc => sm_of ⟨h.hc.2 c hc, h.hi c hc⟩ ?_⟩
  have := wsum_mem w_PartS hc
  unfold w_ChangeS at hw
  omega
theorem wsum_le {α : Type} {w : α → Nat} {B : Nat} : ∀ {xs : List α}, (∀ x ∈ xs, w x ≤ B) → wsum w xs ≤ xs.length * B
  | [], _ => by simp [wsum]
  | x :: xs, h => by
    have ih := wsum_le (xs := xs) fun y hy => h y (by simp [hy])
    have := h x (by simp)
    simp only [wsum, List.length_cons, Nat.succ_mul]; omega
theorem w_good {c : List Prt} (h : good c = true) : w_PartS c ≤ 480 := by
  have := good_sm h
  have := this.len; have := (good_sm h).put
  rw [psum_w]; omega
theorem w_goods {cs : List (List Prt)} (h : ∀ c ∈ cs, good c = true) (hn : cs.length ≤ 1000) : w_ChangeS cs ≤ 1000000 := by
  have := wsum_le (w := w_PartS) (B := 480) fun c hc => w_good (h c hc)
  unfold w_ChangeS
  omega
theorem w_runs {l : List Rn} {n m : Int} (h : goodRuns l n m = true) : w_RunS l ≤ 120 := by
  obtain ⟨h1, _, h6⟩ := goodRuns_iff.1 h
  have := rlen_le h6.pos
  rw [h6.sum] at this
  unfold w_RunS
  omega
theorem GH.w {f : Int} {t : List UInt8} {r : List Rn} {cs : List (List Prt)} (g : GH f t r cs) : w_History (f, t, r, cs) ≤ 2000000 := by
  have := g.ht; have := g.hn; have := g.hf
  have h1 := w_goods (chn_mem g.hc) (by omega)
  have h2 := w_runs g.hr
  unfold w_History
  dsimp only
  omega
theorem lft_neg {n : Nat} {l : Int} (h : ¬ lft l n < 0) : ((n : Nat) : Int) ≤ l := by
  unfold lft at h
  split at h <;> omega
theorem codeH_zero {f a b : Int} {t : List UInt8} {r : List Rn} {cs : List (List Prt)} (h : codeH f t r cs a b = 0) : GH f t r cs ∧ f ≤ a ∧ a ≤ b ∧ b ≤ f + cs.length := by
  unfold codeH at h
  split at h
  · rename_i hg
    split at h
    · rename_i hx; exact ⟨goodH_iff.1 hg, hx⟩
    · cases h
  · cases h
end Go.V.G

set_option linter.unusedVariables false
set_option linter.unusedSimpArgs false
set_option maxRecDepth 100000
namespace Go.V.G
open Go.V
abbrev fcomp (a : List Prt) (cs : List (List Prt)) : List Prt := cs.foldl (fun a c => composed a c) a
theorem fcomp_take {a : List Prt} {cs : List (List Prt)} {i : Nat} (h : i < cs.length) : fcomp a (cs.take (i + 1)) = composed (fcomp a (cs.take i)) cs[i] := by
  unfold fcomp; rw [List.take_succ_eq_append_getElem h, List.foldl_append]; rfl
theorem fcomp_at {a : List Prt} {cs : List (List Prt)} (ha : good a = true) (hc : chn (tgt a) cs = true) {i : Nat} (hi : i < cs.length) :
    good (fcomp a (cs.take i)) = true ∧ good cs[i] = true ∧ tgt (fcomp a (cs.take i)) = src cs[i] := by
  obtain ⟨k1, k2, k3⟩ := chn_at hc hi
  obtain ⟨r1, r2, r3⟩ := fold_spec ha (chn_take hc i).1
  exact ⟨r1, k1, by rw [r3, k2]⟩
theorem i_comp_loop {a : List Prt} {cs : List (List Prt)} (hn : cs.length ≤ 1099511627776) (ha : good a = true) (hc : chn (tgt a) cs = true) : loopG i_composed_L1 (a, cs, ((cs.length : Nat) : Int), 0) = some (fcomp a cs) := by
  have := loop_run i_composed_L1 (fun i => (fcomp a (cs.take i), cs, ((cs.length : Nat) : Int), ((i : Nat) : Int))) cs.length (fcomp a cs) (by
    intro i hi
    have hlt : ((i : Nat) : Int) < ((cs.length : Nat) : Int) := by omega
    obtain ⟨k1, k2, k3⟩ := fcomp_at ha hc hi
    unfold i_composed_L1
    simp only [hlt, decide_true, if_true, show (0 : Int) ≤ ((i : Nat) : Int) from by omega, Int.toNat_natCast, List.getElem?_eq_getElem hi, Option.bind_some, i_compose_eq k1 k2 k3, idx_succ hn hi, fcomp_take hi]) (by simp [i_composed_L1])
  simpa using this
theorem s_comp_loop {a : List Prt} {cs : List (List Prt)} (hn : cs.length ≤ 1099511627776) (ha : good a = true) (hc : chn (tgt a) cs = true) : loopG s_l10Between_L1 (a, cs, ((cs.length : Nat) : Int), 0) = some (fcomp a cs) := by
  have := loop_run s_l10Between_L1 (fun i => (fcomp a (cs.take i), cs, ((cs.length : Nat) : Int), ((i : Nat) : Int))) cs.length (fcomp a cs) (by
    intro i hi
    have hlt : ((i : Nat) : Int) < ((cs.length : Nat) : Int) := by omega
    obtain ⟨k1, k2, k3⟩ := fcomp_at ha hc hi
    unfold s_l10Between_L1
    simp only [hlt, decide_true, if_true, show (0 : Int) ≤ ((i : Nat) : Int) from by omega, Int.toNat_natCast, List.getElem?_eq_getElem hi, Option.bind_some, s_compose_eq k1 k2 k3, idx_succ hn hi, fcomp_take hi]) (by simp [s_l10Between_L1])
  simpa using this
theorem i_composed_eq {c : List Prt} {cs : List (List Prt)} (hn : cs.length ≤ 1000000) (ha : good c = true) (hc : chn (tgt c) cs = true) : i_composed (c :: cs) = some (fcomp c cs) := by
  obtain ⟨r1, _⟩ := fold_spec ha hc
  have hr : roomFor (List.length ([] : List Prt) + List.length (fcomp c cs)) 32 = true := room8 (by have := (good_sm r1).len; simpa using Nat.le_trans this (by omega)) (by omega)
  have hl := i_comp_loop (by omega) ha hc
  unfold i_composed
  have e1 : Int.toNat (((c :: cs).length : Nat) : Int) - Int.toNat 1 = cs.length := by simp
  have e2 : (List.drop (Int.toNat 1) (c :: cs)).take cs.length = cs := by simp
  rw [e1, e2]
  exact Ok.eq (Ok.yes (by simp) (Ok.bind_eq (r := c) (by simp) (Ok.yes (by simp) (Ok.yes (by simp; omega) (Ok.yes (by simp) (Ok.yes (by simp) (Ok.bind_eq hl (Ok.yes hr (Ok.mk rfl)))))))))
section
variable {f : Int} {t : List UInt8} {r : List Rn} {cs : List (List Prt)}
def seg (cs : List (List Prt)) (a b : Int) : List (List Prt) := (cs.drop a.toNat).take (b.toNat - a.toNat)
def lenAt (t : List UInt8) (cs : List (List Prt)) (a : Int) : Int := endl ((t.length : Nat) : Int) (cs.take a.toNat)
def between (f : Int) (t : List UInt8) (cs : List (List Prt)) (a b : Int) : List Prt := btw (lenAt t cs (a - f)) (seg cs (a - f) (b - f))
theorem seg_chn (g : GH f t r cs) (a b : Int) : chn (lenAt t cs a) (seg cs a b) = true := (chn_take (chn_take g.hc a.toNat).2 _).1
theorem seg_end (g : GH f t r cs) {a b : Int} (h0 : 0 ≤ a) (h1 : a ≤ b) : endl (lenAt t cs a) (seg cs a b) = lenAt t cs b := by
  unfold lenAt seg
  rw [← endl_append, ← List.take_add]
  congr 2; omega
theorem lenAt_in (g : GH f t r cs) (a : Int) : 0 ≤ lenAt t cs a ∧ lenAt t cs a ≤ 120 := endl_in (chn_take g.hc _).1 (by omega) g.ht
theorem between_spec (g : GH f t r cs) {a b : Int} (h0 : f ≤ a) (h1 : a ≤ b) : good (between f t cs a b) = true ∧ src (between f t cs a b) = lenAt t cs (a - f) ∧ tgt (between f t cs a b) = lenAt t cs (b - f) := by
  obtain ⟨k1, k2⟩ := lenAt_in g (a - f)
  obtain ⟨r1, r2, r3⟩ := btw_spec (seg_chn g (a - f) (b - f)) k1 k2
  exact ⟨r1, r2, by rw [between, r3, seg_end g (by omega) (by omega)]⟩
theorem i_same_eq (n : Int) : i_same n = some (idc n) := by
  unfold i_same idc
  by_cases h : n = 0 <;> simp [h]
theorem i_between_eq (g : GH f t r cs) {a b : Int} (h0 : f ≤ a) (h1 : a ≤ b) (h2 : b ≤ f + cs.length) : i_History_between f t r cs a b = some (between f t cs a b) := by
  have := g.hf; have := g.hn
  have w1 : IntKind.wrap .i64 (a - f) = a - f := w64 (by omega) (by omega)
  have w2 : IntKind.wrap .i64 (b - f) = b - f := w64 (by omega) (by omega)
  unfold i_History_between
  by_cases hab : a = b
  · subst hab
    rw [if_pos (by simp), i_text_eq g h0 h2, Option.bind_some, (text_in g _).1, i_same_eq, Option.bind_some]
    have e : seg cs (a - f) (a - f) = [] := by simp [seg]
    rw [between, e]; rfl
  · have hlt : (a - f).toNat < cs.length := by omega
    obtain ⟨c, ds, hds⟩ : ∃ c ds, seg cs (a - f) (b - f) = c :: ds := by
      have : (seg cs (a - f) (b - f)).length ≠ 0 := by unfold seg; rw [List.length_take, List.length_drop]; omega
      cases hsg : seg cs (a - f) (b - f) with
      | nil => rw [hsg] at this; exact absurd rfl this
      | cons c ds => exact ⟨c, ds, rfl⟩
    have hch := seg_chn g (a - f) (b - f)
    have hb : between f t cs a b = fcomp c ds := by unfold between; rw [hds] at hch ⊢; exact btw_cons hch
    have hln : ds.length ≤ 1000000 := by
      have h9 : (seg cs (a - f) (b - f)).length ≤ cs.length := by unfold seg; rw [List.length_take, List.length_drop]; omega
      rw [hds, List.length_cons] at h9; omega
    rw [hds] at hch
    obtain ⟨k1, k2, k3⟩ := chn_cons hch
    have hc := i_composed_eq hln k1 k3
    rw [if_neg (by simpa using hab), w1, w2, hb]
    rw [show (List.drop (a - f).toNat cs).take ((b - f).toNat - (a - f).toNat) = c :: ds from hds, hc]
    simp only [Option.bind_some, Int.le_refl, decide_true, if_true, show (0 : Int) ≤ a - f from by omega, show a - f ≤ b - f from by omega, show b - f ≤ ((cs.length : Nat) : Int) from by omega]
theorem s_between_eq (g : GH f t r cs) {a b : Int} (h0 : f ≤ a) (h1 : a ≤ b) (h2 : b ≤ f + cs.length) : s_l10Between f t r cs a b = some (between f t cs a b) := by
  have := g.hf; have := g.hn
  have w1 : IntKind.wrap .i64 (a - f) = a - f := w64 (by omega) (by omega)
  have w2 : IntKind.wrap .i64 (b - f) = b - f := w64 (by omega) (by omega)
  obtain ⟨k1, k2⟩ := lenAt_in g (a - f)
  obtain ⟨i1, i2, i3, i4⟩ := idc_spec k1 k2
  have hadd : addp [] (lenAt t cs (a - f), 0, []) = idc (lenAt t cs (a - f)) := by
    unfold addp idc
    by_cases h : lenAt t cs (a - f) = 0 <;> simp [h]
  have hln : (seg cs (a - f) (b - f)).length ≤ 1099511627776 := by unfold seg; rw [List.length_take, List.length_drop]; omega
  have hlp := s_comp_loop hln i1 (by rw [i4]; exact seg_chn g (a - f) (b - f))
  unfold s_l10Between
  rw [s_text_eq g h0 (by omega), Option.bind_some, (text_in g _).1, show endl ((t.length : Nat) : Int) (cs.take (a - f).toNat) = lenAt t cs (a - f) from rfl,
    s_l1Add_eq (Sm.nil 0) (by omega) _ 0 [] (by simp), Option.bind_some, hadd, w1, w2, show (List.drop (a - f).toNat cs).take ((b - f).toNat - (a - f).toNat) = seg cs (a - f) (b - f) from rfl, hlp]
  simp only [Option.bind_some, Int.le_refl, decide_true, if_true, show (0 : Int) ≤ a - f from by omega, show a - f ≤ b - f from by omega, show b - f ≤ ((cs.length : Nat) : Int) from by omega]
  rfl
end
end Go.V.G

set_option linter.unusedVariables false
set_option linter.unusedSimpArgs false
set_option maxRecDepth 100000
namespace Go.V.G
open Go.V
section
variable {f : Int} {t : List UInt8} {r : List Rn} {cs : List (List Prt)}
def placeOf (f : Int) (t : List UInt8) (r : List Rn) (cs : List (List Prt)) (a b p : Int) (bh : Bool) : Int × Int :=
  if codeH f t r cs a b = 0 then (if 0 ≤ p ∧ p ≤ lenAt t cs (a - f) then (imgAt (between f t cs a b) p bh, 0) else (0, 3)) else (0, codeH f t r cs a b)
theorem i_place_eq (h : HB t r cs) (f a b p : Int) (bh : Bool) : i_PlaceAcross f t r cs a b p bh = some (placeOf f t r cs a b p bh) := by
  unfold i_PlaceAcross placeOf
  rw [i_code_eq h, Option.bind_some]
  by_cases h0 : codeH f t r cs a b = 0
  · obtain ⟨g, h1, h2, h3⟩ := codeH_zero h0
    rw [if_neg (by simpa using h0), if_pos h0, i_text_eq g h1 (by omega), Option.bind_some, (text_in g _).1, show endl ((t.length : Nat) : Int) (cs.take (a - f).toNat) = lenAt t cs (a - f) from rfl, i_within_eq, Option.bind_some]
    by_cases hp : 0 ≤ p ∧ p ≤ lenAt t cs (a - f)
    · obtain ⟨q1, q2, q3⟩ := between_spec g h1 h2
      rw [if_neg (by simpa using hp), if_pos hp, i_between_eq g h1 h2 h3, Option.bind_some, i_ImageOf_eq (good_sm q1) (by omega), Option.bind_some]
      unfold imgOf
      rw [if_pos ⟨q1, hp.1, by rw [q2]; exact hp.2⟩]
    · rw [if_pos (by rw [decide_eq_false hp]; rfl), if_neg hp]
  · rw [if_pos (by simpa using h0), if_neg h0]
theorem s_place_eq (h : HB t r cs) (f a b p : Int) (bh : Bool) : s_PlaceAcross f t r cs a b p bh = some (placeOf f t r cs a b p bh) := by
  unfold s_PlaceAcross placeOf
  rw [s_range_eq h, Option.bind_some]
  by_cases h0 : codeH f t r cs a b = 0
  · obtain ⟨g, h1, h2, h3⟩ := codeH_zero h0
    rw [if_neg (by simpa using h0), if_pos h0, s_text_eq g h1 (by omega), Option.bind_some, (text_in g _).1, show endl ((t.length : Nat) : Int) (cs.take (a - f).toNat) = lenAt t cs (a - f) from rfl, s_In_eq, Option.bind_some]
    by_cases hp : 0 ≤ p ∧ p ≤ lenAt t cs (a - f)
    · obtain ⟨q1, q2, q3⟩ := between_spec g h1 h2
      rw [if_neg (by simpa using hp), if_pos hp, s_between_eq g h1 h2 h3, Option.bind_some, s_Image_eq (good_sm q1) (by omega) q1 hp.1 (by rw [q2]; exact hp.2), Option.bind_some]
    · rw [if_pos (by rw [decide_eq_false hp]; rfl), if_neg hp]
  · rw [if_pos (by simpa using h0), if_neg h0]
end
end Go.V.G

set_option linter.unusedVariables false
set_option linter.unusedSimpArgs false
set_option maxRecDepth 100000
namespace Go.V.G
open Go.V
theorem placeAcross_exact {t : List UInt8} {r : List Rn} {cs : List (List Prt)} (h : FitH t r cs) (f : Int) (a b p : Int) (bh : Bool) : l_FnExactPlaceAcross f t r cs a b p bh = some true := by
  unfold l_FnExactPlaceAcross
  rw [sz_History (a := f) ⟨h.ht, h.hr, h.hc⟩ (by omega) (by omega), Option.bind_some]
  by_cases hs : lft 1048576 (w_History (f, t, r, cs)) < 0
  · rw [if_pos (by simpa using hs)]
  · rw [if_neg (by simpa using hs)]
    have hw := lft_neg hs
    have hb := hb_of (f := f) h (by omega)
    have hz1 := s_place_eq hb f a b p bh
    have hz2 := i_place_eq hb f a b p bh
    have hzw : True := trivial
    generalize placeOf f t r cs a b p bh = z at hz1 hz2 hzw
    have hto : l_toHistory f t r cs = some (f, t, r, cs) := to_History (by omega)
    have heq : l_eqHistory f t r cs f t r cs = some true := eq_History (by omega)
    simp only [hto, hz1, hz2, heq, Option.bind_some, Bool.not_true, Bool.false_eq_true, if_false, not_true_eq_false, decide_false]
end Go.V.G
namespace Go.Proofs.Ytcfbfpipfalieaa
open Go.V
theorem pure_FnExactPlaceAcross {e1 e2 e3 : TypeId} (x0 : Int) (x1 : List UInt8) (x2 : List G.Rn) (x3 : List (List G.Prt)) (x4 : Int) (x5 : Int) (x6 : Int) (x7 : Bool)
    (g0 : ∀ l ∈ ([⟨.int .i64, x0⟩, ⟨.str, x1⟩, ⟨.sl false e1 (.pair (.int .i64) (.int .i64)), x2⟩, ⟨.sl false e2 (.sl false e3 (.pair (.int .i64) (.pair (.int .i64) .str))), x3⟩] : List ALeaf), Fits l.1 l.2) (g1 : Fits (.int .i64) x4) (g2 : Fits (.int .i64) x5) (g3 : Fits (.int .i64) x6) (g4 : Fits .bool x7) : G.l_FnExactPlaceAcross x0 x1 x2 x3 x4 x5 x6 x7 = some true := by
  have h1 := g0 ⟨.str, x1⟩ (by simp)
  have h2 := g0 ⟨.sl false e1 (.pair (.int .i64) (.int .i64)), x2⟩ (by simp)
  have h3 := g0 ⟨.sl false e2 (.sl false e3 (.pair (.int .i64) (.pair (.int .i64) .str))), x3⟩ (by simp)
  exact G.placeAcross_exact (G.fitH_of h1 h2 h3) x0 x4 x5 x6 x7
end Go.Proofs.Ytcfbfpipfalieaa
