/-
  P12: what the reference's 'l1Carry' returns; changes carried; applied; the pure law of FnDiamond is built on it.
-/
import Derived.Test.YtdicgiljgelkfaaP11
set_option linter.unusedVariables false
set_option linter.unusedSimpArgs false
set_option maxRecDepth 100000
namespace Go.V.G
open Go.V

theorem s_carry_loop {first : Bool} {Sx : List Bool} {Px : List (List UInt8)} {Sy : List Bool} {Py : List (List UInt8)} (h : Rows Sx Px Sy Py) :
    Ok (loopG s_l1Carry_L1 (first, [], Px, ((List.length Px : Nat) : Int), 0, Sx, Sy, Py)) fun z => z = norm (rest first Sx Px Sy Py 0) ∧ Sm 4004004 z := by
  refine (Ok.loop (fun y => y.1 = first ∧ y.2.2.2.1 = ((List.length Px : Nat) : Int) ∧ y.2.2.2.2.2.1 = Sx ∧ y.2.2.1 = Px ∧ y.2.2.2.2.2.2.1 = Sy ∧ y.2.2.2.2.2.2.2 = Py ∧ ∃ k : Nat, y.2.2.2.2.1 = ((k : Nat) : Int) ∧ k ≤ Px.length ∧
      Sm (k * 4000) y.2.1 ∧ (rest first Sx Px Sy Py k).foldl addp y.2.1 = norm (rest first Sx Px Sy Py 0)) (fun y => (((List.length Px : Nat) : Int) - y.2.2.2.2.1).toNat)
    ⟨rfl, rfl, rfl, rfl, rfl, rfl, 0, rfl, Nat.zero_le _, Sm.nil _, rfl⟩ ?_)
  rintro ⟨f, o, px, n, k', sx, sy, py⟩ ⟨e1, e2, e3, e4, e5, e6, k, e7, hk, ho, hf⟩
  dsimp only at e1 e2 e3 e4 e5 e6 e7 ho hf
  subst e1 e2 e3 e4 e5 e6 e7
  obtain ⟨hs, hx, hy, hn, hpx, hpy⟩ := h
  unfold s_l1Carry_L1
  dsimp only
  refine Ok.ite (fun hc => ?_) fun hc => ?_
  · have hlt : k < px.length := by simpa using hc
    have hlt2 : k < py.length := by omega
    have z := one_I.2
    have lp := hpx _ (List.getElem_mem hlt)
    have lq := hpy _ (List.getElem_mem hlt2)
    rw [rest_step f hs hlt hlt2 hx hy, List.foldl_append] at hf
    refine Ok.bind (Q := fun v => ∃ O4, v = (f, O4, px, ((List.length px : Nat) : Int), ((k : Nat) : Int), sx, sy, py) ∧ Sm ((k + 1) * 4000) O4 ∧ (rest f sx px sy py (k + 1)).foldl addp O4 = norm (rest f sx px sy py 0)) ?_ ?_
    rotate_left
    · rintro _ ⟨O4, rfl, so4, hf⟩
      exact Ok.mk ⟨⟨rfl, rfl, rfl, rfl, rfl, rfl, k + 1, idx_succ (n := px.length) (by omega) hlt, by omega, so4, hf⟩, by rw [idx_succ (n := px.length) (by omega) hlt]; dsimp only; omega⟩
    refine Ok.yes (by simp) (Ok.yes (by simpa using hlt) (Ok.bind_eq (r := px[k]) (by simp [List.getElem?_eq_getElem hlt]) ?_))
    refine Ok.bind (Q := fun v => v = (f, (if f = true then addp o (0, 0, px[k]) else o), ((k : Nat) : Int), px[k], px, ((List.length px : Nat) : Int), ((k : Nat) : Int), sx, sy, py)) ?_ ?_
    · refine Ok.ite (fun hf1 => ?_) fun hf1 => Ok.mk (by rw [if_neg hf1])
      exact Ok.bind_eq (s_l1Add_eq ho (by omega) 0 0 _ (by omega)) (Ok.mk (by rw [if_pos hf1]))
    rintro _ rfl
    dsimp only
    have so1 : Sm (k * 4000 + 1000) (if f = true then addp o (0, 0, px[k]) else o) := by
      split
      · exact addp_sm ho ⟨z, z⟩ (by omega) (by dsimp only; omega)
      · exact ho.mono (by omega)
    have iq : I64 ((List.length py[k] : Nat) : Int) := by unfold I64; omega
    refine Ok.yes (by simp) (Ok.yes (by simp; omega) (Ok.bind_eq (r := py[k]) (by simp [List.getElem?_eq_getElem hlt2]) (Ok.bind_eq (s_l1Add_eq so1 (by omega) _ 0 [] (by simp)) ?_)))
    have so2 := addp_sm (p := (((List.length py[k] : Nat) : Int), 0, [])) (C := k * 4000 + 1001) so1 ⟨iq, z⟩ (by omega) (by simp)
    refine Ok.bind (Q := fun v => v = (f, (if f = true then addp (addp o (0, 0, px[k])) (((List.length py[k] : Nat) : Int), 0, []) else addp (addp o (((List.length py[k] : Nat) : Int), 0, [])) (0, 0, px[k])), ((k : Nat) : Int), px, ((List.length px : Nat) : Int), ((k : Nat) : Int), sx, sy, py)) ?_ ?_
    · cases f with
      | true => exact Ok.no (by simp) (Ok.mk (by simp))
      | false =>
        refine Ok.yes (by simp) (Ok.bind_eq (s_l1Add_eq so2 (by omega) 0 0 _ (by omega)) (Ok.mk (by simp)))
    rintro _ rfl
    dsimp only
    have so3 : Sm (k * 4000 + 2001) (if f = true then addp (addp o (0, 0, px[k])) (((List.length py[k] : Nat) : Int), 0, []) else addp (addp o (((List.length py[k] : Nat) : Int), 0, [])) (0, 0, px[k])) := by
      cases f with
      | true => exact so2.mono (by omega)
      | false => exact addp_sm so2 ⟨z, z⟩ (by omega) (by dsimp only; omega)
    generalize hO : (if f = true then addp (addp o (0, 0, px[k])) (((List.length py[k] : Nat) : Int), 0, []) else addp (addp o (((List.length py[k] : Nat) : Int), 0, [])) (0, 0, px[k])) = O at so3
    have hgap : (gap f px[k] py[k] (stAt sx sy k)).foldl addp o = (stPart (stAt sx sy k)).foldl addp O := by
      subst hO
      unfold gap
      rw [List.foldl_append]
      cases f <;> rfl
    rw [hgap] at hf
    refine Ok.bind (Q := fun v => ∃ b : Bool, v = (f, O, ((k : Nat) : Int), px, ((List.length px : Nat) : Int), ((k : Nat) : Int), b, sx, sy, py) ∧ (b = true → stPart (stAt sx sy k) = []) ∧ (b = false → ∃ h1 : k < sx.length, stPart (stAt sx sy k) = if sx[k] = true then [(1, 0, [])] else [(0, 1, [])])) ?_ ?_
    · refine Ok.ite (fun hq => ?_) fun hq => ?_
      · have : k = sx.length := by
          have : ((k : Nat) : Int) = ((List.length sx : Nat) : Int) := by simpa using hq
          omega
        refine Ok.mk ⟨true, rfl, fun _ => ?_, fun h => by cases h⟩
        simp [stAt, this, stPart]
      · have hks : k < sx.length := by
          have : ¬ ((k : Nat) : Int) = ((List.length sx : Nat) : Int) := by simpa using hq
          omega
        have hks2 : k < sy.length := by omega
        refine Ok.yes (by simp) (Ok.yes (by simp; omega) (Ok.bind_eq (r := sy[k]) (by simp [List.getElem?_eq_getElem hks2]) (Ok.mk ⟨_, rfl, fun hb => ?_, fun hb => ⟨hks, ?_⟩⟩)))
        · have : sy[k] = false := by simpa using hb
          simp only [stAt, List.getElem?_eq_getElem hks, List.getElem?_eq_getElem hks2, this]
          cases sx[k] <;> rfl
        · have : sy[k] = true := by simpa using hb
          simp only [stAt, List.getElem?_eq_getElem hks, List.getElem?_eq_getElem hks2, this]
          cases sx[k] <;> rfl
    rintro _ ⟨b, rfl, hb1, hb2⟩
    dsimp only
    have so4 : Sm ((k + 1) * 4000) ((stPart (stAt sx sy k)).foldl addp O) := by
      cases b with
      | true => rw [hb1 rfl]; exact so3.mono (by omega)
      | false =>
        obtain ⟨hks, hst⟩ := hb2 rfl
        rw [hst]
        split
        · exact addp_sm (p := (1, 0, [])) (C := (k + 1) * 4000) so3 ⟨one_I.1, z⟩ (by omega) (by simp; omega)
        · exact addp_sm (p := (0, 1, [])) (C := (k + 1) * 4000) so3 ⟨z, one_I.1⟩ (by omega) (by simp; omega)
    cases b with
    | true => exact Ok.yes rfl (Ok.mk ⟨O, rfl, so3.mono (by omega), by rw [hb1 rfl] at hf; exact hf⟩)
    | false =>
      obtain ⟨hks, hst⟩ := hb2 rfl
      refine Ok.no (by simp) (Ok.yes (by simp) (Ok.yes (by simp; omega) (Ok.bind_eq (r := sx[k]) (by simp [List.getElem?_eq_getElem hks]) ?_)))
      refine Ok.bind (Q := fun v => v = (f, (stPart (stAt sx sy k)).foldl addp O, px, ((List.length px : Nat) : Int), ((k : Nat) : Int), sx, sy, py)) ?_ (fun v hv => Ok.mk ⟨_, hv, so4, hf⟩)
      rw [hst]
      refine Ok.ite (fun h1 => Ok.bind_eq (s_l1Add_eq so3 (by omega) 1 0 [] (by simp)) (Ok.mk (by rw [if_pos h1]; rfl))) fun h1 => Ok.bind_eq (s_l1Add_eq so3 (by omega) 0 1 [] (by simp)) (Ok.mk (by rw [if_neg h1]; rfl))
  · have : k = px.length := by
      have : ¬ ((k : Int) < ((List.length px : Nat) : Int)) := by simpa using hc
      omega
    subst this
    refine Ok.mk ⟨?_, ho.mono (by omega)⟩
    rw [← hf]
    have : rest f sx px sy py px.length = [] := by
      unfold rest
      rw [List.drop_length, List.drop_eq_nil_of_le (show sx.length ≤ px.length by omega)]; rfl
    rw [this]; rfl
end Go.V.G
