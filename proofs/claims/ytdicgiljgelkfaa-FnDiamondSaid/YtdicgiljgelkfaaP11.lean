/-
  P11: what 'carry' and 'l1Carry' return.
-/
import Derived.Test.YtdicgiljgelkfaaP10
set_option linter.unusedVariables false
set_option linter.unusedSimpArgs false
set_option maxRecDepth 100000
namespace Go.V.G
open Go.V

def stPart : Option (Bool × Bool) → List Prt
  | some (true, true) => [(1, 0, [])]
  | some (false, true) => [(0, 1, [])]
  | _ => []
def gap (first : Bool) (p q : List UInt8) (st : Option (Bool × Bool)) : List Prt :=
  (if first = true then [(0, 0, p), (((q.length : Nat) : Int), 0, [])] else [(((q.length : Nat) : Int), 0, []), (0, 0, p)]) ++ stPart st
def gaps (first : Bool) : List Bool → List (List UInt8) → List Bool → List (List UInt8) → List Prt
  | [], p :: _, _, q :: _ => gap first p q none
  | sx :: Sx, p :: Px, sy :: Sy, q :: Py => gap first p q (some (sx, sy)) ++ gaps first Sx Px Sy Py
  | _, _, _, _ => []
def stA : Option (Bool × Bool) → List Atom
  | some (true, true) => [.keep]
  | some (false, true) => [.drop]
  | _ => []
def gapA (first : Bool) (p q : List UInt8) (st : Option (Bool × Bool)) : List Atom :=
  (if first = true then p.map Atom.ins ++ List.replicate q.length .keep else List.replicate q.length .keep ++ p.map Atom.ins) ++ stA st
theorem gap_atoms (first : Bool) (p q : List UInt8) (st : Option (Bool × Bool)) : atoms (gap first p q st) = gapA first p q st := by
  have h1 : atoms (stPart st) = stA st := by
    match st with
    | some (true, true) => rfl
    | some (false, true) => rfl
    | some (true, false) => rfl
    | some (false, false) => rfl
    | none => rfl
  unfold gap gapA
  rw [atoms_append, h1]
  cases first
  · simp [atoms, pa_put, pa_keep]
  · simp [atoms, pa_put, pa_keep]
def gapsA (first : Bool) : List Bool → List (List UInt8) → List Bool → List (List UInt8) → List Atom
  | [], p :: _, _, q :: _ => gapA first p q none
  | sx :: Sx, p :: Px, sy :: Sy, q :: Py => gapA first p q (some (sx, sy)) ++ gapsA first Sx Px Sy Py
  | _, _, _, _ => []
theorem gaps_atoms (first : Bool) : ∀ (Sx : List Bool) (Px : List (List UInt8)) (Sy : List Bool) (Py : List (List UInt8)), atoms (gaps first Sx Px Sy Py) = gapsA first Sx Px Sy Py
  | [], [], _, _ => rfl
  | [], p :: _, _, [] => rfl
  | [], p :: _, _, q :: _ => gap_atoms first p q none
  | _ :: _, [], _, _ => rfl
  | _ :: _, _ :: _, [], _ => rfl
  | _ :: _, _ :: _, _ :: _, [] => rfl
  | sx :: Sx, p :: Px, sy :: Sy, q :: Py => by
    show atoms (gap first p q (some (sx, sy)) ++ gaps first Sx Px Sy Py) = _
    rw [atoms_append, gap_atoms, gaps_atoms first Sx Px Sy Py]; rfl

theorem gapsA_insT (b : UInt8) {Sx : List Bool} {p : List UInt8} {ps : List (List UInt8)} {Sy : List Bool} {Py : List (List UInt8)} (h : Sx.length = Sy.length) (h1 : ps.length = Sx.length) (h2 : Py.length = Sy.length + 1) :
    gapsA true Sx ((b :: p) :: ps) Sy Py = .ins b :: gapsA true Sx (p :: ps) Sy Py := by
  match Sx, Sy, Py, h, h2 with
  | [], _, q :: Py, _, _ => rfl
  | sx :: Sx, sy :: Sy, q :: Py, _, _ => rfl
theorem gapsA_keepT (b : UInt8) {Sx : List Bool} {Px : List (List UInt8)} {Sy : List Bool} {q : List UInt8} {qs : List (List UInt8)} (h : Sx.length = Sy.length) (h1 : Px.length = Sx.length) :
    gapsA true Sx ([] :: Px) Sy ((b :: q) :: qs) = .keep :: gapsA true Sx ([] :: Px) Sy (q :: qs) := by
  match Sx, Sy, h with
  | [], _, _ => rfl
  | sx :: Sx, sy :: Sy, _ => rfl
theorem gapsA_keepF (b : UInt8) {Sx : List Bool} {p : List UInt8} {Px : List (List UInt8)} {Sy : List Bool} {q : List UInt8} {qs : List (List UInt8)} (h : Sx.length = Sy.length) (h1 : Px.length = Sx.length) :
    gapsA false Sx (p :: Px) Sy ((b :: q) :: qs) = .keep :: gapsA false Sx (p :: Px) Sy (q :: qs) := by
  match Sx, Sy, h with
  | [], _, _ => rfl
  | sx :: Sx, sy :: Sy, _ => rfl
theorem gapsA_insF (b : UInt8) {Sx : List Bool} {p : List UInt8} {ps : List (List UInt8)} {Sy : List Bool} {qs : List (List UInt8)} (h : Sx.length = Sy.length) (h1 : ps.length = Sx.length) :
    gapsA false Sx ((b :: p) :: ps) Sy ([] :: qs) = .ins b :: gapsA false Sx (p :: ps) Sy ([] :: qs) := by
  match Sx, Sy, h with
  | [], _, _ => rfl
  | sx :: Sx, sy :: Sy, _ => rfl

theorem puts_cons (l : List Atom) : ∃ p ps, puts l = p :: ps ∧ ps.length = (stays l).length := by
  have h := puts_len l
  match hp : puts l, puts_ne l with
  | p :: ps, _ => rw [hp] at h; exact ⟨p, ps, rfl, by simpa using h⟩

theorem gapsA_T : ∀ (x y : List Atom), nS x = nS y → gapsA true (stays x) (puts x) (stays y) (puts y) = carryT x y := by
  intro x y
  induction x, y using carryT.induct with
  | case1 b x y ih =>
    intro h
    rw [carryT, ← ih h]
    obtain ⟨p, ps, e, hl⟩ := puts_cons x
    show gapsA true (stays x) (consHead b (puts x)) (stays y) (puts y) = _
    rw [e]
    exact gapsA_insT b (by rw [← nS_stays, ← nS_stays]; exact h) hl (puts_len y)
  | case2 c y ih =>
    intro h
    rw [carryT, ← ih h]
    obtain ⟨p, ps, e, hl⟩ := puts_cons y
    show gapsA true [] [[]] (stays y) (consHead c (puts y)) = _
    rw [e]; rfl
  | case3 x c y ih =>
    intro h
    rw [carryT, ← ih h]
    obtain ⟨p, ps, e, hl⟩ := puts_cons y
    show gapsA true (true :: stays x) ([] :: puts x) (stays y) (consHead c (puts y)) = _
    rw [e]
    have : (true :: stays x).length = (stays y).length := by rw [← nS_stays y, ← show nS (.ins c :: y) = nS y from rfl, ← h]; simp [nS, nS_stays]
    exact gapsA_keepT c this (by rw [puts_len]; simp)
  | case4 x c y ih =>
    intro h
    rw [carryT, ← ih h]
    obtain ⟨p, ps, e, hl⟩ := puts_cons y
    show gapsA true (false :: stays x) ([] :: puts x) (stays y) (consHead c (puts y)) = _
    rw [e]
    have : (false :: stays x).length = (stays y).length := by rw [← nS_stays y, ← show nS (.ins c :: y) = nS y from rfl, ← h]; simp [nS, nS_stays]
    exact gapsA_keepT c this (by rw [puts_len]; simp)
  | case5 x y ih => intro h; rw [carryT, ← ih (by simpa [nS] using h)]; rfl
  | case6 x y ih => intro h; rw [carryT, ← ih (by simpa [nS] using h)]; rfl
  | case7 x y ih => intro h; rw [carryT, ← ih (by simpa [nS] using h)]; rfl
  | case8 x y ih => intro h; rw [carryT, ← ih (by simpa [nS] using h)]; rfl
  | case9 x y h1 h2 h3 h4 h5 h6 h7 h8 =>
    intro g
    match x, y with
    | .ins b :: x, y => exact absurd rfl (h1 b x)
    | [], .ins c :: y => exact absurd rfl (h2 c y rfl)
    | [], [] => simp [carryT, gapsA, stays, puts, gapA, stA]
    | [], .keep :: y => simp [nS] at g
    | [], .drop :: y => simp [nS] at g
    | .keep :: x, [] => simp [nS] at g
    | .drop :: x, [] => simp [nS] at g
    | .keep :: x, .ins c :: y => exact absurd rfl (h3 x c y rfl)
    | .drop :: x, .ins c :: y => exact absurd rfl (h4 x c y rfl)
    | .keep :: x, .keep :: y => exact absurd rfl (h5 x y rfl)
    | .drop :: x, .keep :: y => exact absurd rfl (h6 x y rfl)
    | .keep :: x, .drop :: y => exact absurd rfl (h7 x y rfl)
    | .drop :: x, .drop :: y => exact absurd rfl (h8 x y rfl)
theorem gapsA_F : ∀ (x y : List Atom), nS x = nS y → gapsA false (stays x) (puts x) (stays y) (puts y) = carryF x y := by
  intro x y
  induction x, y using carryF.induct with
  | case1 x c y ih =>
    intro h
    rw [carryF, ← ih h]
    obtain ⟨p, ps, e, hl⟩ := puts_cons y
    obtain ⟨p', ps', e', hl'⟩ := puts_cons x
    show gapsA false (stays x) (puts x) (stays y) (consHead c (puts y)) = _
    rw [e, e']
    exact gapsA_keepF c (by rw [← nS_stays, ← nS_stays]; exact h) hl'
  | case2 b x ih =>
    intro h
    rw [carryF, ← ih h]
    obtain ⟨p, ps, e, hl⟩ := puts_cons x
    show gapsA false (stays x) (consHead b (puts x)) [] [[]] = _
    rw [e]
    exact gapsA_insF b (by rw [← nS_stays]; exact h) hl
  | case3 b x y ih =>
    intro h
    rw [carryF, ← ih h]
    obtain ⟨p, ps, e, hl⟩ := puts_cons x
    show gapsA false (stays x) (consHead b (puts x)) (true :: stays y) ([] :: puts y) = _
    rw [e]
    exact gapsA_insF b (by rw [← nS_stays, ← show nS (.ins b :: x) = nS x from rfl, h]; simp [nS, nS_stays]) hl
  | case4 b x y ih =>
    intro h
    rw [carryF, ← ih h]
    obtain ⟨p, ps, e, hl⟩ := puts_cons x
    show gapsA false (stays x) (consHead b (puts x)) (false :: stays y) ([] :: puts y) = _
    rw [e]
    exact gapsA_insF b (by rw [← nS_stays, ← show nS (.ins b :: x) = nS x from rfl, h]; simp [nS, nS_stays]) hl
  | case5 x y ih => intro h; rw [carryF, ← ih (by simpa [nS] using h)]; rfl
  | case6 x y ih => intro h; rw [carryF, ← ih (by simpa [nS] using h)]; rfl
  | case7 x y ih => intro h; rw [carryF, ← ih (by simpa [nS] using h)]; rfl
  | case8 x y ih => intro h; rw [carryF, ← ih (by simpa [nS] using h)]; rfl
  | case9 x y h1 h2 h3 h4 h5 h6 h7 h8 =>
    intro g
    match x, y with
    | x, .ins c :: y => exact absurd rfl (h1 c y)
    | .ins b :: x, [] => exact absurd rfl (h2 b x rfl)
    | .ins b :: x, .keep :: y => exact absurd rfl (h3 b x y rfl)
    | .ins b :: x, .drop :: y => exact absurd rfl (h4 b x y rfl)
    | [], [] => simp [carryF, gapsA, stays, puts, gapA, stA]
    | [], .keep :: y => simp [nS] at g
    | [], .drop :: y => simp [nS] at g
    | .keep :: x, [] => simp [nS] at g
    | .drop :: x, [] => simp [nS] at g
    | .keep :: x, .keep :: y => exact absurd rfl (h5 x y rfl)
    | .drop :: x, .keep :: y => exact absurd rfl (h6 x y rfl)
    | .keep :: x, .drop :: y => exact absurd rfl (h7 x y rfl)
    | .drop :: x, .drop :: y => exact absurd rfl (h8 x y rfl)
theorem gapsA_carry (first : Bool) (x y : List Atom) (h : nS x = nS y) : gapsA first (stays x) (puts x) (stays y) (puts y) = carryA first x y := by
  cases first
  · exact gapsA_F x y h
  · exact gapsA_T x y h

/-! ### the loops -/
def rest (first : Bool) (Sx : List Bool) (Px : List (List UInt8)) (Sy : List Bool) (Py : List (List UInt8)) (k : Nat) : List Prt := gaps first (Sx.drop k) (Px.drop k) (Sy.drop k) (Py.drop k)
def stAt (Sx Sy : List Bool) (k : Nat) : Option (Bool × Bool) := match Sx[k]?, Sy[k]? with
  | some a, some b => some (a, b)
  | _, _ => none
theorem rest_step (first : Bool) {Sx : List Bool} {Px : List (List UInt8)} {Sy : List Bool} {Py : List (List UInt8)} {k : Nat} (hs : Sx.length = Sy.length) (hx : k < Px.length) (hy : k < Py.length) (hl : Px.length = Sx.length + 1) (hl2 : Py.length = Sy.length + 1) :
    rest first Sx Px Sy Py k = gap first Px[k] Py[k] (stAt Sx Sy k) ++ rest first Sx Px Sy Py (k + 1) := by
  unfold rest
  rw [List.drop_eq_getElem_cons hx, List.drop_eq_getElem_cons hy]
  by_cases h : k < Sx.length
  · have h' : k < Sy.length := by omega
    rw [List.drop_eq_getElem_cons h, List.drop_eq_getElem_cons h']
    simp only [gaps, stAt, List.getElem?_eq_getElem h, List.getElem?_eq_getElem h']
  · have e : Sx.drop k = [] := List.drop_eq_nil_of_le (by omega)
    have e2 : Sx.drop (k + 1) = [] := List.drop_eq_nil_of_le (by omega)
    have e3 : Px.drop (k + 1) = [] := List.drop_eq_nil_of_le (by omega)
    rw [e, e2, e3]
    simp only [gaps, stAt, List.getElem?_eq_none (show Sx.length ≤ k by omega), List.append_nil]
/-- rows that fit -/
structure Rows (Sx : List Bool) (Px : List (List UInt8)) (Sy : List Bool) (Py : List (List UInt8)) : Prop where
  s : Sx.length = Sy.length
  x : Px.length = Sx.length + 1
  y : Py.length = Sy.length + 1
  n : Sx.length ≤ 1000
  px : ∀ p ∈ Px, p.length ≤ 1000
  py : ∀ p ∈ Py, p.length ≤ 1000

theorem one_I : I64 1 ∧ I64 0 := by unfold I64; omega
theorem i_carry_loop {first : Bool} {Sx : List Bool} {Px : List (List UInt8)} {Sy : List Bool} {Py : List (List UInt8)} (h : Rows Sx Px Sy Py) :
    Ok (loopG i_carry_L1 (first, ((List.length Px : Nat) : Int), 0, Sx, Px, Sy, Py, [])) fun z => z = norm (rest first Sx Px Sy Py 0) ∧ Sm 4004004 z := by
  refine (Ok.loop (fun y => y.1 = first ∧ y.2.1 = ((List.length Px : Nat) : Int) ∧ y.2.2.2.1 = Sx ∧ y.2.2.2.2.1 = Px ∧ y.2.2.2.2.2.1 = Sy ∧ y.2.2.2.2.2.2.1 = Py ∧ ∃ k : Nat, y.2.2.1 = ((k : Nat) : Int) ∧ k ≤ Px.length ∧
      Sm (k * 4000) y.2.2.2.2.2.2.2 ∧ (rest first Sx Px Sy Py k).foldl addp y.2.2.2.2.2.2.2 = norm (rest first Sx Px Sy Py 0)) (fun y => (((List.length Px : Nat) : Int) - y.2.2.1).toNat)
    ⟨rfl, rfl, rfl, rfl, rfl, rfl, 0, rfl, Nat.zero_le _, Sm.nil _, rfl⟩ ?_)
  rintro ⟨f, n, k', sx, px, sy, py, o⟩ ⟨e1, e2, e3, e4, e5, e6, k, e7, hk, ho, hf⟩
  dsimp only at e1 e2 e3 e4 e5 e6 e7 ho hf
  subst e1 e2 e3 e4 e5 e6 e7
  obtain ⟨hs, hx, hy, hn, hpx, hpy⟩ := h
  unfold i_carry_L1
  dsimp only
  refine Ok.ite (fun hc => ?_) fun hc => ?_
  · have hlt : k < px.length := by simpa using hc
    have hlt2 : k < py.length := by omega
    have z := one_I.2
    have lp := hpx _ (List.getElem_mem hlt)
    have lq := hpy _ (List.getElem_mem hlt2)
    rw [rest_step f hs hlt hlt2 hx hy, List.foldl_append] at hf
    refine Ok.yes (by simp) (Ok.yes (by simpa using hlt) (Ok.bind_eq (r := px[k]) (by simp [List.getElem?_eq_getElem hlt]) ?_))
    refine Ok.bind (Q := fun v => v = (f, ((k : Nat) : Int), ((List.length px : Nat) : Int), ((k : Nat) : Int), sx, px, sy, py, if f = true then addp o (0, 0, px[k]) else o, 0, 0, px[k])) ?_ ?_
    · refine Ok.ite (fun hf1 => ?_) fun hf1 => Ok.mk (by rw [if_neg hf1])
      exact Ok.bind_eq (i_add_eq ho (by omega) 0 0 _ (by omega)) (Ok.mk (by rw [if_pos hf1]))
    rintro _ rfl
    dsimp only
    have so1 : Sm (k * 4000 + 1000) (if f = true then addp o (0, 0, px[k]) else o) := by
      split
      · exact addp_sm ho ⟨z, z⟩ (by omega) (by dsimp only; omega)
      · exact ho.mono (by omega)
    have iq : I64 ((List.length py[k] : Nat) : Int) := by unfold I64; omega
    refine Ok.yes (by simp) (Ok.yes (by simp; omega) (Ok.bind_eq (r := py[k]) (by simp [List.getElem?_eq_getElem hlt2]) (Ok.bind_eq (i_add_eq so1 (by omega) _ 0 [] (by simp)) ?_)))
    have so2 := addp_sm (p := (((List.length py[k] : Nat) : Int), 0, [])) (C := k * 4000 + 1001) so1 ⟨iq, z⟩ (by omega) (by simp)
    refine Ok.bind (Q := fun v => v = (f, ((k : Nat) : Int), ((List.length px : Nat) : Int), ((k : Nat) : Int), sx, px, sy, py, if f = true then addp (addp o (0, 0, px[k])) (((List.length py[k] : Nat) : Int), 0, []) else addp (addp o (((List.length py[k] : Nat) : Int), 0, [])) (0, 0, px[k]))) ?_ ?_
    · cases f with
      | true => exact Ok.no (by simp) (Ok.mk (by simp))
      | false =>
        refine Ok.yes (by simp) (Ok.bind_eq (i_add_eq so2 (by omega) 0 0 _ (by omega)) (Ok.mk (by simp)))
    rintro _ rfl
    dsimp only
    have so3 : Sm (k * 4000 + 2001) (if f = true then addp (addp o (0, 0, px[k])) (((List.length py[k] : Nat) : Int), 0, []) else addp (addp o (((List.length py[k] : Nat) : Int), 0, [])) (0, 0, px[k])) := by
      cases f with
      | true => exact so2.mono (by omega)
      | false => exact addp_sm so2 ⟨z, z⟩ (by omega) (by dsimp only; omega)
    generalize hO : (if f = true then addp (addp o (0, 0, px[k])) (((List.length py[k] : Nat) : Int), 0, []) else addp (addp o (((List.length py[k] : Nat) : Int), 0, [])) (0, 0, px[k])) = O at so3
    have hgap : (gap f px[k] py[k] (stAt sx sy k)).foldl addp o = (stPart (stAt sx sy k)).foldl addp O := by
      subst hO
      unfold gap
      rw [List.foldl_append]
      cases f <;> rfl
    rw [hgap] at hf
    refine Ok.bind (Q := fun v => ∃ b : Bool, v = (f, ((k : Nat) : Int), ((List.length px : Nat) : Int), ((k : Nat) : Int), b, sx, px, sy, py, O) ∧ (b = true → stPart (stAt sx sy k) = []) ∧ (b = false → ∃ h1 : k < sx.length, stPart (stAt sx sy k) = if sx[k] = true then [(1, 0, [])] else [(0, 1, [])])) ?_ ?_
    · refine Ok.ite (fun hq => ?_) fun hq => ?_
      · have : k = sx.length := by
          have : ((k : Nat) : Int) = ((List.length sx : Nat) : Int) := by simpa using hq
          omega
        refine Ok.mk ⟨true, rfl, fun _ => ?_, fun h => by cases h⟩
        simp [stAt, this, stPart]
      · have hks : k < sx.length := by
          have : ¬ ((k : Nat) : Int) = ((List.length sx : Nat) : Int) := by simpa using hq
          omega
        have hks2 : k < sy.length := by omega
        refine Ok.yes (by simp) (Ok.yes (by simp; omega) (Ok.bind_eq (r := sy[k]) (by simp [List.getElem?_eq_getElem hks2]) (Ok.mk ⟨_, rfl, fun hb => ?_, fun hb => ⟨hks, ?_⟩⟩)))
        · have : sy[k] = false := by simpa using hb
          simp only [stAt, List.getElem?_eq_getElem hks, List.getElem?_eq_getElem hks2, this]
          cases sx[k] <;> rfl
        · have : sy[k] = true := by simpa using hb
          simp only [stAt, List.getElem?_eq_getElem hks, List.getElem?_eq_getElem hks2, this]
          cases sx[k] <;> rfl
    rintro _ ⟨b, rfl, hb1, hb2⟩
    dsimp only
    refine Ok.bind (Q := fun v => v = (f, ((List.length px : Nat) : Int), ((k : Nat) : Int), sx, px, sy, py, (stPart (stAt sx sy k)).foldl addp O)) ?_ ?_
    · cases b with
      | true => exact Ok.yes rfl (Ok.mk (by rw [hb1 rfl]; rfl))
      | false =>
        obtain ⟨hks, hst⟩ := hb2 rfl
        refine Ok.no (by simp) (Ok.yes (by simp) (Ok.yes (by simp; omega) (Ok.bind_eq (r := sx[k]) (by simp [List.getElem?_eq_getElem hks]) ?_)))
        refine Ok.bind (Q := fun v => v = (f, ((List.length px : Nat) : Int), ((k : Nat) : Int), sx, px, sy, py, (stPart (stAt sx sy k)).foldl addp O)) ?_ (fun v hv => Ok.mk hv)
        rw [hst]
        refine Ok.ite (fun h1 => Ok.bind_eq (i_add_eq so3 (by omega) 1 0 [] (by simp)) (Ok.mk (by rw [if_pos h1]; rfl))) fun h1 => Ok.bind_eq (i_add_eq so3 (by omega) 0 1 [] (by simp)) (Ok.mk (by rw [if_neg h1]; rfl))
    rintro _ rfl
    dsimp only
    have so4 : Sm ((k + 1) * 4000) ((stPart (stAt sx sy k)).foldl addp O) := by
      cases b with
      | true => rw [hb1 rfl]; exact so3.mono (by omega)
      | false =>
        obtain ⟨hks, hst⟩ := hb2 rfl
        rw [hst]
        split
        · exact addp_sm (p := (1, 0, [])) (C := (k + 1) * 4000) so3 ⟨one_I.1, z⟩ (by omega) (by simp; omega)
        · exact addp_sm (p := (0, 1, [])) (C := (k + 1) * 4000) so3 ⟨z, one_I.1⟩ (by omega) (by simp; omega)
    exact Ok.mk ⟨⟨rfl, rfl, rfl, rfl, rfl, rfl, k + 1, idx_succ (n := px.length) (by omega) hlt, by omega, so4, hf⟩, by rw [idx_succ (n := px.length) (by omega) hlt]; dsimp only; omega⟩
  · have : k = px.length := by
      have : ¬ ((k : Int) < ((List.length px : Nat) : Int)) := by simpa using hc
      omega
    subst this
    refine Ok.mk ⟨?_, ho.mono (by omega)⟩
    rw [← hf]
    have : rest f sx px sy py px.length = [] := by
      unfold rest
      rw [List.drop_length, List.drop_eq_nil_of_le (show sx.length ≤ px.length by omega)]; rfl
    rw [this]; rfl
end Go.V.G
