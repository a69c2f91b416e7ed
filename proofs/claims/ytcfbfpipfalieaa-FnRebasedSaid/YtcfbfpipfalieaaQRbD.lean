import Derived.Test.YtcfbfpipfalieaaQRbC
set_option linter.unusedVariables false
set_option linter.unusedSimpArgs false
set_option maxRecDepth 100000
namespace Go.V.G
open Go.V
def stPart : Option (Bool × Bool) → List Prt
  | some (true, true) => [(1, 0, [])]
  | some (false, true) => [(0, 1, [])]
  | _ => []
def gap (first : Bool) (p q : List UInt8) (st : Option (Bool × Bool)) : List Prt :=
  (if first = true then [(0, 0, p), (((q.length : Nat) : Int), 0, [])] else [(((q.length : Nat) : Int), 0, []), (0, 0, p)]) ++ stPart st
def gaps (first : Bool) : List Bool → List (List UInt8) → List Bool → List (List UInt8) → List Prt
  | [], p :: _, _, q :: _ => gap first p q none
  | sx :: Sx, p :: Px, sy :: Sy, q :: Py => gap first p q (some (sx, sy)) ++ gaps first Sx Px Sy Py
  | _, _, _, _ => []
def stA : Option (Bool × Bool) → List Atom
  | some (true, true) => [.keep]
  | some (false, true) => [.drop]
  | _ => []
def gapA (first : Bool) (p q : List UInt8) (st : Option (Bool × Bool)) : List Atom :=
  (if first = true then p.map Atom.ins ++ List.replicate q.length .keep else List.replicate q.length .keep ++ p.map Atom.ins) ++ stA st
theorem gap_atoms (first : Bool) (p q : List UInt8) (st : Option (Bool × Bool)) : atoms (gap first p q st) = gapA first p q st := by
  have h1 : atoms (stPart st) = stA st := by
    match st with
    | some (true, true) => rfl
    | some (false, true) => rfl
    | some (true, false) => rfl
    | some (false, false) => rfl
    | none => rfl
  unfold gap gapA
  rw [atoms_append, h1]
  cases first
  · simp [atoms, pa_put, pa_keep]
  · simp [atoms, pa_put, pa_keep]
def gapsA (first : Bool) : List Bool → List (List UInt8) → List Bool → List (List UInt8) → List Atom
  | [], p :: _, _, q :: _ => gapA first p q none
  | sx :: Sx, p :: Px, sy :: Sy, q :: Py => gapA first p q (some (sx, sy)) ++ gapsA first Sx Px Sy Py
  | _, _, _, _ => []
theorem gaps_atoms (first : Bool) : ∀ (Sx : List Bool) (Px : List (List UInt8)) (Sy : List Bool) (Py : List (List UInt8)), atoms (gaps first Sx Px Sy Py) = gapsA first Sx Px Sy Py
  | [], [], _, _ => rfl
  | [], p :: _, _, [] => rfl
  | [], p :: _, _, q :: _ => gap_atoms first p q none
  | _ :: _, [], _, _ => rfl
  | _ :: _, _ :: _, [], _ => rfl
  | _ :: _, _ :: _, _ :: _, [] => rfl
  | sx :: Sx, p :: Px, sy :: Sy, q :: Py => by
    show atoms (gap first p q (some (sx, sy)) ++ gaps first Sx Px Sy Py) = _
    rw [atoms_append, gap_atoms, gaps_atoms first Sx Px Sy Py]; rfl
theorem gapsA_insT (b : UInt8) {Sx : List Bool} {p : List UInt8} {ps : List (List UInt8)} {Sy : List Bool} {Py : List (List UInt8)} (h : Sx.length = Sy.length) (h1 : ps.length = Sx.length) (h2 : Py.length = Sy.length + 1) :
    gapsA true Sx ((b :: p) :: ps) Sy Py = .ins b :: gapsA true Sx (p :: ps) Sy Py := by
  match Sx, Sy, Py, h, h2 with
  | [], _, q :: Py, _, _ => rfl
  | sx :: Sx, sy :: Sy, q :: Py, _, _ => rfl
theorem gapsA_keepT (b : UInt8) {Sx : List Bool} {Px : List (List UInt8)} {Sy : List Bool} {q : List UInt8} {qs : List (List UInt8)} (h : Sx.length = Sy.length) (h1 : Px.length = Sx.length) :
    gapsA true Sx ([] :: Px) Sy ((b :: q) :: qs) = .keep :: gapsA true Sx ([] :: Px) Sy (q :: qs) := by
  match Sx, Sy, h with
  | [], _, _ => rfl
  | sx :: Sx, sy :: Sy, _ => rfl
theorem gapsA_keepF (b : UInt8) {Sx : List Bool} {p : List UInt8} {Px : List (List UInt8)} {Sy : List Bool} {q : List UInt8} {qs : List (List UInt8)} (h : Sx.length = Sy.length) (h1 : Px.length = Sx.length) :
    gapsA false Sx (p :: Px) Sy ((b :: q) :: qs) = .keep :: gapsA false Sx (p :: Px) Sy (q :: qs) := by
  match Sx, Sy, h with
  | [], _, _ => rfl
  | sx :: Sx, sy :: Sy, _ => rfl
theorem gapsA_insF (b : UInt8) {Sx : List Bool} {p : List UInt8} {ps : List (List UInt8)} {Sy : List Bool} {qs : List (List UInt8)} (h : Sx.length = Sy.length) (h1 : ps.length = Sx.length) :
    gapsA false Sx ((b :: p) :: ps) Sy ([] :: qs) = .ins b :: gapsA false Sx (p :: ps) Sy ([] :: qs) := by
  match Sx, Sy, h with
  | [], _, _ => rfl
  | sx :: Sx, sy :: Sy, _ => rfl
theorem puts_cons (l : List Atom) : ∃ p ps, puts l = p :: ps ∧ ps.length = (stays l).length := by
  have h := puts_len l
  match hp : puts l, puts_ne l with
  | p :: ps, _ => rw [hp] at h; exact ⟨p, ps, rfl, by simpa using h⟩
theorem gapsA_T : ∀ (x y : List Atom), nS x = nS y → gapsA true (stays x) (puts x) (stays y) (puts y) = carryT x y := by
  intro x y
  induction x, y using carryT.induct with
  | case1 b x y ih =>
    intro h
    rw [carryT, ← ih h]
    obtain ⟨p, ps, e, hl⟩ := puts_cons x
    show gapsA true (stays x) (consHead b (puts x)) (stays y) (puts y) = _
    rw [e]
    exact gapsA_insT b (by rw [← nS_stays, ← nS_stays]; exact h) hl (puts_len y)
  | case2 c y ih =>
    intro h
    rw [carryT, ← ih h]
    obtain ⟨p, ps, e, hl⟩ := puts_cons y
    show gapsA true [] [[]] (stays y) (consHead c (puts y)) = _
    rw [e]; rfl
  | case3 x c y ih =>
    intro h
    rw [carryT, ← ih h]
    obtain ⟨p, ps, e, hl⟩ := puts_cons y
    show gapsA true (true :: stays x) ([] :: puts x) (stays y) (consHead c (puts y)) = _
    rw [e]
    have : (true :: stays x).length = (stays y).length := by rw [← nS_stays y, ← show nS (.ins c :: y) = nS y from rfl, ← h]; simp [nS, nS_stays]
    exact gapsA_keepT c this (by rw [puts_len]; simp)
  | case4 x c y ih =>
    intro h
    rw [carryT, ← ih h]
    obtain ⟨p, ps, e, hl⟩ := puts_cons y
    show gapsA true (false :: stays x) ([] :: puts x) (stays y) (consHead c (puts y)) = _
    rw [e]
    have : (false :: stays x).length = (stays y).length := by rw [← nS_stays y, ← show nS (.ins c :: y) = nS y from rfl, ← h]; simp [nS, nS_stays]
    exact gapsA_keepT c this (by rw [puts_len]; simp)
  | case5 x y ih => intro h; rw [carryT, ← ih (by simpa [nS] using h)]; rfl
  | case6 x y ih => intro h; rw [carryT, ← ih (by simpa [nS] using h)]; rfl
  | case7 x y ih => intro h; rw [carryT, ← ih (by simpa [nS] using h)]; rfl
  | case8 x y ih => intro h; rw [carryT, ← ih (by simpa [nS] using h)]; rfl
  | case9 x y h1 h2 h3 h4 h5 h6 h7 h8 =>
    intro g
    match x, y with
    | .ins b :: x, y => exact absurd rfl (h1 b x)
    | [], .ins c :: y => exact absurd rfl (h2 c y rfl)
    | [], [] => simp [carryT, gapsA, stays, puts, gapA, stA]
    | [], .keep :: y => simp [nS] at g
    | [], .drop :: y => simp [nS] at g
    | .keep :: x, [] => simp [nS] at g
    | .drop :: x, [] => simp [nS] at g
    | .keep :: x, .ins c :: y => exact absurd rfl (h3 x c y rfl)
    | .drop :: x, .ins c :: y => exact absurd rfl (h4 x c y rfl)
    | .keep :: x, .keep :: y => exact absurd rfl (h5 x y rfl)
    | .drop :: x, .keep :: y => exact absurd rfl (h6 x y rfl)
    | .keep :: x, .drop :: y => exact absurd rfl (h7 x y rfl)
    | .drop :: x, .drop :: y => exact absurd rfl (h8 x y rfl)
theorem gapsA_F : ∀ (x y : List Atom), nS x = nS y → gapsA false (stays x) (puts x) (stays y) (puts y) = carryF x y := by
  intro x y
  induction x, y using carryF.induct with
  | case1 x c y ih =>
    intro h
    rw [carryF, ← ih h]
    obtain ⟨p, ps, e, hl⟩ := puts_cons y
    obtain ⟨p', ps', e', hl'⟩ := puts_cons x
    show gapsA false (stays x) (puts x) (stays y) (consHead c (puts y)) = _
    rw [e, e']
    exact gapsA_keepF c (by rw [← nS_stays, ← nS_stays]; exact h) hl'
  | case2 b x ih =>
    intro h
    rw [carryF, ← ih h]
    obtain ⟨p, ps, e, hl⟩ := puts_cons x
    show gapsA false (stays x) (consHead b (puts x)) [] [[]] = _
    rw [e]
    exact gapsA_insF b (by rw [← nS_stays]; exact h) hl
  | case3 b x y ih =>
    intro h
    rw [carryF, ← ih h]
    obtain ⟨p, ps, e, hl⟩ := puts_cons x
    show gapsA false (stays x) (consHead b (puts x)) (true :: stays y) ([] :: puts y) = _
    rw [e]
    exact gapsA_insF b (by rw [← nS_stays, ← show nS (.ins b :: x) = nS x from rfl, h]; simp [nS, nS_stays]) hl
  | case4 b x y ih =>
    intro h
    rw [carryF, ← ih h]
    obtain ⟨p, ps, e, hl⟩ := puts_cons x
    show gapsA false (stays x) (consHead b (puts x)) (false :: stays y) ([] :: puts y) = _
    rw [e]
    exact gapsA_insF b (by rw [← nS_stays, ← show nS (.ins b :: x) = nS x from rfl, h]; simp [nS, nS_stays]) hl
  | case5 x y ih => intro h; rw [carryF, ← ih (by simpa [nS] using h)]; rfl
  | case6 x y ih => intro h; rw [carryF, ← ih (by simpa [nS] using h)]; rfl
  | case7 x y ih => intro h; rw [carryF, ← ih (by simpa [nS] using h)]; rfl
  | case8 x y ih => intro h; rw [carryF, ← ih (by simpa [nS] using h)]; rfl
  | case9 x y h1 h2 h3 h4 h5 h6 h7 h8 =>
    intro g
    match x, y with
    | x, .ins c :: y => exact absurd rfl (h1 c y)
    | .ins b :: x, [] => exact absurd rfl (h2 b x rfl)
    | .ins b :: x, .keep :: y => exact absurd rfl (h3 b x y rfl)
    | .ins b :: x, .drop :: y => exact absurd rfl (h4 b x y rfl)
    | [], [] => simp [carryF, gapsA, stays, puts, gapA, stA]
    | [], .keep :: y => simp [nS] at g
    | [], .drop :: y => simp [nS] at g
    | .keep :: x, [] => simp [nS] at g
    | .drop :: x, [] => simp [nS] at g
    | .keep :: x, .keep :: y => exact absurd rfl (h5 x y rfl)
    | .drop :: x, .keep :: y => exact absurd rfl (h6 x y rfl)
    | .keep :: x, .drop :: y => exact absurd rfl (h7 x y rfl)
    | .drop :: x, .drop :: y => exact absurd rfl (h8 x y rfl)
theorem gapsA_carry (first : Bool) (x y : List Atom) (h : nS x = nS y) : gapsA first (stays x) (puts x) (stays y) (puts y) = carryA first x y := by
  cases first
  · exact gapsA_F x y h
  · exact gapsA_T x y h
def rest (first : Bool) (Sx : List Bool) (Px : List (List UInt8)) (Sy : List Bool) (Py : List (List UInt8)) (k : Nat) : List Prt := gaps first (Sx.drop k) (Px.drop k) (Sy.drop k) (Py.drop k)
def stAt (Sx Sy : List Bool) (k : Nat) : Option (Bool × Bool) := match Sx[k]?, Sy[k]? with
  | some a, some b => some (a, b)
  | _, _ => none
theorem rest_step (first : Bool) {Sx : List Bool} {Px : List (List UInt8)} {Sy : List Bool} {Py : List (List UInt8)} {k : Nat} (hs : Sx.length = Sy.length) (hx : k < Px.length) (hy : k < Py.length) (hl : Px.length = Sx.length + 1) (hl2 : Py.length = Sy.length + 1) :
    rest first Sx Px Sy Py k = gap first Px[k] Py[k] (stAt Sx Sy k) ++ rest first Sx Px Sy Py (k + 1) := by
  unfold rest
  rw [List.drop_eq_getElem_cons hx, List.drop_eq_getElem_cons hy]
  by_cases h : k < Sx.length
  · have h' : k < Sy.length := by omega
    rw [List.drop_eq_getElem_cons h, List.drop_eq_getElem_cons h']
    simp only [gaps, stAt, List.getElem?_eq_getElem h, List.getElem?_eq_getElem h']
  · have e : Sx.drop k = [] := List.drop_eq_nil_of_le (by omega)
    have e2 : Sx.drop (k + 1) = [] := List.drop_eq_nil_of_le (by omega)
    have e3 : Px.drop (k + 1) = [] := List.drop_eq_nil_of_le (by omega)
    rw [e, e2, e3]
    simp only [gaps, stAt, List.getElem?_eq_none (show Sx.length ≤ k by omega), List.append_nil]
structure Rows (Sx : List Bool) (Px : List (List UInt8)) (Sy : List Bool) (Py : List (List UInt8)) : Prop where
  s : Sx.length = Sy.length
  x : Px.length = Sx.length + 1
  y : Py.length = Sy.length + 1
  n : Sx.length ≤ 1000
  px : ∀ p ∈ Px, p.length ≤ 1000
  py : ∀ p ∈ Py, p.length ≤ 1000
theorem one_I : I64 1 ∧ I64 0 := by unfold I64; omega
theorem i_carry_loop {first : Bool} {Sx : List Bool} {Px : List (List UInt8)} {Sy : List Bool} {Py : List (List UInt8)} (h : Rows Sx Px Sy Py) :
    Ok (loopG i_carry_L1 (first, ((List.length Px : Nat) : Int), 0, Sx, Px, Sy, Py, [])) fun z => z = norm (rest first Sx Px Sy Py 0) ∧ Sm 4004004 z := by
  refine (Ok.loop (fun y => y.1 = first ∧ y.2.1 = ((List.length Px : Nat) : Int) ∧ y.2.2.2.1 = Sx ∧ y.2.2.2.2.1 = Px ∧ y.2.2.2.2.2.1 = Sy ∧ y.2.2.2.2.2.2.1 = Py ∧ ∃ k : Nat, y.2.2.1 = ((k : Nat) : Int) ∧ k ≤ Px.length ∧
      Sm (k * 4000) y.2.2.2.2.2.2.2 ∧ (rest first Sx Px Sy Py k).foldl addp y.2.2.2.2.2.2.2 = norm (rest first Sx Px Sy Py 0)) (fun y => (((List.length Px : Nat) : Int) - y.2.2.1).toNat)
    ⟨rfl, rfl, rfl, rfl, rfl, rfl, 0, rfl, Nat.zero_le _, Sm.nil _, rfl⟩ ?_)
  rintro ⟨f, n, k', sx, px, sy, py, o⟩ ⟨e1, e2, e3, e4, e5, e6, k, e7, hk, ho, hf⟩
  dsimp only at e1 e2 e3 e4 e5 e6 e7 ho hf
  subst e1 e2 e3 e4 e5 e6 e7
  obtain ⟨hs, hx, hy, hn, hpx, hpy⟩ := h
  unfold i_carry_L1
  dsimp only
  refine Ok.ite (fun hc => ?_) fun hc => ?_
  · have hlt : k < px.length := by simpa using hc
    have hlt2 : k < py.length := by omega
    have z := one_I.2
    have lp := hpx _ (List.getElem_mem hlt)
    have lq := hpy _ (List.getElem_mem hlt2)
    rw [rest_step f hs hlt hlt2 hx hy, List.foldl_append] at hf
    refine Ok.yes (by simp) (Ok.yes (by simpa using hlt) (Ok.bind_eq (r := px[k]) (by simp [List.getElem?_eq_getElem hlt]) ?_))
    refine Ok.bind (Q := fun v => v = (f, ((k : Nat) : Int), ((List.length px : Nat) : Int), ((k : Nat) : Int), sx, px, sy, py, if f = true then addp o (0, 0, px[k]) else o, 0, 0, px[k])) ?_ ?_
    · refine Ok.ite (fun hf1 => ?_) fun hf1 => Ok.mk (by rw [if_neg hf1])
      exact Ok.bind_eq (i_add_eq ho (by omega) 0 0 _ (by omega)) (Ok.mk (by rw [if_pos hf1]))
    rintro _ rfl
    dsimp only
    have so1 : Sm (k * 4000 + 1000) (if f = true then addp o (0, 0, px[k]) else o) := by
      split
      · exact addp_sm ho ⟨z, z⟩ (by omega) (by dsimp only; omega)
      · exact ho.mono (by omega)
    have iq : I64 ((List.length py[k] : Nat) : Int) := by unfold I64; omega
    refine Ok.yes (by simp) (Ok.yes (by simp; omega) (Ok.bind_eq (r := py[k]) (by simp [List.getElem?_eq_getElem hlt2]) (Ok.bind_eq (i_add_eq so1 (by omega) _ 0 [] (by simp)) ?_)))
    have so2 := addp_sm (p := (((List.length py[k] : Nat) : Int), 0, [])) (C := k * 4000 + 1001) so1 ⟨iq, z⟩ (by omega) (by simp)
    refine Ok.bind (Q := fun v => v = (f, ((k : Nat) : Int), ((List.length px : Nat) : Int), ((k : Nat) : Int), sx, px, sy, py, if f = true then addp (addp o (0, 0, px[k])) (((List.length py[k] : Nat) : Int), 0, []) else addp (addp o (((List.length py[k] : Nat) : Int), 0, [])) (0, 0, px[k]))) ?_ ?_
    · cases f with
      | true => exact Ok.no (by simp) (Ok.mk (by simp))
      | false =>
        refine Ok.yes (by simp) (Ok.bind_eq (i_add_eq so2 (by omega) 0 0 _ (by omega)) (Ok.mk (by simp)))
    rintro _ rfl
    dsimp only
    have so3 : Sm (k * 4000 + 2001) (if f = true then addp (addp o (0, 0, px[k])) (((List.length py[k] : Nat) : Int), 0, []) else addp (addp o (((List.length py[k] : Nat) : Int), 0, [])) (0, 0, px[k])) := by
      cases f with
      | true => exact so2.mono (by omega)
      | false => exact addp_sm so2 ⟨z, z⟩ (by omega) (by dsimp only; omega)
    generalize hO : (if f = true then addp (addp o (0, 0, px[k])) (((List.length py[k] : Nat) : Int), 0, []) else addp (addp o (((List.length py[k] : Nat) : Int), 0, [])) (0, 0, px[k])) = O at so3
    have hgap : (gap f px[k] py[k] (stAt sx sy k)).foldl addp o = (stPart (stAt sx sy k)).foldl addp O := by
      subst hO
      unfold gap
      rw [List.foldl_append]
      cases f <;> rfl
    rw [hgap] at hf
    refine Ok.bind (Q := fun v => ∃ b : Bool, v = (f, ((k : Nat) : Int), ((List.length px : Nat) : Int), ((k : Nat) : Int), b, sx, px, sy, py, O) ∧ (b = true → stPart (stAt sx sy k) = []) ∧ (b = false → ∃ h1 : k < sx.length, stPart (stAt sx sy k) = if sx[k] = true then [(1, 0, [])] else [(0, 1, [])])) ?_ ?_
    · refine Ok.ite (fun hq => ?_) fun hq => ?_
      · have : k = sx.length := by
          have : ((k : Nat) : Int) = ((List.length sx : Nat) : Int) := by simpa using hq
          omega
        refine Ok.mk ⟨true, rfl, fun _ => ?_, fun h => by cases h⟩
        simp [stAt, this, stPart]
      · have hks : k < sx.length := by
          have : ¬ ((k : Nat) : Int) = ((List.length sx : Nat) : Int) := by simpa using hq
          omega
        have hks2 : k < sy.length := by omega
        refine Ok.yes (by simp) (Ok.yes (by simp; omega) (Ok.bind_eq (r := sy[k]) (by simp [List.getElem?_eq_getElem hks2]) (Ok.mk ⟨_, rfl, fun hb => ?_, fun hb => ⟨hks, ?_⟩⟩)))
        · have : sy[k] = false := by simpa using hb
          simp only [stAt, List.getElem?_eq_getElem hks, List.getElem?_eq_getElem hks2, this]
          cases sx[k] <;> rfl
        · have : sy[k] = true := by simpa using hb
          simp only [stAt, List.getElem?_eq_getElem hks, List.getElem?_eq_getElem hks2, this]
          cases sx[k] <;> rfl
    rintro _ ⟨b, rfl, hb1, hb2⟩
    dsimp only
    refine Ok.bind (Q := fun v => v = (f, ((List.length px : Nat) : Int), ((k : Nat) : Int), sx, px, sy, py, (stPart (stAt sx sy k)).foldl addp O)) ?_ ?_
    · cases b with
      | true => exact Ok.yes rfl (Ok.mk (by rw [hb1 rfl]; rfl))
      | false =>
        obtain ⟨hks, hst⟩ := hb2 rfl
        refine Ok.no (by simp) (Ok.yes (by simp) (Ok.yes (by simp; omega) (Ok.bind_eq (r := sx[k]) (by simp [List.getElem?_eq_getElem hks]) ?_)))
        refine Ok.bind (Q := fun v => v = (f, ((List.length px : Nat) : Int), ((k : Nat) : Int), sx, px, sy, py, (stPart (stAt sx sy k)).foldl addp O)) ?_ (fun v hv => Ok.mk hv)
        rw [hst]
        refine Ok.ite (fun h1 => Ok.bind_eq (i_add_eq so3 (by omega) 1 0 [] (by simp)) (Ok.mk (by rw [if_pos h1]; rfl))) fun h1 => Ok.bind_eq (i_add_eq so3 (by omega) 0 1 [] (by simp)) (Ok.mk (by rw [if_neg h1]; rfl))
    rintro _ rfl
    dsimp only
    have so4 : Sm ((k + 1) * 4000) ((stPart (stAt sx sy k)).foldl addp O) := by
      cases b with
      | true => rw [hb1 rfl]; exact so3.mono (by omega)
      | false =>
        obtain ⟨hks, hst⟩ := hb2 rfl
        rw [hst]
        split
        · exact addp_sm (p := (1, 0, [])) (C := (k + 1) * 4000) so3 ⟨one_I.1, z⟩ (by omega) (by simp; omega)
        · exact addp_sm (p := (0, 1, [])) (C := (k + 1) * 4000) so3 ⟨z, one_I.1⟩ (by omega) (by simp; omega)
    exact Ok.mk ⟨⟨rfl, rfl, rfl, rfl, rfl, rfl, k + 1, idx_succ (n := px.length) (by omega) hlt, by omega, so4, hf⟩, by rw [idx_succ (n := px.length) (by omega) hlt]; dsimp only; omega⟩
  · have : k = px.length := by
      have : ¬ ((k : Int) < ((List.length px : Nat) : Int)) := by simpa using hc
      omega
    subst this
    refine Ok.mk ⟨?_, ho.mono (by omega)⟩
    rw [← hf]
    have : rest f sx px sy py px.length = [] := by
      unfold rest
      rw [List.drop_length, List.drop_eq_nil_of_le (show sx.length ≤ px.length by omega)]; rfl
    rw [this]; rfl
end Go.V.G

set_option linter.unusedVariables false
set_option linter.unusedSimpArgs false
set_option maxRecDepth 100000
namespace Go.V.G
open Go.V
theorem s_carry_loop {first : Bool} {Sx : List Bool} {Px : List (List UInt8)} {Sy : List Bool} {Py : List (List UInt8)} (h : Rows Sx Px Sy Py) :
    Ok (loopG s_l1Carry_L1 (first, [], Px, ((List.length Px : Nat) : Int), 0, Sx, Sy, Py)) fun z => z = norm (rest first Sx Px Sy Py 0) ∧ Sm 4004004 z := by
  refine (Ok.loop (fun y => y.1 = first ∧ y.2.2.2.1 = ((List.length Px : Nat) : Int) ∧ y.2.2.2.2.2.1 = Sx ∧ y.2.2.1 = Px ∧ y.2.2.2.2.2.2.1 = Sy ∧ y.2.2.2.2.2.2.2 = Py ∧ ∃ k : Nat, y.2.2.2.2.1 = ((k : Nat) : Int) ∧ k ≤ Px.length ∧
      Sm (k * 4000) y.2.1 ∧ (rest first Sx Px Sy Py k).foldl addp y.2.1 = norm (rest first Sx Px Sy Py 0)) (fun y => (((List.length Px : Nat) : Int) - y.2.2.2.2.1).toNat)
    ⟨rfl, rfl, rfl, rfl, rfl, rfl, 0, rfl, Nat.zero_le _, Sm.nil _, rfl⟩ ?_)
  rintro ⟨f, o, px, n, k', sx, sy, py⟩ ⟨e1, e2, e3, e4, e5, e6, k, e7, hk, ho, hf⟩
  dsimp only at e1 e2 e3 e4 e5 e6 e7 ho hf
  subst e1 e2 e3 e4 e5 e6 e7
  obtain ⟨hs, hx, hy, hn, hpx, hpy⟩ := h
  unfold s_l1Carry_L1
  dsimp only
  refine Ok.ite (fun hc => ?_) fun hc => ?_
  · have hlt : k < px.length := by simpa using hc
    have hlt2 : k < py.length := by omega
    have z := one_I.2
    have lp := hpx _ (List.getElem_mem hlt)
    have lq := hpy _ (List.getElem_mem hlt2)
    rw [rest_step f hs hlt hlt2 hx hy, List.foldl_append] at hf
    refine Ok.bind (Q := fun v => ∃ O4, v = (f, O4, px, ((List.length px : Nat) : Int), ((k : Nat) : Int), sx, sy, py) ∧ Sm ((k + 1) * 4000) O4 ∧ (rest f sx px sy py (k + 1)).foldl addp O4 = norm (rest f sx px sy py 0)) ?_ ?_
    rotate_left
    · rintro _ ⟨O4, rfl, so4, hf⟩
      exact Ok.mk ⟨⟨rfl, rfl, rfl, rfl, rfl, rfl, k + 1, idx_succ (n := px.length) (by omega) hlt, by omega, so4, hf⟩, by rw [idx_succ (n := px.length) (by omega) hlt]; dsimp only; omega⟩
    refine Ok.yes (by simp) (Ok.yes (by simpa using hlt) (Ok.bind_eq (r := px[k]) (by simp [List.getElem?_eq_getElem hlt]) ?_))
    refine Ok.bind (Q := fun v => v = (f, (if f = true then addp o (0, 0, px[k]) else o), ((k : Nat) : Int), px[k], px, ((List.length px : Nat) : Int), ((k : Nat) : Int), sx, sy, py)) ?_ ?_
    · refine Ok.ite (fun hf1 => ?_) fun hf1 => Ok.mk (by rw [if_neg hf1])
      exact Ok.bind_eq (s_l1Add_eq ho (by omega) 0 0 _ (by omega)) (Ok.mk (by rw [if_pos hf1]))
    rintro _ rfl
    dsimp only
    have so1 : Sm (k * 4000 + 1000) (if f = true then addp o (0, 0, px[k]) else o) := by
      split
      · exact addp_sm ho ⟨z, z⟩ (by omega) (by dsimp only; omega)
      · exact ho.mono (by omega)
    have iq : I64 ((List.length py[k] : Nat) : Int) := by unfold I64; omega
    refine Ok.yes (by simp) (Ok.yes (by simp; omega) (Ok.bind_eq (r := py[k]) (by simp [List.getElem?_eq_getElem hlt2]) (Ok.bind_eq (s_l1Add_eq so1 (by omega) _ 0 [] (by simp)) ?_)))
    have so2 := addp_sm (p := (((List.length py[k] : Nat) : Int), 0, [])) (C := k * 4000 + 1001) so1 ⟨iq, z⟩ (by omega) (by simp)
    refine Ok.bind (Q := fun v => v = (f, (if f = true then addp (addp o (0, 0, px[k])) (((List.length py[k] : Nat) : Int), 0, []) else addp (addp o (((List.length py[k] : Nat) : Int), 0, [])) (0, 0, px[k])), ((k : Nat) : Int), px, ((List.length px : Nat) : Int), ((k : Nat) : Int), sx, sy, py)) ?_ ?_
    · cases f with
      | true => exact Ok.no (by simp) (Ok.mk (by simp))
      | false =>
        refine Ok.yes (by simp) (Ok.bind_eq (s_l1Add_eq so2 (by omega) 0 0 _ (by omega)) (Ok.mk (by simp)))
    rintro _ rfl
    dsimp only
    have so3 : Sm (k * 4000 + 2001) (if f = true then addp (addp o (0, 0, px[k])) (((List.length py[k] : Nat) : Int), 0, []) else addp (addp o (((List.length py[k] : Nat) : Int), 0, [])) (0, 0, px[k])) := by
      cases f with
      | true => exact so2.mono (by omega)
      | false => exact addp_sm so2 ⟨z, z⟩ (by omega) (by dsimp only; omega)
    generalize hO : (if f = true then addp (addp o (0, 0, px[k])) (((List.length py[k] : Nat) : Int), 0, []) else addp (addp o (((List.length py[k] : Nat) : Int), 0, [])) (0, 0, px[k])) = O at so3
    have hgap : (gap f px[k] py[k] (stAt sx sy k)).foldl addp o = (stPart (stAt sx sy k)).foldl addp O := by
      subst hO
      unfold gap
      rw [List.foldl_append]
      cases f <;> rfl
    rw [hgap] at hf
    refine Ok.bind (Q := fun v => ∃ b : Bool, v = (f, O, ((k : Nat) : Int), px, ((List.length px : Nat) : Int), ((k : Nat) : Int), b, sx, sy, py) ∧ (b = true → stPart (stAt sx sy k) = []) ∧ (b = false → ∃ h1 : k < sx.length, stPart (stAt sx sy k) = if sx[k] = true then [(1, 0, [])] else [(0, 1, [])])) ?_ ?_
    · refine Ok.ite (fun hq => ?_) fun hq => ?_
      · have : k = sx.length := by
          have : ((k : Nat) : Int) = ((List.length sx : Nat) : Int) := by simpa using hq
          omega
        refine Ok.mk ⟨true, rfl, fun _ => ?_, fun h => by cases h⟩
        simp [stAt, this, stPart]
      · have hks : k < sx.length := by
          have : ¬ ((k : Nat) : Int) = ((List.length sx : Nat) : Int) := by simpa using hq
          omega
        have hks2 : k < sy.length := by omega
        refine Ok.yes (by simp) (Ok.yes (by simp; omega) (Ok.bind_eq (r := sy[k]) (by simp [List.getElem?_eq_getElem hks2]) (Ok.mk ⟨_, rfl, fun hb => ?_, fun hb => ⟨hks, ?_⟩⟩)))
        · have : sy[k] = false := by simpa using hb
          simp only [stAt, List.getElem?_eq_getElem hks, List.getElem?_eq_getElem hks2, this]
          cases sx[k] <;> rfl
        · have : sy[k] = true := by simpa using hb
          simp only [stAt, List.getElem?_eq_getElem hks, List.getElem?_eq_getElem hks2, this]
          cases sx[k] <;> rfl
    rintro _ ⟨b, rfl, hb1, hb2⟩
    dsimp only
    have so4 : Sm ((k + 1) * 4000) ((stPart (stAt sx sy k)).foldl addp O) := by
      cases b with
      | true => rw [hb1 rfl]; exact so3.mono (by omega)
      | false =>
        obtain ⟨hks, hst⟩ := hb2 rfl
        rw [hst]
        split
        · exact addp_sm (p := (1, 0, [])) (C := (k + 1) * 4000) so3 ⟨one_I.1, z⟩ (by omega) (by simp; omega)
        · exact addp_sm (p := (0, 1, [])) (C := (k + 1) * 4000) so3 ⟨z, one_I.1⟩ (by omega) (by simp; omega)
    cases b with
    | true => exact Ok.yes rfl (Ok.mk ⟨O, rfl, so3.mono (by omega), by rw [hb1 rfl] at hf; exact hf⟩)
    | false =>
      obtain ⟨hks, hst⟩ := hb2 rfl
      refine Ok.no (by simp) (Ok.yes (by simp) (Ok.yes (by simp; omega) (Ok.bind_eq (r := sx[k]) (by simp [List.getElem?_eq_getElem hks]) ?_)))
      refine Ok.bind (Q := fun v => v = (f, (stPart (stAt sx sy k)).foldl addp O, px, ((List.length px : Nat) : Int), ((k : Nat) : Int), sx, sy, py)) ?_ (fun v hv => Ok.mk ⟨_, hv, so4, hf⟩)
      rw [hst]
      refine Ok.ite (fun h1 => Ok.bind_eq (s_l1Add_eq so3 (by omega) 1 0 [] (by simp)) (Ok.mk (by rw [if_pos h1]; rfl))) fun h1 => Ok.bind_eq (s_l1Add_eq so3 (by omega) 0 1 [] (by simp)) (Ok.mk (by rw [if_neg h1]; rfl))
  · have : k = px.length := by
      have : ¬ ((k : Int) < ((List.length px : Nat) : Int)) := by simpa using hc
      omega
    subst this
    refine Ok.mk ⟨?_, ho.mono (by omega)⟩
    rw [← hf]
    have : rest f sx px sy py px.length = [] := by
      unfold rest
      rw [List.drop_length, List.drop_eq_nil_of_le (show sx.length ≤ px.length by omega)]; rfl
    rw [this]; rfl
end Go.V.G

set_option linter.unusedVariables false
set_option linter.unusedSimpArgs false
set_option maxRecDepth 100000
namespace Go.V.G
open Go.V
theorem src_nS {c : List Prt} (h : ∀ p ∈ c, Some1 p) : src c = ((nS (atoms c) : Nat) : Int) := by rw [← stays_len h, nS_stays]
theorem tgt_nT {c : List Prt} (h : ∀ p ∈ c, Some1 p) : tgt c = ((nT (atoms c) : Nat) : Int) := by rw [tgt_atoms h, nT_eq]
theorem i_fits_eq {B : Nat} {c : List Prt} (h : Sm B c) (hB : B ≤ 1099511627776) (n : Int) : i_fits c n = some (good c && decide (src c = n)) := by
  unfold i_fits
  rw [i_LengthsOf_eq h hB, Option.bind_some]
  unfold lensOf
  cases hg : good c <;> simp
theorem rows_good {a b : List Prt} (ha : good a = true) (hb : good b = true) (h : src a = src b) : Rows (stays (atoms a)) (puts (atoms a)) (stays (atoms b)) (puts (atoms b)) := by
  have sa := okk_some (good_spec ha).1
  have sb := okk_some (good_spec hb).1
  have la := stays_len sa
  have lb := stays_len sb
  have := (good_spec ha).2.1
  refine ⟨by omega, puts_len _, puts_len _, by omega, fun p hp => ?_, fun p hp => ?_⟩
  · have := put_le _ p hp; rw [nIns_atoms] at this; have := (good_sm ha).put; omega
  · have := put_le _ p hp; rw [nIns_atoms] at this; have := (good_sm hb).put; omega
def carried (first : Bool) (a b : List Prt) : List Prt := norm (gaps first (stays (atoms a)) (puts (atoms a)) (stays (atoms b)) (puts (atoms b)))
theorem gap_fine (first : Bool) (p q : List UInt8) (st : Option (Bool × Bool)) : ∀ r ∈ gap first p q st, Fine r := by
  intro r hr
  unfold gap at hr
  rcases List.mem_append.1 hr with hr | hr
  · split at hr <;> (simp only [List.mem_cons, List.not_mem_nil, or_false] at hr; rcases hr with rfl | rfl <;> first | exact Fine.put _ | exact Fine.keep (by omega))
  · match st, hr with
    | some (true, true), hr => rw [List.mem_singleton.1 hr]; exact Fine.keep (by omega)
    | some (false, true), hr => rw [List.mem_singleton.1 hr]; exact Fine.drop (by omega)
theorem gaps_fine (first : Bool) : ∀ (Sx : List Bool) (Px : List (List UInt8)) (Sy : List Bool) (Py : List (List UInt8)), ∀ r ∈ gaps first Sx Px Sy Py, Fine r
  | [], [], _, _, r, hr => by cases hr
  | [], p :: _, _, [], r, hr => by cases hr
  | [], p :: _, _, q :: _, r, hr => gap_fine _ _ _ _ r hr
  | _ :: _, [], _, _, r, hr => by cases hr
  | _ :: _, _ :: _, [], _, r, hr => by cases hr
  | _ :: _, _ :: _, _ :: _, [], r, hr => by cases hr
  | sx :: Sx, p :: Px, sy :: Sy, q :: Py, r, hr => by
    rcases List.mem_append.1 hr with hr | hr
    · exact gap_fine _ _ _ _ r hr
    · exact gaps_fine first Sx Px Sy Py r hr
theorem nS_pa (p : Prt) : nS (pa p) = (p.1 + p.2.1).toNat := by rw [nS_stays, stays_pa, List.length_replicate]
theorem src_fine : ∀ {l : List Prt}, (∀ p ∈ l, Fine p) → src l = ((nS (atoms l) : Nat) : Int)
  | [], _ => rfl
  | p :: l, h => by
    have ih := src_fine (l := l) fun q hq => h q (by simp [hq])
    have e : ∀ a b : List Atom, nS (a ++ b) = nS a + nS b := fun a b => by rw [nS_stays, nS_stays, nS_stays, stays_append, List.length_append]
    show p.1 + p.2.1 + src l = ((nS (pa p ++ atoms l) : Nat) : Int)
    have := fine_nonneg (h p (by simp))
    rw [e, ih, nS_pa]
    omega
theorem nT_append (a b : List Atom) : nT (a ++ b) = nT a + nT b := by rw [nT_eq, nT_eq, nT_eq, nIns_append, nK_append]; omega
theorem tgt_fine : ∀ {l : List Prt}, (∀ p ∈ l, Fine p) → tgt l = ((nT (atoms l) : Nat) : Int)
  | [], _ => rfl
  | p :: l, h => by
    have ih := tgt_fine (l := l) fun q hq => h q (by simp [hq])
    show p.1 + ((p.2.2.length : Nat) : Int) + tgt l = ((nT (pa p ++ atoms l) : Nat) : Int)
    rw [nT_append, ih]
    rcases h p (by simp) with rfl | hk
    · simp [pa_zero, nT]
    · have := tgt_nT (c := [p]) (fun q hq => by rw [List.mem_singleton.1 hq]; exact some1_of hk)
      have e : atoms [p] = pa p := by simp [atoms]
      rw [e] at this
      simp only [tgt] at this
      omega
theorem carryT_nS : ∀ x y : List Atom, nS x = nS y → nS (carryT x y) = nT y := by
  intro x y
  induction x, y using carryT.induct with
  | case1 b x y ih => intro h; rw [carryT]; exact ih h
  | case2 c y ih => intro h; rw [carryT]; simp only [nS, nT]; rw [ih h]
  | case3 x c y ih => intro h; rw [carryT]; simp only [nT]; rw [← ih h]; simp [nS]
  | case4 x c y ih => intro h; rw [carryT]; simp only [nT]; rw [← ih h]; simp [nS]
  | case5 x y ih => intro h; rw [carryT]; simp only [nS, nT]; rw [ih (by simpa [nS] using h)]
  | case6 x y ih => intro h; rw [carryT]; simp only [nS, nT]; rw [ih (by simpa [nS] using h)]
  | case7 x y ih => intro h; rw [carryT]; simp only [nT]; rw [ih (by simpa [nS] using h)]
  | case8 x y ih => intro h; rw [carryT]; simp only [nT]; rw [ih (by simpa [nS] using h)]
  | case9 x y h1 h2 h3 h4 h5 h6 h7 h8 =>
    intro g
    match x, y with
    | .ins b :: x, y => exact absurd rfl (h1 b x)
    | [], .ins c :: y => exact absurd rfl (h2 c y rfl)
    | [], [] => simp [carryT, nS, nT]
    | [], .keep :: y => simp [nS] at g
    | [], .drop :: y => simp [nS] at g
    | .keep :: x, [] => simp [nS] at g
    | .drop :: x, [] => simp [nS] at g
    | .keep :: x, .ins c :: y => exact absurd rfl (h3 x c y rfl)
    | .drop :: x, .ins c :: y => exact absurd rfl (h4 x c y rfl)
    | .keep :: x, .keep :: y => exact absurd rfl (h5 x y rfl)
    | .drop :: x, .keep :: y => exact absurd rfl (h6 x y rfl)
    | .keep :: x, .drop :: y => exact absurd rfl (h7 x y rfl)
    | .drop :: x, .drop :: y => exact absurd rfl (h8 x y rfl)
theorem carryF_nS : ∀ x y : List Atom, nS x = nS y → nS (carryF x y) = nT y := by
  intro x y
  induction x, y using carryF.induct with
  | case1 x c y ih => intro h; rw [carryF]; simp only [nS, nT]; rw [ih h]
  | case2 b x ih => intro h; rw [carryF]; exact ih h
  | case3 b x y ih => intro h; rw [carryF]; exact ih h
  | case4 b x y ih => intro h; rw [carryF]; exact ih h
  | case5 x y ih => intro h; rw [carryF]; simp only [nS, nT]; rw [ih (by simpa [nS] using h)]
  | case6 x y ih => intro h; rw [carryF]; simp only [nS, nT]; rw [ih (by simpa [nS] using h)]
  | case7 x y ih => intro h; rw [carryF]; simp only [nT]; rw [ih (by simpa [nS] using h)]
  | case8 x y ih => intro h; rw [carryF]; simp only [nT]; rw [ih (by simpa [nS] using h)]
  | case9 x y h1 h2 h3 h4 h5 h6 h7 h8 =>
    intro g
    match x, y with
    | x, .ins c :: y => exact absurd rfl (h1 c y)
    | .ins b :: x, [] => exact absurd rfl (h2 b x rfl)
    | .ins b :: x, .keep :: y => exact absurd rfl (h3 b x y rfl)
    | .ins b :: x, .drop :: y => exact absurd rfl (h4 b x y rfl)
    | [], [] => simp [carryF, nS, nT]
    | [], .keep :: y => simp [nS] at g
    | [], .drop :: y => simp [nS] at g
    | .keep :: x, [] => simp [nS] at g
    | .drop :: x, [] => simp [nS] at g
    | .keep :: x, .keep :: y => exact absurd rfl (h5 x y rfl)
    | .drop :: x, .keep :: y => exact absurd rfl (h6 x y rfl)
    | .keep :: x, .drop :: y => exact absurd rfl (h7 x y rfl)
    | .drop :: x, .drop :: y => exact absurd rfl (h8 x y rfl)
theorem carryA_nS (first : Bool) (x y : List Atom) (h : nS x = nS y) : nS (carryA first x y) = nT y := by
  cases first
  · exact carryF_nS x y h
  · exact carryT_nS x y h
theorem carryT_nT : ∀ x y : List Atom, nT (carryT x y) ≤ nT x + nT y := by
  intro x y
  induction x, y using carryT.induct with
  | case1 b x y ih => rw [carryT]; simp only [nT]; omega
  | case2 c y ih => rw [carryT]; simp only [nT] at ih ⊢; omega
  | case3 x c y ih => rw [carryT]; simp only [nT] at ih ⊢; omega
  | case4 x c y ih => rw [carryT]; simp only [nT] at ih ⊢; omega
  | case5 x y ih => rw [carryT]; simp only [nT]; omega
  | case6 x y ih => rw [carryT]; simp only [nT]; omega
  | case7 x y ih => rw [carryT]; simp only [nT]; omega
  | case8 x y ih => rw [carryT]; simp only [nT]; omega
  | case9 x y h1 h2 h3 h4 h5 h6 h7 h8 => rw [carryT.eq_def]; split <;> first | exact Nat.zero_le _ | simp_all
theorem carryF_nT : ∀ x y : List Atom, nT (carryF x y) ≤ nT x + nT y := by
  intro x y
  induction x, y using carryF.induct with
  | case1 x c y ih => rw [carryF]; simp only [nT] at ih ⊢; omega
  | case2 b x ih => rw [carryF]; simp only [nT] at ih ⊢; omega
  | case3 b x y ih => rw [carryF]; simp only [nT] at ih ⊢; omega
  | case4 b x y ih => rw [carryF]; simp only [nT] at ih ⊢; omega
  | case5 x y ih => rw [carryF]; simp only [nT]; omega
  | case6 x y ih => rw [carryF]; simp only [nT]; omega
  | case7 x y ih => rw [carryF]; simp only [nT]; omega
  | case8 x y ih => rw [carryF]; simp only [nT]; omega
  | case9 x y h1 h2 h3 h4 h5 h6 h7 h8 => rw [carryF.eq_def]; split <;> first | exact Nat.zero_le _ | simp_all
theorem carryA_nT (first : Bool) (x y : List Atom) : nT (carryA first x y) ≤ nT x + nT y := by
  cases first
  · exact carryF_nT x y
  · exact carryT_nT x y
theorem carried_spec {a b : List Prt} (first : Bool) (ha : good a = true) (hb : good b = true) (h : src a = src b) :
    okk 0 (carried first a b) = true ∧ atoms (carried first a b) = carryA first (atoms a) (atoms b) := by
  have sa := okk_some (good_spec ha).1
  have sb := okk_some (good_spec hb).1
  have hn : nS (atoms a) = nS (atoms b) := by have := src_nS sa; have := src_nS sb; omega
  have hf := gaps_fine first (stays (atoms a)) (puts (atoms a)) (stays (atoms b)) (puts (atoms b))
  have he : atoms (gaps first (stays (atoms a)) (puts (atoms a)) (stays (atoms b)) (puts (atoms b))) = carryA first (atoms a) (atoms b) := by rw [gaps_atoms, gapsA_carry first _ _ hn]
  have h1 := carryA_nS first _ _ hn
  have h2 := carryA_nT first (atoms a) (atoms b)
  have t1 := tgt_nT sa
  have t2 := tgt_nT sb
  have := (good_spec ha).2.2
  have := (good_spec hb).2.2
  obtain ⟨k1, k2, _⟩ := norm_spec hf ⟨by rw [src_fine hf, he, h1]; omega, by rw [tgt_fine hf, he]; omega⟩
  exact ⟨k1, by rw [← he]; exact k2⟩
def carryOf (a b : List Prt) (first : Bool) : List Prt × Bool :=
  if good a = true ∧ good b = true ∧ src a = src b ∧ good (carried first a b) = true then (carried first a b, true) else ([], false)
theorem i_carry_eq {a b : List Prt} (first : Bool) (ha : good a = true) (hb : good b = true) (h : src a = src b) : i_carry a b first = some (carried first a b, good (carried first a b)) := by
  have sa := okk_some (good_spec ha).1
  have sb := okk_some (good_spec hb).1
  have := (good_spec ha).2.1
  have := (good_spec hb).2.1
  unfold i_carry
  rw [i_tell_eq (good_sm ha) (by omega) sa (by omega), i_tell_eq (good_sm hb) (by omega) sb (by omega), Option.bind_some, Option.bind_some]
  refine Ok.eq ((i_carry_loop (first := first) (rows_good ha hb h)).bind ?_)
  rintro _ ⟨rfl, sm⟩
  exact Ok.bind_eq (i_Good_eq sm (by omega)) (Ok.mk rfl)
theorem s_carry_eq {a b : List Prt} (first : Bool) (ha : good a = true) (hb : good b = true) (h : src a = src b) : Ok (s_l1Carry a b first) fun z => z = carried first a b ∧ Sm 4004004 z := by
  have sa := okk_some (good_spec ha).1
  have sb := okk_some (good_spec hb).1
  have := (good_spec ha).2.1
  have := (good_spec hb).2.1
  unfold s_l1Carry
  rw [s_Open_eq (good_sm ha) (by omega) sa (by omega), s_Open_eq (good_sm hb) (by omega) sb (by omega), Option.bind_some, Option.bind_some]
  exact (s_carry_loop (first := first) (rows_good ha hb h)).bind fun z hz => Ok.mk hz
theorem i_CarryChange_eq {A B : Nat} {a b : List Prt} (ha : Sm A a) (hA : A ≤ 1099511627776) (hb : Sm B b) (hB : B ≤ 1099511627776) (first : Bool) : i_CarryChange a b first = some (carryOf a b first) := by
  unfold i_CarryChange carryOf
  rw [i_LengthsOf_eq hb hB, Option.bind_some]
  unfold lensOf
  cases gb : good b with
  | false => simp
  | true =>
    simp only [if_true, Bool.not_true, Bool.false_eq_true, if_false, i_fits_eq ha hA, Option.bind_some]
    cases ga : good a with
    | false => simp
    | true =>
      by_cases hs : src a = src b
      · simp only [hs, decide_true, Bool.and_true, Bool.not_true, Bool.false_eq_true, if_false, i_carry_eq first ga gb hs, Option.bind_some, true_and]
        cases hg : good (carried first a b) <;> simp [hg]
      · simp [hs]
theorem s_CarryChange_eq {A B : Nat} {a b : List Prt} (ha : Sm A a) (hA : A ≤ 1099511627776) (hb : Sm B b) (hB : B ≤ 1099511627776) (first : Bool) : s_CarryChange a b first = some (carryOf a b first) := by
  unfold s_CarryChange carryOf
  rw [s_Good_eq ha hA, Option.bind_some]
  cases ga : good a with
  | false => simp
  | true =>
    simp only [if_true, Bool.not_true, Bool.false_eq_true, if_false, s_Good_eq hb hB, Option.bind_some]
    cases gb : good b with
    | false => simp
    | true =>
      have sa := okk_some (good_spec ga).1
      have sb := okk_some (good_spec gb).1
      have := (good_spec ga).2.1
      have := (good_spec gb).2.1
      simp only [Bool.not_true, Bool.false_eq_true, if_false, s_Source_eq ha hA sa (by omega), s_Source_eq hb hB sb (by omega), Option.bind_some]
      by_cases hs : src a = src b
      · have hnn : ¬ ¬ src a = src b := fun h => h hs
        simp only [hs, not_true, decide_false, Bool.false_eq_true, if_false, true_and]
        refine Ok.eq ((s_carry_eq first ga gb hs).bind ?_)
        rintro _ ⟨rfl, sm⟩
        refine Ok.bind_eq (s_Good_eq sm (by omega)) ?_
        cases hg : good (carried first a b) with
        | false => exact Ok.yes (by simp) (Ok.mk (by simp))
        | true => exact Ok.no (by simp) (Ok.mk (by simp))
      · simp [hs]
def apply (t : List UInt8) (c : List Prt) : List UInt8 := ap (atoms c) t
theorem ap_append : ∀ (x y : List Atom) (t : List UInt8), nS x ≤ t.length → ap (x ++ y) t = ap x (t.take (nS x)) ++ ap y (t.drop (nS x))
  | [], y, t, _ => by cases t <;> simp [ap, nS]
  | .ins b :: x, y, t, h => by simp only [List.cons_append, ap, nS]; rw [ap_append x y t h]
  | .keep :: x, y, c :: t, h => by
    simp only [List.cons_append, ap, nS, List.take_succ_cons, List.drop_succ_cons]; rw [ap_append x y t (by simpa [nS] using h)]
  | .drop :: x, y, c :: t, h => by
    simp only [List.cons_append, ap, nS, List.take_succ_cons, List.drop_succ_cons]; rw [ap_append x y t (by simpa [nS] using h)]
  | .keep :: x, y, [], h => by simp [nS] at h
  | .drop :: x, y, [], h => by simp [nS] at h
theorem ap_map (s : List UInt8) : ap (s.map Atom.ins) [] = s := by
  induction s with
  | nil => rfl
  | cons b s ih => simp [ap, ih]
theorem ap_keep : ∀ (n : Nat) (t : List UInt8), t.length = n → ap (List.replicate n .keep) t = t
  | 0, [], _ => rfl
  | n + 1, c :: t, h => by rw [List.replicate_succ]; simp only [ap]; rw [ap_keep n t (by simpa using h)]
theorem ap_drop : ∀ (n : Nat) (t : List UInt8), t.length = n → ap (List.replicate n .drop) t = []
  | 0, [], _ => rfl
  | n + 1, c :: t, h => by rw [List.replicate_succ]; simp only [ap]; rw [ap_drop n t (by simpa using h)]
theorem ap_pa {p : Prt} (h : kd p ≠ 0) (t : List UInt8) (ht : t.length = (p.1 + p.2.1).toNat) : ap (pa p) t = t.take p.1.toNat ++ p.2.2 := by
  rcases kd_cases h with ⟨a, ha, rfl, _⟩ | ⟨a, ha, rfl, _⟩ | ⟨s, hs, rfl, _⟩
  · simp only [Int.add_zero] at ht
    rw [pa_keep (by omega), ap_keep _ t ht, List.append_nil, List.take_of_length_le (by dsimp only; omega)]
  · simp only [Int.zero_add] at ht
    rw [pa_drop (by omega), ap_drop _ t ht]; simp
  · have : t = [] := List.eq_nil_of_length_eq_zero (by simpa using ht)
    subst this
    rw [pa_put, ap_map]; simp
theorem i_apply_eq {c : List Prt} (hg : good c = true) {t : List UInt8} (ht : ((t.length : Nat) : Int) = src c) : i_apply t c = some (apply t c) := by
  have hs := okk_some (good_spec hg).1
  have sm := good_sm hg
  have sle := (good_spec hg).2.1
  have hlen : c.length ≤ 1099511627776 := by have := sm.len; omega
  unfold i_apply
  have : loopG i_apply_L1 (t, ([] : List UInt8), 0, c, ((List.length c : Nat) : Int), 0) = some (apply t c) := by
    have := loop_run i_apply_L1 (fun k => (t, ap (atoms (c.take k)) (t.take (nS (atoms (c.take k)))), src (c.take k), c, ((List.length c : Nat) : Int), ((k : Nat) : Int))) c.length (apply t c) (by
      intro i hlt
      have p1 := hs _ (List.getElem_mem hlt)
      have k0 := p1.k; have d0 := p1.d
      have a1 := src_at hlt
      have n1 := src_nonneg (l := c.take i) fun p h => hs p (mem_take h)
      have n3 := src_nonneg (l := c.drop (i + 1)) fun p h => hs p (mem_drop h)
      have psm := part_small hg (List.getElem_mem hlt)
      have e0 := src_nS (c := c.take i) fun p h => hs p (mem_take h)
      have hi : ((i : Nat) : Int) < ((List.length c : Nat) : Int) := by omega
      have w1 : IntKind.wrap .i64 (src (c.take i) + c[i].1) = src (c.take i) + c[i].1 := w64 (by omega) (by omega)
      have w2 : IntKind.wrap .i64 (c[i].1 + c[i].2.1) = c[i].1 + c[i].2.1 := w64 (by omega) (by omega)
      have w3 : IntKind.wrap .i64 (src (c.take i) + (c[i].1 + c[i].2.1)) = src (c.take i) + (c[i].1 + c[i].2.1) := w64 (by omega) (by omega)
      have g1 : src (c.take i) ≤ src (c.take i) + c[i].1 := by omega
      have g2 : src (c.take i) + c[i].1 ≤ ((List.length t : Nat) : Int) := by omega
      have hnt : nS (atoms (c.take i)) + (c[i].1 + c[i].2.1).toNat ≤ t.length := by omega
      have al := ap_len (atoms (c.take i)) (t.take (nS (atoms (c.take i)))) (by rw [List.length_take]; omega)
      have tn := tgt_nT (c := c.take i) fun p h => hs p (mem_take h)
      have t3 := tgt_at hlt
      have t4 := tgt_nonneg (l := c.drop (i + 1)) fun p h => hs p (mem_drop h)
      have tle := (good_spec hg).2.2
      have hout : ap (atoms (c.take (i + 1))) (t.take (nS (atoms (c.take (i + 1))))) = ap (atoms (c.take i)) (t.take (nS (atoms (c.take i)))) ++ (((t.drop (Int.toNat (src (c.take i)))).take (Int.toNat (src (c.take i) + c[i].1) - Int.toNat (src (c.take i)))) ++ c[i].2.2) := by
        have e1 : nS (atoms (c.take (i + 1))) = nS (atoms (c.take i)) + (c[i].1 + c[i].2.1).toNat := by
          rw [atoms_take hlt, nS_stays, stays_append, List.length_append, ← nS_stays, stays_pa, List.length_replicate]
        rw [e1, atoms_take hlt, ap_append _ _ _ (by rw [List.length_take]; omega), List.take_take, Nat.min_eq_left (by omega)]
        congr 1
        rw [List.drop_take, show nS (atoms (c.take i)) + (c[i].1 + c[i].2.1).toNat - nS (atoms (c.take i)) = (c[i].1 + c[i].2.1).toNat by omega,
          ap_pa p1.ne _ (by rw [List.length_take, List.length_drop]; omega), List.take_take, Nat.min_eq_left (by omega)]
        rw [show Int.toNat (src (c.take i)) = nS (atoms (c.take i)) by omega, show Int.toNat (src (c.take i) + c[i].1) - nS (atoms (c.take i)) = c[i].1.toNat by omega]
      have r1 : List.length ((t.drop (Int.toNat (src (c.take i)))).take (Int.toNat (src (c.take i) + c[i].1) - Int.toNat (src (c.take i)))) + List.length c[i].2.2 ≤ 9223372036854775807 := by
        rw [List.length_take, List.length_drop]; omega
      have r2 : List.length (ap (atoms (c.take i)) (t.take (nS (atoms (c.take i))))) + List.length ((((t : List UInt8).drop (Int.toNat (src (c.take i)))).take (Int.toNat (src (c.take i) + c[i].1) - Int.toNat (src (c.take i))) : List UInt8) ++ c[i].2.2) ≤ 9223372036854775807 := by
        rw [List.length_append, List.length_take, List.length_drop, al]; omega
      unfold i_apply_L1
      simp only [hi, show (0 : Int) ≤ ((i : Nat) : Int) from by omega, decide_true, if_true, Int.toNat_natCast, List.getElem?_eq_getElem hlt, Option.bind_some, w1, w2, w3, n1, g1, g2, Int.le_refl, r1, r2, idx_succ hlen hlt, hout, src_take hlt]) (by
      have e : nS (atoms c) = t.length := by have := src_nS hs; omega
      simp only [List.take_length]
      rw [e, List.take_length]
      simp [i_apply_L1, apply])
    simpa [atoms, ap, src, nS] using this
  rw [this]; rfl
end Go.V.G

set_option linter.unusedVariables false
set_option linter.unusedSimpArgs false
set_option maxRecDepth 100000
namespace Go.V.G
open Go.V
def closeP : List Bool → List (List UInt8) → List Prt
  | [], p :: _ => [(0, 0, p)]
  | s :: S, p :: P => (0, 0, p) :: (if s = true then (1, 0, []) else (0, 1, [])) :: closeP S P
  | _, [] => []
theorem closeP_fine : ∀ (S : List Bool) (P : List (List UInt8)), ∀ r ∈ closeP S P, Fine r
  | [], [], r, h => by cases h
  | [], p :: _, r, h => by rw [List.mem_singleton.1 h]; exact Fine.put _
  | _ :: _, [], r, h => by cases h
  | s :: S, p :: P, r, h => by
    rcases List.mem_cons.1 h with rfl | h
    · exact Fine.put _
    rcases List.mem_cons.1 h with rfl | h
    · cases s
      · exact Fine.drop (by omega)
      · exact Fine.keep (by omega)
    · exact closeP_fine S P r h
theorem closeP_head (b : UInt8) {S : List Bool} {p : List UInt8} {P : List (List UInt8)} : atoms (closeP S ((b :: p) :: P)) = .ins b :: atoms (closeP S (p :: P)) := by
  cases S with
  | nil => simp [closeP, atoms, pa_put]
  | cons s S => simp [closeP, atoms, pa_put]
theorem closeP_atoms : ∀ l : List Atom, atoms (closeP (stays l) (puts l)) = l
  | [] => by simp [closeP, stays, puts, atoms, pa_zero]
  | .ins b :: l => by
    obtain ⟨p, ps, e, _⟩ := puts_cons l
    have ih := closeP_atoms l
    show atoms (closeP (stays l) (consHead b (puts l))) = _
    rw [e] at ih ⊢
    show atoms (closeP (stays l) ((b :: p) :: ps)) = _
    rw [closeP_head, ih]
  | .keep :: l => by
    have ih := closeP_atoms l
    show pa (0, 0, []) ++ (pa (1, 0, []) ++ atoms (closeP (stays l) (puts l))) = _
    rw [ih, pa_zero, pa_keep (by omega)]; rfl
  | .drop :: l => by
    have ih := closeP_atoms l
    show pa (0, 0, []) ++ (pa (0, 1, []) ++ atoms (closeP (stays l) (puts l))) = _
    rw [ih, pa_zero, pa_drop (by omega)]; rfl
def inn : List Bool → List (List UInt8) → List UInt8 → List UInt8
  | sc :: Sc, _ :: q :: Pc, b :: s => (if sc = true then [b] else []) ++ q ++ inn Sc (q :: Pc) s
  | _, _, _ => []
def cmpG : List UInt8 → List Bool → List (List UInt8) → List Bool → List (List UInt8) → List Bool × List (List UInt8)
  | be, sb :: Sb, p :: Pb, Sc, Pc =>
    if sb = true then
      let r := cmpG ((Pc.drop p.length).getD 1 []) Sb Pb ((Sc.drop p.length).drop 1) ((Pc.drop p.length).drop 1)
      ((Sc.drop p.length).getD 0 false :: r.1, (be ++ inn Sc Pc p) :: r.2)
    else
      let r := cmpG [] Sb Pb (Sc.drop p.length) (Pc.drop p.length)
      (false :: r.1, (be ++ inn Sc Pc p) :: r.2)
  | be, _, p :: _, Sc, Pc => ([], [be ++ inn Sc Pc p])
  | _, _, [], _, _ => ([], [])
def strip : List Atom → List Atom
  | .ins _ :: l => strip l
  | l => l
theorem strip_stays : ∀ l, stays (strip l) = stays l
  | [] => rfl
  | .ins _ :: l => strip_stays l
  | .keep :: _ => rfl
  | .drop :: _ => rfl
theorem strip_nS (l : List Atom) : nS (strip l) = nS l := by rw [nS_stays, nS_stays, strip_stays]
theorem strip_puts : ∀ l, puts (strip l) = [] :: (puts l).tail
  | [] => rfl
  | .ins b :: l => by
    obtain ⟨p, ps, e, _⟩ := puts_cons l
    show puts (strip l) = [] :: (consHead b (puts l)).tail
    rw [strip_puts l, e]; rfl
  | .keep :: _ => rfl
  | .drop :: _ => rfl
theorem comp_strip (x : List Atom) : ∀ y, comp x y = ((puts y).headD []).map Atom.ins ++ comp x (strip y)
  | [] => rfl
  | .ins b :: y => by
    obtain ⟨p, ps, e, _⟩ := puts_cons y
    have ih := comp_strip x y
    rw [comp]
    show .ins b :: comp x y = ((consHead b (puts y)).headD []).map Atom.ins ++ comp x (strip y)
    rw [ih, e]; rfl
  | .keep :: _ => rfl
  | .drop :: _ => rfl
theorem puts_head_ins (q : List UInt8) (l : List Atom) : puts (q.map Atom.ins ++ l) = (q ++ (puts l).headD []) :: (puts l).tail := by
  obtain ⟨p, ps, e, _⟩ := puts_cons l
  induction q with
  | nil => rw [List.map_nil, List.nil_append, e]; rfl
  | cons b q ih =>
    show consHead b (puts (q.map Atom.ins ++ l)) = _
    rw [ih]; rfl
theorem stays_head_ins (q : List UInt8) (l : List Atom) : stays (q.map Atom.ins ++ l) = stays l := by rw [stays_append, stays_ins]; rfl
theorem inn_nil : ∀ (Sc : List Bool) (Pc : List (List UInt8)), inn Sc Pc [] = []
  | [], _ => by simp [inn]
  | _ :: _, [] => by simp [inn]
  | _ :: _, [_] => by simp [inn]
  | _ :: _, _ :: _ :: _ => by simp [inn]
theorem inn_cons {sc : Bool} {Sc : List Bool} {r q : List UInt8} {Pc : List (List UInt8)} {b : UInt8} {s : List UInt8} : inn (sc :: Sc) (r :: q :: Pc) (b :: s) = (if sc = true then [b] else []) ++ q ++ inn Sc (q :: Pc) s := by rw [inn]
theorem cmpG_ins (be : List UInt8) (b : UInt8) {Sb : List Bool} {p : List UInt8} {Pb : List (List UInt8)} {sc : Bool} {Sc : List Bool} {r q : List UInt8} {Pc : List (List UInt8)} :
    cmpG be Sb ((b :: p) :: Pb) (sc :: Sc) (r :: q :: Pc) = cmpG (be ++ (if sc = true then [b] else []) ++ q) Sb (p :: Pb) Sc (q :: Pc) := by
  cases Sb with
  | nil =>
    simp only [cmpG, inn_cons, List.append_assoc]
  | cons sb Sb =>
    simp only [cmpG, inn_cons, List.append_assoc, List.length_cons, List.drop_succ_cons]
def front (be : List UInt8) (l : List Atom) : List Bool × List (List UInt8) := (stays l, (be ++ (puts l).headD []) :: (puts l).tail)
theorem front_ins (be q : List UInt8) (l : List Atom) : front be (q.map Atom.ins ++ l) = front (be ++ q) l := by
  unfold front
  rw [stays_head_ins, puts_head_ins]
  simp
theorem cmpG_eq : ∀ (x : List Atom) (be : List UInt8) (y : List Atom), nT x = nS y → cmpG be (stays x) (puts x) (stays y) (puts y) = front be (comp x (strip y))
  | [], be, y, h => by
    have : strip y = [] := by
      have hn : nS (strip y) = 0 := by rw [strip_nS]; exact h.symm
      match hs : strip y with
      | [] => rfl
      | .ins b :: l =>
        exfalso
        have := strip_puts y
        rw [hs] at this
        obtain ⟨p, ps, e, _⟩ := puts_cons l
        simp only [puts, e, consHead] at this
        injection this with h1 _
        cases h1
      | .keep :: l => rw [hs] at hn; simp [nS] at hn
      | .drop :: l => rw [hs] at hn; simp [nS] at hn
    rw [this]
    simp [comp, front, stays, puts, cmpG, inn]
  | .ins b :: x, be, y, h => by
    obtain ⟨p, ps, e, _⟩ := puts_cons x
    have hs := strip_stays y
    have hp := strip_puts y
    have hn : nS (strip y) = nT x + 1 := by rw [strip_nS]; exact h.symm
    have hpl : puts y = (puts y).headD [] :: (puts y).tail := by obtain ⟨a, as, e2, _⟩ := puts_cons y; rw [e2]; rfl
    match hy : strip y, hn with
    | .ins c :: l, _ =>
      exfalso
      rw [hy] at hp
      obtain ⟨p', ps', e', _⟩ := puts_cons l
      simp only [puts, e', consHead] at hp
      injection hp with h1 _
      cases h1
    | [], hn => simp [nS] at hn
    | .keep :: l, hn =>
      rw [hy] at hs hp
      simp only [stays, puts] at hs hp
      injection hp with _ hp
      obtain ⟨q, qs, e3, _⟩ := puts_cons l
      have ih := cmpG_eq x (be ++ [b] ++ q) l (by simpa [nS] using hn.symm)
      rw [comp]
      show cmpG be (stays x) (consHead b (puts x)) (stays y) (puts y) = _
      rw [← hs, hpl, ← hp, e, e3]
      show cmpG be (stays x) ((b :: p) :: ps) (true :: stays l) (_ :: q :: qs) = _
      rw [cmpG_ins, if_pos rfl, ← e3, ← e, ih]
      show _ = front be (.ins b :: comp x l)
      rw [comp_strip x l, e3]
      rw [show (Atom.ins b :: (List.map Atom.ins ((q :: qs).headD []) ++ comp x (strip l))) = (b :: q).map Atom.ins ++ comp x (strip l) from rfl, front_ins]
      simp
    | .drop :: l, hn =>
      rw [hy] at hs hp
      simp only [stays, puts] at hs hp
      injection hp with _ hp
      obtain ⟨q, qs, e3, _⟩ := puts_cons l
      have ih := cmpG_eq x (be ++ [] ++ q) l (by simpa [nS] using hn.symm)
      rw [comp]
      show cmpG be (stays x) (consHead b (puts x)) (stays y) (puts y) = _
      rw [← hs, hpl, ← hp, e, e3]
      show cmpG be (stays x) ((b :: p) :: ps) (false :: stays l) (_ :: q :: qs) = _
      rw [cmpG_ins, if_neg (by simp), ← e3, ← e, ih]
      rw [comp_strip x l, e3, show ((q :: qs).headD []) = q from rfl, front_ins]
      simp
  | .keep :: x, be, y, h => by
    have hs := strip_stays y
    have hp := strip_puts y
    have hn : nS (strip y) = nT x + 1 := by rw [strip_nS]; exact h.symm
    have hpl : puts y = (puts y).headD [] :: (puts y).tail := by obtain ⟨a, as, e2, _⟩ := puts_cons y; rw [e2]; rfl
    match hy : strip y, hn with
    | .ins c :: l, _ =>
      exfalso
      rw [hy] at hp
      obtain ⟨p', ps', e', _⟩ := puts_cons l
      simp only [puts, e', consHead] at hp
      injection hp with h1 _
      cases h1
    | [], hn => simp [nS] at hn
    | .keep :: l, hn =>
      rw [hy] at hs hp
      simp only [stays, puts] at hs hp
      injection hp with _ hp
      obtain ⟨q, qs, e3, _⟩ := puts_cons l
      have ih := cmpG_eq x q l (by simpa [nS] using hn.symm)
      rw [comp]
      show cmpG be (true :: stays x) ([] :: puts x) (stays y) (puts y) = _
      rw [← hs, hpl, ← hp, e3]
      simp only [cmpG, if_true, List.length_nil, List.drop_zero, List.getD_cons_zero, List.getD_cons_succ, List.drop_succ_cons, inn, List.append_nil]
      rw [← e3, ih]
      unfold front
      simp only [stays, puts, List.headD_cons, List.tail_cons, List.append_nil]
      rw [comp_strip x l, e3, stays_head_ins, puts_head_ins]
      simp
    | .drop :: l, hn =>
      rw [hy] at hs hp
      simp only [stays, puts] at hs hp
      injection hp with _ hp
      obtain ⟨q, qs, e3, _⟩ := puts_cons l
      have ih := cmpG_eq x q l (by simpa [nS] using hn.symm)
      rw [comp]
      show cmpG be (true :: stays x) ([] :: puts x) (stays y) (puts y) = _
      rw [← hs, hpl, ← hp, e3]
      simp only [cmpG, if_true, List.length_nil, List.drop_zero, List.getD_cons_zero, List.getD_cons_succ, List.drop_succ_cons, inn, List.append_nil]
      rw [← e3, ih]
      unfold front
      simp only [stays, puts, List.headD_cons, List.tail_cons, List.append_nil]
      rw [comp_strip x l, e3, stays_head_ins, puts_head_ins]
      simp
  | .drop :: x, be, y, h => by
    have ih := cmpG_eq x [] y h
    have hc : comp (.drop :: x) (strip y) = .drop :: comp x (strip y) := by
      match hy : strip y with
      | .ins c :: l =>
        exfalso
        have hp := strip_puts y
        rw [hy] at hp
        obtain ⟨p', ps', e', _⟩ := puts_cons l
        simp only [puts, e', consHead] at hp
        injection hp with h1 _
        cases h1
      | [] => rw [comp]
      | .keep :: l => rw [comp]
      | .drop :: l => rw [comp]
    rw [hc]
    show cmpG be (false :: stays x) ([] :: puts x) (stays y) (puts y) = _
    simp only [cmpG, Bool.false_eq_true, if_false, List.length_nil, List.drop_zero, inn_nil, List.append_nil]
    rw [ih]
    unfold front
    simp only [stays, puts, List.headD_cons, List.tail_cons, List.append_nil, List.nil_append]
    obtain ⟨a, as, e2, _⟩ := puts_cons (comp x (strip y))
    rw [e2]; rfl
theorem cmpG_comp (x y : List Atom) (h : nT x = nS y) : cmpG ((puts y).headD []) (stays x) (puts x) (stays y) (puts y) = (stays (comp x y), puts (comp x y)) := by
  rw [cmpG_eq x _ y h, comp_strip x y, stays_head_ins, puts_head_ins]; rfl
end Go.V.G

set_option linter.unusedVariables false
set_option linter.unusedSimpArgs false
set_option maxRecDepth 100000
namespace Go.V.G
open Go.V
def tot (P : List (List UInt8)) : Nat := (P.map List.length).sum
theorem tot_cons (p : List UInt8) (P : List (List UInt8)) : tot (p :: P) = p.length + tot P := by simp [tot]
theorem tot_drop (P : List (List UInt8)) : ∀ n, tot (P.drop n) ≤ tot P := by
  induction P with
  | nil => intro n; simp [tot]
  | cons p P ih =>
    intro n
    cases n with
    | zero => simp
    | succ n => rw [List.drop_succ_cons, tot_cons]; have := ih n; omega
theorem tot_mem : ∀ {P : List (List UInt8)} {p : List UInt8}, p ∈ P → p.length ≤ tot P
  | q :: P, p, h => by
    rw [tot_cons]
    rcases List.mem_cons.1 h with rfl | h
    · omega
    · have := tot_mem h; omega
def nTrue : List Bool → Nat
  | [] => 0
  | b :: l => (if b = true then 1 else 0) + nTrue l
def rem (S : List Bool) (P : List (List UInt8)) : Nat := tot P + nTrue S
theorem tot_puts : ∀ l : List Atom, tot (puts l) = nIns l
  | [] => rfl
  | .ins b :: l => by
    obtain ⟨p, ps, e, _⟩ := puts_cons l
    have ih := tot_puts l
    show tot (consHead b (puts l)) = nIns l + 1
    rw [e] at ih ⊢
    simp only [consHead, tot_cons, List.length_cons] at ih ⊢; omega
  | .keep :: l => by show tot ([] :: puts l) = nIns l; rw [tot_cons, tot_puts l]; simp
  | .drop :: l => by show tot ([] :: puts l) = nIns l; rw [tot_cons, tot_puts l]; simp
theorem nTrue_stays : ∀ l : List Atom, nTrue (stays l) = nK l
  | [] => rfl
  | .ins _ :: l => nTrue_stays l
  | .keep :: l => by show 1 + nTrue (stays l) = nK l + 1; rw [nTrue_stays l]; omega
  | .drop :: l => by show 0 + nTrue (stays l) = nK l; rw [nTrue_stays l]; omega
theorem rem_nT (l : List Atom) : rem (stays l) (puts l) = nT l := by rw [rem, tot_puts, nTrue_stays, nT_eq]
theorem inn_len : ∀ (Sc : List Bool) (Pc : List (List UInt8)) (s : List UInt8), (inn Sc Pc s).length ≤ s.length + tot Pc.tail
  | [], _, s => by simp [inn]
  | _ :: _, [], s => by simp [inn]
  | _ :: _, [_], s => by simp [inn]
  | _ :: _, _ :: _ :: _, [] => by rw [inn_nil]; simp
  | sc :: Sc, r :: q :: Pc, b :: s => by
    have ih := inn_len Sc (q :: Pc) s
    rw [inn_cons]
    simp only [List.length_append, List.length_cons, List.tail_cons, tot_cons] at ih ⊢
    split <;> simp <;> omega
theorem inn_snoc : ∀ (s : List UInt8) (Sc : List Bool) (Pc : List (List UInt8)) (b : UInt8) (h1 : s.length < Sc.length) (h2 : Pc.length = Sc.length + 1),
    inn Sc Pc (s ++ [b]) = inn Sc Pc s ++ ((if Sc[s.length] = true then [b] else []) ++ Pc[s.length + 1]'(by omega))
  | [], sc :: Sc, r :: q :: Pc, b, h1, h2 => by simp [inn_cons, inn_nil]
  | [], sc :: Sc, [], b, h1, h2 => by simp at h2
  | [], sc :: Sc, [_], b, h1, h2 => by simp at h2
  | [], [], _, b, h1, h2 => by simp at h1
  | a :: s, [], _, b, h1, h2 => by simp at h1
  | a :: s, sc :: Sc, [], b, h1, h2 => by simp at h2
  | a :: s, sc :: Sc, [_], b, h1, h2 => by simp at h2
  | a :: s, sc :: Sc, r :: q :: Pc, b, h1, h2 => by
    have ih := inn_snoc s Sc (q :: Pc) b (by simpa using h1) (by simpa using h2)
    rw [List.cons_append, inn_cons, inn_cons, ih]
    simp [List.append_assoc]
structure CR (Sb : List Bool) (Pb : List (List UInt8)) (Sc : List Bool) (Pc : List (List UInt8)) : Prop where
  x : Pb.length = Sb.length + 1
  y : Pc.length = Sc.length + 1
  r : rem Sb Pb = Sc.length
  n : Sb.length ≤ 1000
  m : Sc.length ≤ 1000
  py : tot Pc ≤ 1000
theorem rem_drop {S : List Bool} {P : List (List UInt8)} (h : P.length = S.length + 1) {g : Nat} (hg : g < P.length) : rem (S.drop g) (P.drop g) = P[g].length + (if h : g < S.length then (if S[g] = true then 1 else 0) else 0) + rem (S.drop (g + 1)) (P.drop (g + 1)) := by
  rw [List.drop_eq_getElem_cons hg]
  by_cases hs : g < S.length
  · rw [List.drop_eq_getElem_cons hs, dif_pos hs]
    simp only [rem, tot_cons, nTrue]; omega
  · rw [dif_neg hs, List.drop_eq_nil_of_le (show S.length ≤ g by omega), List.drop_eq_nil_of_le (show S.length ≤ g + 1 by omega)]
    simp only [rem, tot_cons, nTrue]; omega
section
variable {Sb : List Bool} {Pb : List (List UInt8)} {Sc : List Bool} {Pc : List (List UInt8)} (h : CR Sb Pb Sc Pc)
include h
theorem i_compose_inner {t : Nat} {g n g2 : Int} {s text : List UInt8} {oS : List Bool} {oP : List (List UInt8)} (hs : t + s.length ≤ Sc.length) (ht : text.length ≤ 1000) :
    loopG i_compose_L1 (((t : Nat) : Int), g, s, text, Pb, n, g2, ((List.length s : Nat) : Int), 0, Sb, Sc, Pc, oS, oP) =
      some (((t + s.length : Nat) : Int), g, text ++ inn (Sc.drop t) (Pc.drop t) s, Pb, n, g2, Sb, Sc, Pc, oS, oP) := by
  obtain ⟨hx, hy, hr, hn, hm, hpy⟩ := h
  have := loop_run i_compose_L1 (fun i => (((t + i : Nat) : Int), g, s, text ++ inn (Sc.drop t) (Pc.drop t) (s.take i), Pb, n, g2, ((List.length s : Nat) : Int), ((i : Nat) : Int), Sb, Sc, Pc, oS, oP)) s.length
    (((t + s.length : Nat) : Int), g, text ++ inn (Sc.drop t) (Pc.drop t) s, Pb, n, g2, Sb, Sc, Pc, oS, oP) (by
      intro i hi
      have hti : t + i < Sc.length := by omega
      have htp : t + i + 1 < Pc.length := by omega
      have hl : (s.take i).length = i := by rw [List.length_take]; omega
      have sn := inn_snoc (s.take i) (Sc.drop t) (Pc.drop t) s[i] (by rw [hl, List.length_drop]; omega) (by rw [List.length_drop, List.length_drop]; omega)
      rw [← List.take_succ_eq_append_getElem hi] at sn
      simp only [hl, List.getElem_drop] at sn
      have il := inn_len (Sc.drop t) (Pc.drop t) (s.take i)
      have tl : tot (Pc.drop t).tail ≤ tot Pc := by rw [List.tail_drop]; exact tot_drop _ _
      have pq : (Pc[t + i + 1]).length ≤ tot Pc := tot_mem (List.getElem_mem htp)
      have e1 : IntKind.wrap .i64 (((i : Nat) : Int) + 1) = ((i + 1 : Nat) : Int) := idx_succ (n := s.length) (by omega) hi
      have e2 : IntKind.wrap .i64 (((t + i : Nat) : Int) + 1) = ((t + i + 1 : Nat) : Int) := idx_succ (n := Sc.length) (by omega) hti
      have g0 : (0 : Int) ≤ ((t + i : Nat) : Int) := by omega
      have g1 : ((t + i : Nat) : Int) < ((List.length Sc : Nat) : Int) := by omega
      have g2' : (0 : Int) ≤ ((i : Nat) : Int) := by omega
      have g3 : ((i : Nat) : Int) ≤ ((i + 1 : Nat) : Int) := by omega
      have g4 : ((i + 1 : Nat) : Int) ≤ ((List.length s : Nat) : Int) := by omega
      have g5 : ((i : Nat) : Int) < ((List.length s : Nat) : Int) := by omega
      have g6 : ((t + i + 1 : Nat) : Int) < ((List.length Pc : Nat) : Int) := by omega
      have g7 : (0 : Int) ≤ ((t + i + 1 : Nat) : Int) := by omega
      have cut : (s.drop i).take (i + 1 - i) = [s[i]] := by rw [show i + 1 - i = 1 by omega, List.drop_eq_getElem_cons hi]; rfl
      have b1 : List.length (text ++ inn (Sc.drop t) (Pc.drop t) (s.take i)) + List.length [s[i]] ≤ 9223372036854775807 := by rw [List.length_append]; simp only [List.length_singleton]; omega
      have b2 : ∀ z : List UInt8, z.length ≤ 1 → List.length (text ++ inn (Sc.drop t) (Pc.drop t) (s.take i) ++ z) + List.length (Pc[t + i + 1]) ≤ 9223372036854775807 := fun z hz => by rw [List.length_append, List.length_append]; omega
      unfold i_compose_L1
      simp only [g0, g1, g2', g3, g4, g5, e1, e2, decide_true, if_true, Int.toNat_natCast, Nat.zero_add, List.getElem?_eq_getElem hti, Option.bind_some, Int.le_refl, cut, b1]
      cases hb : Sc[t + i] with
      | true =>
        rw [hb, if_pos rfl] at sn
        have b3 := b2 [s[i]] (by simp)
        simp only [if_true, Option.bind_some, e1, e2, g6, g7, decide_true, Int.toNat_natCast, List.getElem?_eq_getElem htp, b3]
        simp only [sn, List.append_assoc, Nat.add_assoc]
      | false =>
        rw [hb, if_neg (by simp)] at sn
        have b3 := b2 [] (by simp)
        rw [List.append_nil] at b3
        simp only [Bool.false_eq_true, if_false, Option.bind_some, e1, e2, g6, g7, decide_true, if_true, Int.toNat_natCast, List.getElem?_eq_getElem htp, b3]
        simp only [sn, List.append_assoc, Nat.add_assoc, List.nil_append]) (by
      simp only [List.take_length]
      simp [i_compose_L1])
  simpa [inn_nil] using this
theorem cmpG_at {g t : Nat} (hg : g < Pb.length) (be : List UInt8) (ht : t + rem (Sb.drop g) (Pb.drop g) = Sc.length) :
    t + Pb[g].length ≤ Sc.length ∧ (g = Sb.length → cmpG be (Sb.drop g) (Pb.drop g) (Sc.drop t) (Pc.drop t) = ([], [be ++ inn (Sc.drop t) (Pc.drop t) Pb[g]])) ∧
    ∀ h1 : g < Sb.length, (Sb[g] = false → t + Pb[g].length + rem (Sb.drop (g + 1)) (Pb.drop (g + 1)) = Sc.length ∧ cmpG be (Sb.drop g) (Pb.drop g) (Sc.drop t) (Pc.drop t) =
        (false :: (cmpG [] (Sb.drop (g + 1)) (Pb.drop (g + 1)) (Sc.drop (t + Pb[g].length)) (Pc.drop (t + Pb[g].length))).1, (be ++ inn (Sc.drop t) (Pc.drop t) Pb[g]) :: (cmpG [] (Sb.drop (g + 1)) (Pb.drop (g + 1)) (Sc.drop (t + Pb[g].length)) (Pc.drop (t + Pb[g].length))).2)) ∧
      (Sb[g] = true → t + Pb[g].length + 1 + rem (Sb.drop (g + 1)) (Pb.drop (g + 1)) = Sc.length ∧ ∃ (h2 : t + Pb[g].length < Sc.length) (h3 : t + Pb[g].length + 1 < Pc.length), cmpG be (Sb.drop g) (Pb.drop g) (Sc.drop t) (Pc.drop t) =
        (Sc[t + Pb[g].length] :: (cmpG Pc[t + Pb[g].length + 1] (Sb.drop (g + 1)) (Pb.drop (g + 1)) (Sc.drop (t + Pb[g].length + 1)) (Pc.drop (t + Pb[g].length + 1))).1,
          (be ++ inn (Sc.drop t) (Pc.drop t) Pb[g]) :: (cmpG Pc[t + Pb[g].length + 1] (Sb.drop (g + 1)) (Pb.drop (g + 1)) (Sc.drop (t + Pb[g].length + 1)) (Pc.drop (t + Pb[g].length + 1))).2)) := by
  obtain ⟨hx, hy, hr, hn, hm, hpy⟩ := h
  have rd := rem_drop hx hg
  rw [rd] at ht
  refine ⟨by omega, fun he => ?_, fun h1 => ⟨fun hb => ⟨?_, ?_⟩, fun hb => ⟨?_, ?_⟩⟩⟩
  · subst he
    rw [List.drop_length, List.drop_eq_getElem_cons hg]
    simp [cmpG]
  · simp only [h1, hb, Bool.false_eq_true, if_false, dif_pos] at ht; omega
  · rw [List.drop_eq_getElem_cons hg, List.drop_eq_getElem_cons h1, hb]
    simp only [cmpG, Bool.false_eq_true, if_false, List.drop_drop]
  · simp only [h1, hb, if_true, dif_pos] at ht; omega
  · simp only [h1, hb, if_true, dif_pos] at ht
    have h2 : t + Pb[g].length < Sc.length := by omega
    have h3 : t + Pb[g].length + 1 < Pc.length := by omega
    refine ⟨h2, h3, ?_⟩
    rw [List.drop_eq_getElem_cons hg, List.drop_eq_getElem_cons h1, hb]
    simp only [cmpG, if_true, List.drop_drop]
    have e1 : (Sc.drop (t + Pb[g].length)).getD 0 false = Sc[t + Pb[g].length] := by rw [List.drop_eq_getElem_cons h2]; rfl
    have e2 : (Pc.drop (t + Pb[g].length)).getD 1 [] = Pc[t + Pb[g].length + 1] := by
      rw [List.drop_eq_getElem_cons (by omega), List.drop_eq_getElem_cons h3]; rfl
    rw [e1, e2]
theorem i_compose_loop (be : List UInt8) (hbe : be.length ≤ 1000) : loopG i_compose_L2 (0, be, Pb, ((List.length Pb : Nat) : Int), 0, Sb, Sc, Pc, [], []) = some (cmpG be Sb Pb Sc Pc) := by
  refine Ok.eq (Ok.loop (fun y => y.2.2.1 = Pb ∧ y.2.2.2.1 = ((List.length Pb : Nat) : Int) ∧ y.2.2.2.2.2.1 = Sb ∧ y.2.2.2.2.2.2.1 = Sc ∧ y.2.2.2.2.2.2.2.1 = Pc ∧ ∃ t g : Nat, y.1 = ((t : Nat) : Int) ∧ y.2.2.2.2.1 = ((g : Nat) : Int) ∧ g < Pb.length ∧
      y.2.1.length ≤ 1000 ∧ t + rem (Sb.drop g) (Pb.drop g) = Sc.length ∧ y.2.2.2.2.2.2.2.2.1.length = g ∧ y.2.2.2.2.2.2.2.2.2.length = g ∧
      (y.2.2.2.2.2.2.2.2.1 ++ (cmpG y.2.1 (Sb.drop g) (Pb.drop g) (Sc.drop t) (Pc.drop t)).1, y.2.2.2.2.2.2.2.2.2 ++ (cmpG y.2.1 (Sb.drop g) (Pb.drop g) (Sc.drop t) (Pc.drop t)).2) = cmpG be Sb Pb Sc Pc) (fun y => (((List.length Pb : Nat) : Int) - y.2.2.2.2.1).toNat)
    ⟨rfl, rfl, rfl, rfl, rfl, 0, 0, rfl, rfl, by rw [h.x]; omega, hbe, by have := h.r; simpa using this, rfl, rfl, by simp⟩ ?_)
  rintro ⟨t', be', pb, n, g', sb, sc, pc, oS, oP⟩ ⟨e1, e2, e3, e4, e5, t, g, e6, e7, hg, hbe', hrem, hoS, hoP, hf⟩
  dsimp only at e1 e2 e3 e4 e5 e6 e7 hbe' hoS hoP hf
  subst e1 e2 e3 e4 e5 e6 e7
  have hCR := h
  obtain ⟨hx, hy, hr, hn, hm, hpy⟩ := h
  obtain ⟨c1, c2, c3⟩ := cmpG_at hCR hg be' hrem
  unfold i_compose_L2
  dsimp only
  refine Ok.yes (by simpa using hg) ?_
  have r16 : ∀ z : List UInt8, roomFor (List.length oP + List.length [z]) 16 = true := fun z => room1 (by omega) (by omega)
  have r1 : ∀ z : Bool, roomFor (List.length oS + List.length [z]) 1 = true := fun z => room1 (by omega) (by omega)
  have hin := i_compose_inner hCR (g := ((g : Nat) : Int)) (n := ((List.length pb : Nat) : Int)) (g2 := ((g : Nat) : Int)) (text := be') (oS := oS) (oP := oP) c1 hbe'
  refine Ok.bind (Q := fun v => match v with
      | .inl y => ∃ t2 be2 oS2 oP2, y = (((t2 : Nat) : Int), be2, pb, ((List.length pb : Nat) : Int), ((g : Nat) : Int), sb, sc, pc, oS2, oP2) ∧ g + 1 < pb.length ∧ List.length be2 ≤ 1000 ∧ t2 + rem (sb.drop (g + 1)) (pb.drop (g + 1)) = sc.length ∧ List.length oS2 = g + 1 ∧ List.length oP2 = g + 1 ∧
          (oS2 ++ (cmpG be2 (sb.drop (g + 1)) (pb.drop (g + 1)) (sc.drop t2) (pc.drop t2)).1, oP2 ++ (cmpG be2 (sb.drop (g + 1)) (pb.drop (g + 1)) (sc.drop t2) (pc.drop t2)).2) = cmpG be sb pb sc pc
      | .inr z => z = cmpG be sb pb sc pc) ?_ ?_
  · refine Ok.yes (by simp) (Ok.yes (by simpa using hg) (Ok.bind_eq (r := pb[g]) (by simp [List.getElem?_eq_getElem hg]) (Ok.bind_eq hin (Ok.yes (r16 _) ?_))))
    dsimp only
    refine Ok.ite (fun hq => ?_) fun hq => ?_
    · have he : g = sb.length := by
        have : ((g : Nat) : Int) = ((List.length sb : Nat) : Int) := by simpa using hq
        omega
      rw [c2 he] at hf
      exact Ok.mk (by rw [← hf, List.append_nil])
    · have hks : g < sb.length := by
        have : ¬ ((g : Nat) : Int) = ((List.length sb : Nat) : Int) := by simpa using hq
        omega
      refine Ok.yes (by simp) (Ok.yes (by simpa using hks) (Ok.bind_eq (r := sb[g]) (by simp [List.getElem?_eq_getElem hks]) ?_))
      cases hb : sb[g] with
      | false =>
        obtain ⟨k1, k2⟩ := (c3 hks).1 hb
        rw [k2] at hf
        refine Ok.yes (by simp) (Ok.yes (r1 _) (Ok.mk ⟨_, _, _, _, rfl, by omega, by simp, k1, by simp [hoS], by simp [hoP], ?_⟩))
        rw [← hf]; simp
      | true =>
        obtain ⟨k1, k2, k3, k4⟩ := (c3 hks).2 hb
        rw [k4] at hf
        have e9 : IntKind.wrap .i64 (((t + pb[g].length : Nat) : Int) + 1) = ((t + pb[g].length + 1 : Nat) : Int) := idx_succ (n := sc.length) (by omega) k2
        have hq2 : (pc[t + pb[g].length + 1]).length ≤ tot pc := tot_mem (List.getElem_mem k3)
        rw [e9]
        refine Ok.no (by simp) (Ok.yes (decide_eq_true (by omega)) (Ok.yes (decide_eq_true (by omega)) (Ok.bind_eq (r := sc[t + pb[g].length]) (by rw [Nat.zero_add, Int.toNat_natCast]; exact List.getElem?_eq_getElem k2) (Ok.yes (r1 _)
          (Ok.yes (decide_eq_true (by omega)) (Ok.yes (decide_eq_true (by omega)) (Ok.bind_eq (r := pc[t + pb[g].length + 1]) (by rw [Nat.zero_add, Int.toNat_natCast]; exact List.getElem?_eq_getElem k3) (Ok.mk ⟨_, _, _, _, rfl, by omega, by omega, k1, by simp [hoS], by simp [hoP], ?_⟩))))))))
        rw [← hf]; simp
  rintro (y | z) hv
  · obtain ⟨t2, be2, oS2, oP2, rfl, k1, k2, k3, k4, k5, k6⟩ := hv
    dsimp only
    have e9 : IntKind.wrap .i64 (((g : Nat) : Int) + 1) = ((g + 1 : Nat) : Int) := idx_succ (n := pb.length) (by omega) hg
    rw [e9]
    exact Ok.mk ⟨⟨rfl, rfl, rfl, rfl, rfl, t2, g + 1, rfl, rfl, k1, k2, k3, k4, k5, k6⟩, by dsimp only; omega⟩
  · exact Ok.mk hv
end
end Go.V.G

set_option linter.unusedVariables false
set_option linter.unusedSimpArgs false
set_option maxRecDepth 100000
namespace Go.V.G
open Go.V
def stP (S : List Bool) (k : Nat) : List Prt := match S[k]? with
  | some true => [(1, 0, [])]
  | some false => [(0, 1, [])]
  | none => []
theorem closeP_step {S : List Bool} {P : List (List UInt8)} (h : P.length = S.length + 1) {k : Nat} (hk : k < P.length) : closeP (S.drop k) (P.drop k) = (0, 0, P[k]) :: (stP S k ++ closeP (S.drop (k + 1)) (P.drop (k + 1))) := by
  rw [List.drop_eq_getElem_cons hk]
  by_cases hs : k < S.length
  · rw [List.drop_eq_getElem_cons hs]
    simp only [closeP, stP, List.getElem?_eq_getElem hs]
    cases S[k] <;> rfl
  · rw [List.drop_eq_nil_of_le (show S.length ≤ k by omega), List.drop_eq_nil_of_le (show S.length ≤ k + 1 by omega), List.drop_eq_nil_of_le (show P.length ≤ k + 1 by omega)]
    simp [closeP, stP, List.getElem?_eq_none (show S.length ≤ k by omega)]
structure PR (S : List Bool) (P : List (List UInt8)) : Prop where
  x : P.length = S.length + 1
  n : S.length ≤ 1000
  p : ∀ q ∈ P, q.length ≤ 1000
theorem addp_zero (l : List Prt) : addp l (0, 0, []) = l := by simp [addp]
theorem i_parts_eq {S : List Bool} {P : List (List UInt8)} (h : PR S P) : Ok (i_told_parts S P) fun z => z = norm (closeP S P) ∧ Sm 4004004 z := by
  unfold i_told_parts
  refine Ok.bind (Q := fun z => z = norm (closeP S P) ∧ Sm 4004004 z) ?_ (fun z hz => Ok.mk hz)
  refine Ok.loop (fun y => y.1 = P ∧ y.2.1 = ((List.length P : Nat) : Int) ∧ y.2.2.2.1 = S ∧ ∃ k : Nat, y.2.2.1 = ((k : Nat) : Int) ∧ k ≤ P.length ∧ Sm (k * 4000) y.2.2.2.2.2 ∧ (closeP (S.drop k) (P.drop k)).foldl addp y.2.2.2.2.2 = norm (closeP S P)) (fun y => (((List.length P : Nat) : Int) - y.2.2.1).toNat)
    ⟨rfl, rfl, rfl, 0, rfl, Nat.zero_le _, Sm.nil _, rfl⟩ ?_
  rintro ⟨p1, n, k', s, p2, o⟩ ⟨e1, e2, e3, k, e4, hk, ho, hf⟩
  dsimp only at e1 e2 e3 e4 ho hf
  subst e1 e2 e3 e4
  obtain ⟨hx, hn, hp⟩ := h
  have z := one_I.2
  unfold i_told_parts_L1
  dsimp only
  refine Ok.ite (fun hc => ?_) fun hc => ?_
  · have hlt : k < p1.length := by simpa using hc
    have lp := hp _ (List.getElem_mem hlt)
    rw [closeP_step hx hlt, List.foldl_cons, List.foldl_append] at hf
    refine Ok.yes (by simp) (Ok.bind_eq (r := p1[k]) (by simp [List.getElem?_eq_getElem hlt]) ?_)
    refine Ok.bind (Q := fun v => v = (((k : Nat) : Int), p1, ((List.length p1 : Nat) : Int), ((k : Nat) : Int), s, p2, addp o (0, 0, p1[k]))) ?_ ?_
    · refine Ok.ite (fun hq => Ok.bind_eq (i_add_eq ho (by omega) 0 0 _ (by omega)) (Ok.mk rfl)) fun hq => Ok.mk ?_
      have : p1[k] = [] := by simpa using hq
      rw [this, addp_zero]
    rintro _ rfl
    dsimp only
    have so : Sm (k * 4000 + 1000) (addp o (0, 0, p1[k])) := addp_sm ho ⟨z, z⟩ (by omega) (by dsimp only; omega)
    refine Ok.bind (Q := fun v => v = (p1, ((List.length p1 : Nat) : Int), ((k : Nat) : Int), s, p2, (stP s k).foldl addp (addp o (0, 0, p1[k])))) ?_ ?_
    · refine Ok.ite (fun hq => Ok.mk ?_) fun hq => ?_
      · have : k = s.length := by
          have : ((k : Nat) : Int) = ((List.length s : Nat) : Int) := by simpa using hq
          omega
        simp [stP, this]
      · have hks : k < s.length := by
          have : ¬ ((k : Nat) : Int) = ((List.length s : Nat) : Int) := by simpa using hq
          omega
        refine Ok.yes (by simp) (Ok.bind_eq (r := s[k]) (by simp [List.getElem?_eq_getElem hks]) ?_)
        refine Ok.bind (Q := fun v => v = (p1, ((List.length p1 : Nat) : Int), ((k : Nat) : Int), s, p2, (stP s k).foldl addp (addp o (0, 0, p1[k])))) ?_ (fun v hv => Ok.mk hv)
        simp only [stP, List.getElem?_eq_getElem hks]
        cases s[k] with
        | true => exact Ok.yes rfl (Ok.bind_eq (i_add_eq so (by omega) 1 0 [] (by simp)) (Ok.mk rfl))
        | false => exact Ok.no (by simp) (Ok.bind_eq (i_add_eq so (by omega) 0 1 [] (by simp)) (Ok.mk rfl))
    rintro _ rfl
    dsimp only
    have so4 : Sm ((k + 1) * 4000) ((stP s k).foldl addp (addp o (0, 0, p1[k]))) := by
      unfold stP
      split
      · exact addp_sm (p := (1, 0, [])) (C := (k + 1) * 4000) so ⟨one_I.1, z⟩ (by omega) (by simp; omega)
      · exact addp_sm (p := (0, 1, [])) (C := (k + 1) * 4000) so ⟨z, one_I.1⟩ (by omega) (by simp; omega)
      · exact so.mono (by omega)
    exact Ok.mk ⟨⟨rfl, rfl, rfl, k + 1, idx_succ (n := p1.length) (by omega) hlt, by omega, so4, hf⟩, by rw [idx_succ (n := p1.length) (by omega) hlt]; dsimp only; omega⟩
  · have : k = p1.length := by
      have : ¬ ((k : Int) < ((List.length p1 : Nat) : Int)) := by simpa using hc
      omega
    subst this
    refine Ok.mk ⟨?_, ho.mono (by omega)⟩
    rw [← hf, List.drop_length, List.drop_eq_nil_of_le (show s.length ≤ p1.length by omega)]; rfl
theorem s_close_eq {S : List Bool} {P : List (List UInt8)} (h : PR S P) : Ok (s_l1Close S P) fun z => z = norm (closeP S P) ∧ Sm 4004004 z := by
  unfold s_l1Close
  refine Ok.bind (Q := fun z => z = norm (closeP S P) ∧ Sm 4004004 z) ?_ (fun z hz => Ok.mk hz)
  refine Ok.loop (fun y => y.2.1 = P ∧ y.2.2.1 = ((List.length P : Nat) : Int) ∧ y.2.2.2.2.1 = S ∧ ∃ k : Nat, y.2.2.2.1 = ((k : Nat) : Int) ∧ k ≤ P.length ∧ Sm (k * 4000) y.1 ∧ (closeP (S.drop k) (P.drop k)).foldl addp y.1 = norm (closeP S P)) (fun y => (((List.length P : Nat) : Int) - y.2.2.2.1).toNat)
    ⟨rfl, rfl, rfl, 0, rfl, Nat.zero_le _, Sm.nil _, rfl⟩ ?_
  rintro ⟨o, p1, n, k', s, p2⟩ ⟨e1, e2, e3, k, e4, hk, ho, hf⟩
  dsimp only at e1 e2 e3 e4 ho hf
  subst e1 e2 e3 e4
  obtain ⟨hx, hn, hp⟩ := h
  have z := one_I.2
  unfold s_l1Close_L1
  dsimp only
  refine Ok.ite (fun hc => ?_) fun hc => ?_
  · have hlt : k < p1.length := by simpa using hc
    have lp := hp _ (List.getElem_mem hlt)
    rw [closeP_step hx hlt, List.foldl_cons, List.foldl_append] at hf
    have so : Sm (k * 4000 + 1000) (addp o (0, 0, p1[k])) := addp_sm ho ⟨z, z⟩ (by omega) (by dsimp only; omega)
    refine Ok.yes (by simp) (Ok.bind_eq (r := p1[k]) (by simp [List.getElem?_eq_getElem hlt]) (Ok.bind_eq (s_l1Add_eq ho (by omega) 0 0 _ (by omega)) ?_))
    refine Ok.bind (Q := fun v => v = ((stP s k).foldl addp (addp o (0, 0, p1[k])), p1, ((List.length p1 : Nat) : Int), ((k : Nat) : Int), s, p2)) ?_ ?_
    · refine Ok.ite (fun hq => ?_) fun hq => Ok.mk ?_
      · have hks : k < s.length := by
          have : ((k : Nat) : Int) < ((List.length s : Nat) : Int) := by simpa using hq
          omega
        refine Ok.yes (by simp) (Ok.bind_eq (r := s[k]) (by simp [List.getElem?_eq_getElem hks]) ?_)
        refine Ok.bind (Q := fun v => v = ((stP s k).foldl addp (addp o (0, 0, p1[k])), p1, ((List.length p1 : Nat) : Int), ((k : Nat) : Int), s, p2)) ?_ (fun v hv => Ok.mk hv)
        simp only [stP, List.getElem?_eq_getElem hks]
        cases s[k] with
        | true => exact Ok.yes rfl (Ok.bind_eq (s_l1Add_eq so (by omega) 1 0 [] (by simp)) (Ok.mk rfl))
        | false => exact Ok.no (by simp) (Ok.bind_eq (s_l1Add_eq so (by omega) 0 1 [] (by simp)) (Ok.mk rfl))
      · have : s.length ≤ k := by
          have : ¬ ((k : Nat) : Int) < ((List.length s : Nat) : Int) := by simpa using hq
          omega
        simp [stP, List.getElem?_eq_none this]
    rintro _ rfl
    dsimp only
    have so4 : Sm ((k + 1) * 4000) ((stP s k).foldl addp (addp o (0, 0, p1[k]))) := by
      unfold stP
      split
      · exact addp_sm (p := (1, 0, [])) (C := (k + 1) * 4000) so ⟨one_I.1, z⟩ (by omega) (by simp; omega)
      · exact addp_sm (p := (0, 1, [])) (C := (k + 1) * 4000) so ⟨z, one_I.1⟩ (by omega) (by simp; omega)
      · exact so.mono (by omega)
    exact Ok.mk ⟨⟨rfl, rfl, rfl, k + 1, idx_succ (n := p1.length) (by omega) hlt, by omega, so4, hf⟩, by rw [idx_succ (n := p1.length) (by omega) hlt]; dsimp only; omega⟩
  · have : k = p1.length := by
      have : ¬ ((k : Int) < ((List.length p1 : Nat) : Int)) := by simpa using hc
      omega
    subst this
    refine Ok.mk ⟨?_, ho.mono (by omega)⟩
    rw [← hf, List.drop_length, List.drop_eq_nil_of_le (show s.length ≤ p1.length by omega)]; rfl
section
variable {Sb : List Bool} {Pb : List (List UInt8)} {Sc : List Bool} {Pc : List (List UInt8)} (h : CR Sb Pb Sc Pc)
include h
theorem s_compose_inner {t g : Nat} {n g2 : Int} {s text : List UInt8} {oS : List Bool} {oP : List (List UInt8)} (hs : t + s.length ≤ Sc.length) (ht : text.length ≤ 1000) (hg : oP[g]? = some text) :
    loopG s_l1Compose_L1 (((t : Nat) : Int), ((g : Nat) : Int), s, 0, Pb, n, g2, Sb, Sc, Pc, oS, oP) =
      some (((t + s.length : Nat) : Int), ((g : Nat) : Int), Pb, n, g2, Sb, Sc, Pc, oS, oP.set g (text ++ inn (Sc.drop t) (Pc.drop t) s)) := by
  obtain ⟨hx, hy, hr, hn, hm, hpy⟩ := h
  have hgl : g < oP.length := (List.getElem?_eq_some_iff.1 hg).1
  have h0 : oP.set g text = oP := by
    have := (List.getElem?_eq_some_iff.1 hg).2
    rw [← this]; exact List.set_getElem_self hgl
  have := loop_run s_l1Compose_L1 (fun i => (((t + i : Nat) : Int), ((g : Nat) : Int), s, ((i : Nat) : Int), Pb, n, g2, Sb, Sc, Pc, oS, oP.set g (text ++ inn (Sc.drop t) (Pc.drop t) (s.take i)))) s.length
    (((t + s.length : Nat) : Int), ((g : Nat) : Int), Pb, n, g2, Sb, Sc, Pc, oS, oP.set g (text ++ inn (Sc.drop t) (Pc.drop t) s)) (by
      intro i hi
      have hti : t + i < Sc.length := by omega
      have htp : t + i + 1 < Pc.length := by omega
      have hl : (s.take i).length = i := by rw [List.length_take]; omega
      have sn := inn_snoc (s.take i) (Sc.drop t) (Pc.drop t) s[i] (by rw [hl, List.length_drop]; omega) (by rw [List.length_drop, List.length_drop]; omega)
      rw [← List.take_succ_eq_append_getElem hi] at sn
      simp only [hl, List.getElem_drop] at sn
      have il := inn_len (Sc.drop t) (Pc.drop t) (s.take i)
      have tl : tot (Pc.drop t).tail ≤ tot Pc := by rw [List.tail_drop]; exact tot_drop _ _
      have pq : (Pc[t + i + 1]).length ≤ tot Pc := tot_mem (List.getElem_mem htp)
      have e1 : IntKind.wrap .i64 (((i : Nat) : Int) + 1) = ((i + 1 : Nat) : Int) := idx_succ (n := s.length) (by omega) hi
      have e2 : IntKind.wrap .i64 (((t + i : Nat) : Int) + 1) = ((t + i + 1 : Nat) : Int) := idx_succ (n := Sc.length) (by omega) hti
      have g0 : (0 : Int) ≤ ((t + i : Nat) : Int) := by omega
      have g1 : ((t + i : Nat) : Int) < ((List.length Sc : Nat) : Int) := by omega
      have g2' : (0 : Int) ≤ ((i : Nat) : Int) := by omega
      have g3 : ((i : Nat) : Int) ≤ ((i + 1 : Nat) : Int) := by omega
      have g4 : ((i + 1 : Nat) : Int) ≤ ((List.length s : Nat) : Int) := by omega
      have g5 : ((i : Nat) : Int) < ((List.length s : Nat) : Int) := by omega
      have g6 : ((t + i + 1 : Nat) : Int) < ((List.length Pc : Nat) : Int) := by omega
      have g7 : (0 : Int) ≤ ((t + i + 1 : Nat) : Int) := by omega
      have g8 : (0 : Int) ≤ ((g : Nat) : Int) := by omega
      have cut : (s.drop i).take (i + 1 - i) = [s[i]] := by rw [show i + 1 - i = 1 by omega, List.drop_eq_getElem_cons hi]; rfl
      have b1 : List.length (text ++ inn (Sc.drop t) (Pc.drop t) (s.take i)) + List.length [s[i]] ≤ 9223372036854775807 := by rw [List.length_append]; simp only [List.length_singleton]; omega
      have b2 : ∀ z : List UInt8, z.length ≤ 1 → List.length (text ++ inn (Sc.drop t) (Pc.drop t) (s.take i) ++ z) + List.length (Pc[t + i + 1]) ≤ 9223372036854775807 := fun z hz => by rw [List.length_append, List.length_append]; omega
      have gl : ∀ z, ((g : Nat) : Int) < ((List.length (oP.set g z) : Nat) : Int) := fun z => by rw [List.length_set]; omega
      have gs : ∀ z, (oP.set g z)[g]? = some z := fun z => List.getElem?_set_self hgl
      unfold s_l1Compose_L1
      simp only [g0, g1, g2', g3, g4, g5, g8, gl, gs, e1, e2, decide_true, if_true, Int.toNat_natCast, Nat.zero_add, List.getElem?_eq_getElem hti, Option.bind_some, Int.le_refl, cut, b1, List.set_set]
      cases hb : Sc[t + i] with
      | true =>
        rw [hb, if_pos rfl] at sn
        have b3 := b2 [s[i]] (by simp)
        simp only [if_true, Option.bind_some, e1, e2, g6, g7, g8, gl, gs, decide_true, Int.toNat_natCast, List.getElem?_eq_getElem htp, b3, List.set_set]
        simp only [sn, List.append_assoc, Nat.add_assoc]
      | false =>
        rw [hb, if_neg (by simp)] at sn
        have b3 := b2 [] (by simp)
        rw [List.append_nil] at b3
        simp only [Bool.false_eq_true, if_false, Option.bind_some, e1, e2, g6, g7, g8, gl, gs, decide_true, if_true, Int.toNat_natCast, List.getElem?_eq_getElem htp, b3, List.set_set]
        simp only [sn, List.append_assoc, Nat.add_assoc, List.nil_append]) (by
      simp only [List.take_length]
      simp [s_l1Compose_L1])
  simpa [inn_nil, h0] using this
theorem s_compose_loop (be : List UInt8) (hbe : be.length ≤ 1000) : loopG s_l1Compose_L2 (0, Pb, ((List.length Pb : Nat) : Int), 0, Sb, Sc, Pc, [], be :: List.replicate (Pb.length - 1) []) = some (cmpG be Sb Pb Sc Pc) := by
  refine Ok.eq (Ok.loop (fun y => y.2.1 = Pb ∧ y.2.2.1 = ((List.length Pb : Nat) : Int) ∧ y.2.2.2.2.1 = Sb ∧ y.2.2.2.2.2.1 = Sc ∧ y.2.2.2.2.2.2.1 = Pc ∧ ∃ (t g : Nat) (be2 : List UInt8) (done : List (List UInt8)), y.1 = ((t : Nat) : Int) ∧ y.2.2.2.1 = ((g : Nat) : Int) ∧ g < Pb.length ∧
      be2.length ≤ 1000 ∧ t + rem (Sb.drop g) (Pb.drop g) = Sc.length ∧ y.2.2.2.2.2.2.2.1.length = g ∧ done.length = g ∧ y.2.2.2.2.2.2.2.2 = done ++ be2 :: List.replicate (Pb.length - 1 - g) [] ∧
      (y.2.2.2.2.2.2.2.1 ++ (cmpG be2 (Sb.drop g) (Pb.drop g) (Sc.drop t) (Pc.drop t)).1, done ++ (cmpG be2 (Sb.drop g) (Pb.drop g) (Sc.drop t) (Pc.drop t)).2) = cmpG be Sb Pb Sc Pc) (fun y => (((List.length Pb : Nat) : Int) - y.2.2.2.1).toNat)
    ⟨rfl, rfl, rfl, rfl, rfl, 0, 0, be, [], rfl, rfl, by rw [h.x]; omega, hbe, by have := h.r; simpa using this, rfl, rfl, by simp, by simp⟩ ?_)
  rintro ⟨t', pb, n, g', sb, sc, pc, oS, oP⟩ ⟨e1, e2, e3, e4, e5, t, g, be', done, e6, e7, hg, hbe', hrem, hoS, hdone, hoP, hf⟩
  dsimp only at e1 e2 e3 e4 e5 e6 e7 hbe' hoS hoP hf
  subst e1 e2 e3 e4 e5 e6 e7 hoP
  have hCR := h
  obtain ⟨hx, hy, hr, hn, hm, hpy⟩ := h
  obtain ⟨c1, c2, c3⟩ := cmpG_at hCR hg be' hrem
  unfold s_l1Compose_L2
  dsimp only
  refine Ok.yes (by simpa using hg) ?_
  have r1 : ∀ z : Bool, roomFor (List.length oS + List.length [z]) 1 = true := fun z => room1 (by omega) (by omega)
  have hat : (done ++ be' :: List.replicate (pb.length - 1 - g) ([] : List UInt8))[g]? = some be' := by rw [List.getElem?_append_right (by omega), hdone, Nat.sub_self]; rfl
  have hin := s_compose_inner hCR (g := g) (n := ((List.length pb : Nat) : Int)) (g2 := ((g : Nat) : Int)) (oS := oS) c1 hbe' hat
  have hset : (done ++ be' :: List.replicate (pb.length - 1 - g) ([] : List UInt8)).set g (be' ++ inn (sc.drop t) (pc.drop t) pb[g]) = done ++ (be' ++ inn (sc.drop t) (pc.drop t) pb[g]) :: List.replicate (pb.length - 1 - g) [] := by
    rw [List.set_append_right _ _ (by omega), hdone, Nat.sub_self]; rfl
  rw [hset] at hin
  refine Ok.bind (Q := fun v => match v with
      | .inl y => ∃ t2 be2 oS2 done2, y = (((t2 : Nat) : Int), pb, ((List.length pb : Nat) : Int), ((g : Nat) : Int), sb, sc, pc, oS2, done2 ++ be2 :: List.replicate (pb.length - 1 - (g + 1)) []) ∧ g + 1 < pb.length ∧ List.length be2 ≤ 1000 ∧ t2 + rem (sb.drop (g + 1)) (pb.drop (g + 1)) = sc.length ∧ List.length oS2 = g + 1 ∧ List.length done2 = g + 1 ∧
          (oS2 ++ (cmpG be2 (sb.drop (g + 1)) (pb.drop (g + 1)) (sc.drop t2) (pc.drop t2)).1, done2 ++ (cmpG be2 (sb.drop (g + 1)) (pb.drop (g + 1)) (sc.drop t2) (pc.drop t2)).2) = cmpG be sb pb sc pc
      | .inr z => z = cmpG be sb pb sc pc) ?_ ?_
  · refine Ok.yes (decide_eq_true (by omega)) (Ok.yes (by simpa using hg) (Ok.bind_eq (r := pb[g]) (by simp [List.getElem?_eq_getElem hg]) (Ok.bind_eq hin ?_)))
    dsimp only
    refine Ok.ite (fun hq => ?_) fun hq => ?_
    · have he : g = sb.length := by
        have : ((g : Nat) : Int) = ((List.length sb : Nat) : Int) := by simpa using hq
        omega
      rw [c2 he] at hf
      refine Ok.mk ?_
      rw [← hf, List.append_nil, show pb.length - 1 - g = 0 by omega]; rfl
    · have hks : g < sb.length := by
        have : ¬ ((g : Nat) : Int) = ((List.length sb : Nat) : Int) := by simpa using hq
        omega
      have rep : List.replicate (pb.length - 1 - g) ([] : List UInt8) = [] :: List.replicate (pb.length - 1 - (g + 1)) [] := by rw [show pb.length - 1 - g = (pb.length - 1 - (g + 1)) + 1 by omega, List.replicate_succ]
      refine Ok.yes (decide_eq_true (by omega)) (Ok.yes (by simpa using hks) (Ok.bind_eq (r := sb[g]) (by simp [List.getElem?_eq_getElem hks]) ?_))
      cases hb : sb[g] with
      | false =>
        obtain ⟨k1, k2⟩ := (c3 hks).1 hb
        rw [k2] at hf
        refine Ok.yes (by simp) (Ok.yes (r1 _) (Ok.mk ⟨t + pb[g].length, [], oS ++ [false], done ++ [be' ++ inn (sc.drop t) (pc.drop t) pb[g]], ?_, by omega, by simp, k1, by simp [hoS], by simp [hdone], ?_⟩))
        · rw [rep]; simp
        · rw [← hf]; simp
      | true =>
        obtain ⟨k1, k2, k3, k4⟩ := (c3 hks).2 hb
        rw [k4] at hf
        have e9 : IntKind.wrap .i64 (((t + pb[g].length : Nat) : Int) + 1) = ((t + pb[g].length + 1 : Nat) : Int) := idx_succ (n := sc.length) (by omega) k2
        have e10 : IntKind.wrap .i64 (((g : Nat) : Int) + 1) = ((g + 1 : Nat) : Int) := idx_succ (n := pb.length) (by omega) hg
        have hq2 : (pc[t + pb[g].length + 1]).length ≤ tot pc := tot_mem (List.getElem_mem k3)
        have hlen : (done ++ (be' ++ inn (sc.drop t) (pc.drop t) pb[g]) :: List.replicate (pb.length - 1 - g) ([] : List UInt8)).length = pb.length := by simp; omega
        have hget : (done ++ (be' ++ inn (sc.drop t) (pc.drop t) pb[g]) :: List.replicate (pb.length - 1 - g) ([] : List UInt8))[0 + Int.toNat ((g + 1 : Nat) : Int)]? = some [] := by
          rw [rep, Int.toNat_natCast, Nat.zero_add, List.getElem?_append_right (by omega), hdone, show g + 1 - g = 1 by omega]; rfl
        have hset2 : (done ++ (be' ++ inn (sc.drop t) (pc.drop t) pb[g]) :: List.replicate (pb.length - 1 - g) ([] : List UInt8)).set (0 + Int.toNat ((g + 1 : Nat) : Int)) pc[t + pb[g].length + 1] = (done ++ [be' ++ inn (sc.drop t) (pc.drop t) pb[g]]) ++ pc[t + pb[g].length + 1] :: List.replicate (pb.length - 1 - (g + 1)) [] := by
          rw [rep, Int.toNat_natCast, Nat.zero_add, List.set_append_right _ _ (by omega), hdone, show g + 1 - g = 1 by omega]; simp
        rw [e9, e10]
        refine Ok.no (by simp) (Ok.yes (decide_eq_true (by omega)) (Ok.yes (decide_eq_true (by omega)) (Ok.bind_eq (r := sc[t + pb[g].length]) (by rw [Nat.zero_add, Int.toNat_natCast]; exact List.getElem?_eq_getElem k2) (Ok.yes (r1 _)
          (Ok.yes (decide_eq_true (by omega)) (Ok.yes (decide_eq_true (by omega)) (Ok.bind_eq (r := pc[t + pb[g].length + 1]) (by rw [Nat.zero_add, Int.toNat_natCast]; exact List.getElem?_eq_getElem k3)
            (Ok.yes (decide_eq_true (by omega)) (Ok.yes (decide_eq_true (by rw [hlen]; omega)) (Ok.bind_eq hget (Ok.bind_eq hget (Ok.mk ⟨t + pb[g].length + 1, pc[t + pb[g].length + 1], oS ++ [sc[t + pb[g].length]], done ++ [be' ++ inn (sc.drop t) (pc.drop t) pb[g]], ?_, by omega, by omega, k1, by simp [hoS], by simp [hdone], ?_⟩))))))))))))
        · rw [hset2]
        · rw [← hf]; simp
  rintro (y | z) hv
  · obtain ⟨t2, be2, oS2, done2, rfl, k1, k2, k3, k4, k5, k6⟩ := hv
    dsimp only
    have e9 : IntKind.wrap .i64 (((g : Nat) : Int) + 1) = ((g + 1 : Nat) : Int) := idx_succ (n := pb.length) (by omega) hg
    rw [e9]
    exact Ok.mk ⟨⟨rfl, rfl, rfl, rfl, rfl, t2, g + 1, be2, done2, rfl, rfl, k1, k2, k3, k4, k5, rfl, k6⟩, by dsimp only; omega⟩
  · exact Ok.mk hv
end
end Go.V.G

set_option linter.unusedVariables false
set_option linter.unusedSimpArgs false
set_option maxRecDepth 100000
namespace Go.V.G
open Go.V
theorem comp_len : ∀ (x y : List Atom), nT x = nS y → nS (comp x y) = nS x ∧ nT (comp x y) = nT y := by
  intro x y
  induction x, y using comp.induct with
  | case1 x b y ih => intro h; rw [comp]; have := ih h; simp only [nS, nT]; omega
  | case2 x ih => intro h; rw [comp]; have := ih h; simp only [nS, nT] at this ⊢; omega
  | case3 x y ih => intro h; rw [comp]; have := ih h; simp only [nS, nT] at this ⊢; omega
  | case4 x y ih => intro h; rw [comp]; have := ih h; simp only [nS, nT] at this ⊢; omega
  | case5 b x y ih => intro h; rw [comp]; have := ih (by simpa [nS, nT] using h); simp only [nS, nT]; omega
  | case6 b x y ih => intro h; rw [comp]; have := ih (by simpa [nS, nT] using h); simp only [nS, nT]; omega
  | case7 x y ih => intro h; rw [comp]; have := ih (by simpa [nS, nT] using h); simp only [nS, nT]; omega
  | case8 x y ih => intro h; rw [comp]; have := ih (by simpa [nS, nT] using h); simp only [nS, nT]; omega
  | case9 x y h1 h2 h3 h4 h5 h6 h7 h8 =>
    intro g
    match x, y with
    | x, .ins b :: y => exact absurd rfl (h1 b y)
    | .drop :: x, [] => exact absurd rfl (h2 x rfl)
    | .drop :: x, .keep :: y => exact absurd rfl (h3 x y rfl)
    | .drop :: x, .drop :: y => exact absurd rfl (h4 x y rfl)
    | .ins b :: x, .keep :: y => exact absurd rfl (h5 b x y rfl)
    | .ins b :: x, .drop :: y => exact absurd rfl (h6 b x y rfl)
    | .keep :: x, .keep :: y => exact absurd rfl (h7 x y rfl)
    | .keep :: x, .drop :: y => exact absurd rfl (h8 x y rfl)
    | [], [] => simp [comp, nS, nT]
    | .ins b :: x, [] => simp [nS, nT] at g
    | .keep :: x, [] => simp [nS, nT] at g
    | [], .keep :: y => simp [nS, nT] at g
    | [], .drop :: y => simp [nS, nT] at g
theorem carry_comp : ∀ (b c : List Atom) (a : List Atom), nT b = nS c → nS a = nS b → carryF (carryF a b) c = carryF a (comp b c) := by
  intro b c
  induction b, c using comp.induct with
  | case1 b d c ih => intro a h g; rw [comp, carryF, carryF, ih a h g]
  | case2 b ih =>
    intro a h g
    rw [comp]
    induction a with
    | nil => simp [nS] at g
    | cons u a iha =>
      cases u with
      | ins d => rw [carryF, carryF, carryF, iha (by simpa [nS] using g)]
      | keep => rw [carryF, carryF]; exact ih a h (by simpa [nS] using g)
      | drop => rw [carryF, carryF]; exact ih a h (by simpa [nS] using g)
  | case3 b c ih =>
    intro a h g
    rw [comp]
    induction a with
    | nil => simp [nS] at g
    | cons u a iha =>
      cases u with
      | ins d => rw [carryF, carryF, carryF, iha (by simpa [nS] using g)]
      | keep => rw [carryF, carryF]; exact ih a h (by simpa [nS] using g)
      | drop => rw [carryF, carryF]; exact ih a h (by simpa [nS] using g)
  | case4 b c ih =>
    intro a h g
    rw [comp]
    induction a with
    | nil => simp [nS] at g
    | cons u a iha =>
      cases u with
      | ins d => rw [carryF, carryF, carryF, iha (by simpa [nS] using g)]
      | keep => rw [carryF, carryF]; exact ih a h (by simpa [nS] using g)
      | drop => rw [carryF, carryF]; exact ih a h (by simpa [nS] using g)
  | case5 d b c ih => intro a h g; rw [comp, carryF, carryF, carryF, ih a (by simpa [nS, nT] using h) g]
  | case6 d b c ih => intro a h g; rw [comp, carryF, carryF]; exact ih a (by simpa [nS, nT] using h) g
  | case7 b c ih =>
    intro a h g
    rw [comp]
    induction a with
    | nil => simp [nS] at g
    | cons u a iha =>
      cases u with
      | ins d => rw [carryF, carryF, carryF, iha (by simpa [nS] using g)]
      | keep => rw [carryF, carryF, carryF, ih a (by simpa [nS, nT] using h) (by simpa [nS] using g)]
      | drop => rw [carryF, carryF, carryF, ih a (by simpa [nS, nT] using h) (by simpa [nS] using g)]
  | case8 b c ih =>
    intro a h g
    rw [comp]
    induction a with
    | nil => simp [nS] at g
    | cons u a iha =>
      cases u with
      | ins d => rw [carryF, carryF, carryF, iha (by simpa [nS] using g)]
      | keep => rw [carryF, carryF, carryF]; exact ih a (by simpa [nS, nT] using h) (by simpa [nS] using g)
      | drop => rw [carryF, carryF, carryF]; exact ih a (by simpa [nS, nT] using h) (by simpa [nS] using g)
  | case9 b c h1 h2 h3 h4 h5 h6 h7 h8 =>
    intro a g gt
    match b, c with
    | b, .ins d :: c => exact absurd rfl (h1 d c)
    | .drop :: b, [] => exact absurd rfl (h2 b rfl)
    | .drop :: b, .keep :: c => exact absurd rfl (h3 b c rfl)
    | .drop :: b, .drop :: c => exact absurd rfl (h4 b c rfl)
    | .ins d :: b, .keep :: c => exact absurd rfl (h5 d b c rfl)
    | .ins d :: b, .drop :: c => exact absurd rfl (h6 d b c rfl)
    | .keep :: b, .keep :: c => exact absurd rfl (h7 b c rfl)
    | .keep :: b, .drop :: c => exact absurd rfl (h8 b c rfl)
    | [], [] =>
      have : comp [] [] = [] := by simp [comp]
      rw [this]
      clear gt
      have key : ∀ a : List Atom, carryF (carryF a []) [] = carryF a [] := by
        intro a
        induction a with
        | nil => simp [carryF]
        | cons u a ih =>
          cases u with
          | ins d => rw [carryF, carryF, ih]
          | keep => simp [carryF]
          | drop => simp [carryF]
      exact key a
    | .ins d :: b, [] => simp [nS, nT] at g
    | .keep :: b, [] => simp [nS, nT] at g
    | [], .keep :: c => simp [nS, nT] at g
    | [], .drop :: c => simp [nS, nT] at g
end Go.V.G

set_option linter.unusedVariables false
set_option linter.unusedSimpArgs false
set_option maxRecDepth 100000
namespace Go.V.G
open Go.V
theorem cr_good {a b : List Prt} (ha : good a = true) (hb : good b = true) (h : tgt a = src b) : nT (atoms a) = nS (atoms b) ∧ CR (stays (atoms a)) (puts (atoms a)) (stays (atoms b)) (puts (atoms b)) := by
  have sa := okk_some (good_spec ha).1
  have sb := okk_some (good_spec hb).1
  have la := stays_len sa
  have lb := stays_len sb
  have ta := tgt_nT sa
  have tb := tgt_nT sb
  have sb' := src_nS sb
  have := (good_spec ha).2.1
  have := (good_spec hb).2.1
  have := (good_spec hb).2.2
  have hn : nT (atoms a) = nS (atoms b) := by omega
  refine ⟨hn, puts_len _, puts_len _, by rw [rem_nT, hn, nS_stays], by omega, by omega, ?_⟩
  rw [tot_puts]
  rw [nT_eq] at tb
  omega
theorem head_len (l : List Atom) : ((puts l).headD []).length ≤ nIns l := by
  obtain ⟨p, ps, e, _⟩ := puts_cons l
  have := put_le l p (by rw [e]; simp)
  rw [e]; exact this
def composed (a b : List Prt) : List Prt := norm (closeP (stays (comp (atoms a) (atoms b))) (puts (comp (atoms a) (atoms b))))
theorem composed_spec {a b : List Prt} (ha : good a = true) (hb : good b = true) (h : tgt a = src b) :
    good (composed a b) = true ∧ atoms (composed a b) = comp (atoms a) (atoms b) ∧ src (composed a b) = src a ∧ tgt (composed a b) = tgt b := by
  have sa := okk_some (good_spec ha).1
  have sb := okk_some (good_spec hb).1
  obtain ⟨hn, _⟩ := cr_good ha hb h
  obtain ⟨l1, l2⟩ := comp_len _ _ hn
  have hf := closeP_fine (stays (comp (atoms a) (atoms b))) (puts (comp (atoms a) (atoms b)))
  have he := closeP_atoms (comp (atoms a) (atoms b))
  have s1 := src_fine hf
  have t1 := tgt_fine hf
  rw [he] at s1 t1
  have s2 := src_nS sa
  have t2 := tgt_nT sb
  have := (good_spec ha).2.1
  have := (good_spec hb).2.2
  obtain ⟨k1, k2, k3, k4⟩ := norm_spec hf ⟨by omega, by omega⟩
  refine ⟨?_, by rw [← he]; exact k2, ?_, ?_⟩
  · unfold good
    rw [show okk 0 (composed a b) = true from k1, show src (composed a b) = src (closeP _ _) from k3, show tgt (composed a b) = tgt (closeP _ _) from k4]
    simp; omega
  · rw [show src (composed a b) = src (closeP _ _) from k3]; omega
  · rw [show tgt (composed a b) = tgt (closeP _ _) from k4]; omega
theorem pr_good {a b : List Prt} (ha : good a = true) (hb : good b = true) (h : tgt a = src b) : PR (stays (comp (atoms a) (atoms b))) (puts (comp (atoms a) (atoms b))) := by
  have sa := okk_some (good_spec ha).1
  have sb := okk_some (good_spec hb).1
  obtain ⟨hn, _⟩ := cr_good ha hb h
  obtain ⟨l1, l2⟩ := comp_len _ _ hn
  have s2 := src_nS sa
  have t2 := tgt_nT sb
  have := (good_spec ha).2.1
  have := (good_spec hb).2.2
  refine ⟨puts_len _, by rw [← nS_stays]; omega, fun q hq => ?_⟩
  have := put_le _ q hq
  rw [nT_eq] at l2
  omega
theorem i_compose_eq {a b : List Prt} (ha : good a = true) (hb : good b = true) (h : tgt a = src b) : i_compose a b = some (composed a b) := by
  have sa := okk_some (good_spec ha).1
  have sb := okk_some (good_spec hb).1
  have := (good_spec ha).2.1
  have := (good_spec hb).2.1
  have t2 := tgt_nT sb
  have := (good_spec hb).2.2
  obtain ⟨hn, hCR⟩ := cr_good ha hb h
  have hl := head_len (atoms b)
  rw [nT_eq] at t2
  unfold i_compose
  rw [i_tell_eq (good_sm ha) (by omega) sa (by omega), i_tell_eq (good_sm hb) (by omega) sb (by omega), Option.bind_some, Option.bind_some]
  obtain ⟨q, qs, e, _⟩ := puts_cons (atoms b)
  have hlp := i_compose_loop hCR ((puts (atoms b)).headD []) (by omega)
  rw [cmpG_comp _ _ hn] at hlp
  refine Ok.eq (Ok.yes (by simp) (Ok.yes (by rw [e]; simp) (Ok.bind_eq (r := (puts (atoms b)).headD []) (by rw [e]; rfl) (Ok.bind_eq hlp ?_))))
  refine (i_parts_eq (pr_good ha hb h)).bind ?_
  rintro _ ⟨rfl, _⟩
  exact Ok.mk rfl
theorem s_compose_eq {a b : List Prt} (ha : good a = true) (hb : good b = true) (h : tgt a = src b) : s_l1Compose a b = some (composed a b) := by
  have sa := okk_some (good_spec ha).1
  have sb := okk_some (good_spec hb).1
  have := (good_spec ha).2.1
  have := (good_spec hb).2.1
  have t2 := tgt_nT sb
  have := (good_spec hb).2.2
  obtain ⟨hn, hCR⟩ := cr_good ha hb h
  have hl := head_len (atoms b)
  rw [nT_eq] at t2
  have hx := hCR.x
  have hnn := hCR.n
  unfold s_l1Compose
  rw [s_Open_eq (good_sm ha) (by omega) sa (by omega), s_Open_eq (good_sm hb) (by omega) sb (by omega), Option.bind_some, Option.bind_some]
  obtain ⟨q, qs, e, _⟩ := puts_cons (atoms b)
  have hlp := s_compose_loop hCR ((puts (atoms b)).headD []) (by omega)
  rw [cmpG_comp _ _ hn] at hlp
  have rep : List.replicate (Int.toNat ((List.length (puts (atoms a)) : Nat) : Int)) ([] : List UInt8) = [] :: List.replicate ((puts (atoms a)).length - 1) [] := by
    rw [Int.toNat_natCast, show (puts (atoms a)).length = ((puts (atoms a)).length - 1) + 1 by omega, List.replicate_succ, Nat.add_sub_cancel]
  dsimp only
  rw [rep]
  refine Ok.eq (Ok.yes (by simp) (Ok.yes (by simp) (Ok.yes (by simp [roomFor]; omega) (Ok.yes (by simp) (Ok.yes (by rw [e]; simp) (Ok.bind_eq (r := (puts (atoms b)).headD []) (by rw [e]; rfl) (Ok.yes (by simp) (Ok.yes (by simp) (Ok.bind_eq (r := []) rfl (Ok.bind_eq (r := []) rfl (Ok.bind_eq hlp ?_)))))))))))
  refine (s_close_eq (pr_good ha hb h)).bind ?_
  rintro _ ⟨rfl, _⟩
  exact Ok.mk rfl
end Go.V.G

set_option linter.unusedVariables false
set_option linter.unusedSimpArgs false
set_option maxRecDepth 100000
namespace Go.V.G
open Go.V
abbrev Rn := Int × Int
def rsum : List Rn → Int
  | [] => 0
  | r :: l => r.2 + rsum l
def alt : Option Int → List Rn → Bool
  | _, [] => true
  | p, r :: l => !(decide (p = some r.1)) && alt (some r.1) l
def Pos (l : List Rn) : Prop := ∀ q ∈ l, 1 ≤ q.2
theorem Pos.nil : Pos [] := fun q h => by cases h
theorem Pos.tail {r : Rn} {l : List Rn} (h : Pos (r :: l)) : Pos l := fun q hq => h q (by simp [hq])
theorem rsum_nonneg : ∀ {l : List Rn}, Pos l → 0 ≤ rsum l
  | [], _ => Int.le_refl _
  | r :: l, h => by
    have := h r (by simp); have := rsum_nonneg h.tail
    simp only [rsum]; omega
theorem rlen_le : ∀ {l : List Rn}, Pos l → ((l.length : Nat) : Int) ≤ rsum l
  | [], _ => Int.le_refl _
  | r :: l, h => by
    have := h r (by simp); have := rlen_le h.tail
    simp only [rsum, List.length_cons]; omega
def addr (l : List Rn) (r : Rn) : List Rn :=
  if r.2 = 0 then l else
  match l.getLast? with
  | none => [r]
  | some q => if q.1 = r.1 then l.dropLast ++ [(q.1, IntKind.wrap .i64 (q.2 + r.2))] else l ++ [r]
structure Rs (l : List Rn) (n : Int) : Prop where
  pos : Pos l
  sum : rsum l = n
  alt : alt none l = true
theorem Rs.nil : Rs [] 0 := ⟨Pos.nil, rfl, rfl⟩
def inRev (most : Int) (l : List Rn) : Bool := l.all fun r => decide (0 ≤ r.1 ∧ r.1 ≤ most)
def grn (most : Int) : Option Int → Int → List Rn → Bool
  | _, left, [] => decide (left = 0)
  | p, left, r :: l => (decide (0 ≤ r.1 ∧ r.1 ≤ most) && (decide (1 ≤ r.2 ∧ r.2 ≤ left) && !(decide (p = some r.1)))) && grn most (some r.1) (left - r.2) l
def goodRuns (l : List Rn) (many most : Int) : Bool := (decide (0 ≤ many ∧ many ≤ 120) && decide (0 ≤ most ∧ most ≤ 60)) && grn most none many l
theorem grn_iff (most : Int) : ∀ (l : List Rn) (p : Option Int) (left : Int), grn most p left l = true ↔ (inRev most l = true ∧ Pos l ∧ rsum l = left ∧ alt p l = true)
  | [], p, left => by
    simp only [grn, decide_eq_true_eq, inRev, List.all_nil, rsum, G.alt, true_and]
    exact ⟨fun h => ⟨Pos.nil, h.symm, trivial⟩, fun h => h.2.1.symm⟩
  | r :: l, p, left => by
    have ih := grn_iff most l (some r.1) (left - r.2)
    simp only [grn, Bool.and_eq_true, decide_eq_true_eq, ih, inRev, List.all_cons, rsum, G.alt]
    constructor
    · rintro ⟨⟨h1, h2, h3⟩, h4, h5, h6, h7⟩
      refine ⟨⟨h1, h4⟩, fun q hq => ?_, by omega, h3, h7⟩
      rcases List.mem_cons.1 hq with rfl | hq
      · exact h2.1
      · exact h5 q hq
    · rintro ⟨⟨h1, h4⟩, h5, h6, h3, h7⟩
      have h8 := h5 r (by simp)
      have h9 := rsum_nonneg h5.tail
      exact ⟨⟨h1, ⟨h8, by omega⟩, h3⟩, h4, h5.tail, by omega, h7⟩
theorem goodRuns_iff {l : List Rn} {many most : Int} : goodRuns l many most = true ↔ ((0 ≤ many ∧ many ≤ 120) ∧ (0 ≤ most ∧ most ≤ 60)) ∧ inRev most l = true ∧ Rs l many := by
  simp only [goodRuns, Bool.and_eq_true, decide_eq_true_eq, grn_iff]
  constructor
  · rintro ⟨h, h1, h2, h3, h4⟩; exact ⟨h, h1, h2, h3, h4⟩
  · rintro ⟨h, h1, h2⟩; exact ⟨h, h1, h2.pos, h2.sum, h2.alt⟩
end Go.V.G

set_option linter.unusedVariables false
set_option linter.unusedSimpArgs false
set_option maxRecDepth 100000
namespace Go.V.G
open Go.V
def idc (n : Int) : List Prt := if n = 0 then [] else [(n, 0, [])]
theorem idc_spec {n : Int} (h0 : 0 ≤ n) (h : n ≤ 120) : good (idc n) = true ∧ atoms (idc n) = List.replicate n.toNat .keep ∧ src (idc n) = n ∧ tgt (idc n) = n := by
  unfold idc
  split
  · rename_i e
    subst e
    exact ⟨rfl, rfl, rfl, rfl⟩
  · rename_i hn
    have hp : 0 < n := by omega
    have hk : kd (n, 0, []) = 1 := by simp [kd, hp]
    refine ⟨?_, ?_, ?_, ?_⟩
    · simp [good, okk, hk, src, tgt, h]
    · simp only [atoms, List.flatMap_cons, List.flatMap_nil, List.append_nil]; exact pa_keep h0
    · simp [src]
    · simp [tgt]
theorem comp_keep : ∀ y : List Atom, comp (List.replicate (nS y) .keep) y = y
  | [] => by simp [nS, comp]
  | .ins b :: y => by rw [nS, comp, comp_keep y]
  | .keep :: y => by rw [nS, List.replicate_succ, comp, comp_keep y]
  | .drop :: y => by rw [nS, List.replicate_succ, comp, comp_keep y]
theorem carryF_keep : ∀ x : List Atom, carryF x (List.replicate (nS x) .keep) = x
  | [] => by simp [nS, carryF]
  | .ins b :: x => by
    have ih := carryF_keep x
    rw [nS]
    cases h : nS x with
    | zero => rw [h] at ih; rw [List.replicate_zero] at ih ⊢; rw [carryF, ih]
    | succ n => rw [h, List.replicate_succ] at ih; rw [List.replicate_succ, carryF, ih]
  | .keep :: x => by rw [nS, List.replicate_succ, carryF, carryF_keep x]
  | .drop :: x => by rw [nS, List.replicate_succ, carryF, carryF_keep x]
theorem good_nS {c : List Prt} (h : good c = true) : nS (atoms c) = (src c).toNat ∧ 0 ≤ src c ∧ src c ≤ 120 ∧ 0 ≤ tgt c ∧ tgt c ≤ 120 ∧ nT (atoms c) = (tgt c).toNat := by
  obtain ⟨h1, h2, h3⟩ := good_spec h
  have hs := okk_some h1
  have := src_nS hs; have := tgt_nT hs
  have := src_nonneg hs; have := tgt_nonneg hs
  omega
theorem composed_id {c : List Prt} (h : good c = true) : composed (idc (src c)) c = c := by
  obtain ⟨q1, q2, q3, q4, q5, q6⟩ := good_nS h
  obtain ⟨i1, i2, i3, i4⟩ := idc_spec q2 q3
  obtain ⟨k1, k2, k3, k4⟩ := composed_spec i1 h i4
  refine norm_unique (k := 0) (j := 0) (good_spec k1).1 (good_spec h).1 ?_
  rw [k2, i2, ← q1, comp_keep]
theorem carried_id {c : List Prt} (h : good c = true) : carried false c (idc (src c)) = c := by
  obtain ⟨q1, q2, q3, q4, q5, q6⟩ := good_nS h
  obtain ⟨i1, i2, i3, i4⟩ := idc_spec q2 q3
  obtain ⟨k1, k2⟩ := carried_spec false h i1 i3.symm
  refine norm_unique (k := 0) (j := 0) k1 (good_spec h).1 ?_
  rw [k2, i2, ← q1]
  exact carryF_keep _
def chn : Int → List (List Prt) → Bool
  | _, [] => true
  | n, c :: cs => (good c && decide (src c = n)) && chn (tgt c) cs
def endl : Int → List (List Prt) → Int
  | n, [] => n
  | _, c :: cs => endl (tgt c) cs
theorem chn_append : ∀ (n : Int) (a b : List (List Prt)), chn n (a ++ b) = (chn n a && chn (endl n a) b)
  | _, [], b => by simp [chn, endl]
  | n, c :: a, b => by simp only [List.cons_append, chn, endl, chn_append (tgt c) a b, Bool.and_assoc]
theorem endl_append : ∀ (n : Int) (a b : List (List Prt)), endl n (a ++ b) = endl (endl n a) b
  | _, [], b => rfl
  | n, c :: a, b => endl_append (tgt c) a b
theorem chn_cons {n : Int} {c : List Prt} {cs : List (List Prt)} (h : chn n (c :: cs) = true) : good c = true ∧ src c = n ∧ chn (tgt c) cs = true := by
  simp only [chn, Bool.and_eq_true, decide_eq_true_eq] at h
  exact ⟨h.1.1, h.1.2, h.2⟩
theorem endl_in : ∀ {n : Int} {cs : List (List Prt)}, chn n cs = true → 0 ≤ n → n ≤ 120 → 0 ≤ endl n cs ∧ endl n cs ≤ 120
  | n, [], _, h0, h1 => ⟨h0, h1⟩
  | n, c :: cs, h, h0, h1 => by
    obtain ⟨k1, k2, k3⟩ := chn_cons h
    obtain ⟨_, _, _, q4, q5, _⟩ := good_nS k1
    exact endl_in (n := tgt c) k3 q4 q5
theorem chn_mem : ∀ {n : Int} {cs : List (List Prt)}, chn n cs = true → ∀ c ∈ cs, good c = true
  | n, c :: cs, h, x, hx => by
    obtain ⟨k1, k2, k3⟩ := chn_cons h
    rcases List.mem_cons.1 hx with rfl | hx
    · exact k1
    · exact chn_mem k3 x hx
theorem chn_take {n : Int} {cs : List (List Prt)} (h : chn n cs = true) (k : Nat) : chn n (cs.take k) = true ∧ chn (endl n (cs.take k)) (cs.drop k) = true := by
  have := chn_append n (cs.take k) (cs.drop k)
  rw [List.take_append_drop, h] at this
  have := this.symm
  rwa [Bool.and_eq_true] at this
def txt (t : List UInt8) (cs : List (List Prt)) : List UInt8 := cs.foldl (fun t c => apply t c) t
theorem apply_len {t : List UInt8} {c : List Prt} (hg : good c = true) (h : ((t.length : Nat) : Int) = src c) : (((apply t c).length : Nat) : Int) = tgt c := by
  obtain ⟨q1, q2, q3, q4, q5, q6⟩ := good_nS hg
  have := ap_len (atoms c) t (by omega)
  unfold apply
  omega
theorem txt_len : ∀ {cs : List (List Prt)} {t : List UInt8}, chn ((t.length : Nat) : Int) cs = true → (((txt t cs).length : Nat) : Int) = endl ((t.length : Nat) : Int) cs
  | [], t, _ => rfl
  | c :: cs, t, h => by
    obtain ⟨k1, k2, k3⟩ := chn_cons h
    have hl := apply_len k1 k2.symm
    show (((txt (apply t c) cs).length : Nat) : Int) = endl (tgt c) cs
    rw [← hl] at k3 ⊢
    exact txt_len k3
def btw (n : Int) (cs : List (List Prt)) : List Prt := cs.foldl (fun a c => composed a c) (idc n)
theorem fold_spec : ∀ {cs : List (List Prt)} {a : List Prt}, good a = true → chn (tgt a) cs = true →
    good (cs.foldl (fun a c => composed a c) a) = true ∧ src (cs.foldl (fun a c => composed a c) a) = src a ∧ tgt (cs.foldl (fun a c => composed a c) a) = endl (tgt a) cs
  | [], a, h, _ => ⟨h, rfl, rfl⟩
  | c :: cs, a, h, hc => by
    obtain ⟨k1, k2, k3⟩ := chn_cons hc
    obtain ⟨q1, q2, q3, q4⟩ := composed_spec h k1 k2.symm
    rw [← q4] at k3
    obtain ⟨r1, r2, r3⟩ := fold_spec q1 k3
    exact ⟨r1, by rw [List.foldl_cons, r2, q3], by rw [List.foldl_cons, r3, q4]; rfl⟩
theorem btw_spec {n : Int} {cs : List (List Prt)} (h : chn n cs = true) (h0 : 0 ≤ n) (h1 : n ≤ 120) : good (btw n cs) = true ∧ src (btw n cs) = n ∧ tgt (btw n cs) = endl n cs := by
  obtain ⟨i1, i2, i3, i4⟩ := idc_spec h0 h1
  obtain ⟨r1, r2, r3⟩ := fold_spec i1 (by rw [i4]; exact h)
  exact ⟨r1, by rw [btw, r2, i3], by rw [btw, r3, i4]⟩
theorem btw_cons {n : Int} {c : List Prt} {cs : List (List Prt)} (h : chn n (c :: cs) = true) : btw n (c :: cs) = cs.foldl (fun a c => composed a c) c := by
  obtain ⟨k1, k2, k3⟩ := chn_cons h
  subst k2
  unfold btw
  rw [List.foldl_cons, composed_id k1]
def goodH (f : Int) (t : List UInt8) (r : List Rn) (cs : List (List Prt)) : Bool :=
  decide (0 ≤ f ∧ f ≤ 60) && (decide (((t.length : Nat) : Int) ≤ 120) && (goodRuns r ((t.length : Nat) : Int) f && (decide (((cs.length : Nat) : Int) ≤ 60 - f) && chn ((t.length : Nat) : Int) cs)))
structure GH (f : Int) (t : List UInt8) (r : List Rn) (cs : List (List Prt)) : Prop where
  hf : 0 ≤ f ∧ f ≤ 60
  ht : ((t.length : Nat) : Int) ≤ 120
  hr : goodRuns r ((t.length : Nat) : Int) f = true
  hn : ((cs.length : Nat) : Int) ≤ 60 - f
  hc : chn ((t.length : Nat) : Int) cs = true
theorem goodH_iff {f : Int} {t : List UInt8} {r : List Rn} {cs : List (List Prt)} : goodH f t r cs = true ↔ GH f t r cs := by
  simp only [goodH, Bool.and_eq_true, decide_eq_true_eq]
  exact ⟨fun ⟨h1, h2, h3, h4, h5⟩ => ⟨h1, h2, h3, h4, h5⟩, fun ⟨h1, h2, h3, h4, h5⟩ => ⟨h1, h2, h3, h4, h5⟩⟩
structure HB (t : List UInt8) (r : List Rn) (cs : List (List Prt)) : Prop where
  ht : t.length ≤ 1099511627776
  hr : r.length ≤ 1099511627776
  hn : cs.length ≤ 1099511627776
  hc : ∀ c ∈ cs, Sm 1099511627776 c
theorem GH.hb {f : Int} {t : List UInt8} {r : List Rn} {cs : List (List Prt)} (h : GH f t r cs) : HB t r cs := by
  have h1 := h.ht; have h2 := h.hn; have h3 := h.hf
  obtain ⟨_, _, h6⟩ := goodRuns_iff.1 h.hr
  have := rlen_le h6.pos
  rw [h6.sum] at this
  exact ⟨by omega, by omega, by omega, fun c hc => (good_sm (chn_mem h.hc c hc)).mono (by omega)⟩
def codeH (f : Int) (t : List UInt8) (r : List Rn) (cs : List (List Prt)) (a b : Int) : Int :=
  if goodH f t r cs = true then (if f ≤ a ∧ a ≤ b ∧ b ≤ f + cs.length then 0 else 2) else 1
end Go.V.G

set_option linter.unusedVariables false
set_option linter.unusedSimpArgs false
set_option maxRecDepth 100000
namespace Go.V.G
open Go.V
def prv (l : List Rn) (i : Nat) : Option Int := if i = 0 then none else (l[i - 1]?).map (·.1)
theorem prv_succ {l : List Rn} {i : Nat} (h : i < l.length) : prv l (i + 1) = some l[i].1 := by simp [prv, List.getElem?_eq_getElem h]
theorem grn_drop {l : List Rn} {i : Nat} (h : i < l.length) (most left : Int) (p : Option Int) : grn most p left (l.drop i) = ((decide (0 ≤ l[i].1 ∧ l[i].1 ≤ most) && (decide (1 ≤ l[i].2 ∧ l[i].2 ≤ left) && !(decide (p = some l[i].1)))) && grn most (some l[i].1) (left - l[i].2) (l.drop (i + 1))) := by
  rw [List.drop_eq_getElem_cons h]; rfl
theorem i_GoodRuns_eq {l : List Rn} (hl : l.length ≤ 1099511627776) (many most : Int) : i_GoodRuns l many most = some (goodRuns l many most) := by
  unfold i_GoodRuns
  refine Ok.eq (Ok.bind (Q := fun v => v = (l, many, most, !(decide (0 ≤ many ∧ many ≤ 120) && decide (0 ≤ most ∧ most ≤ 60)))) ?_ ?_)
  · refine Ok.bind_eq (i_within_eq _ _ _) (Ok.ite (fun h => Ok.mk ?_) fun h => Ok.bind_eq (i_within_eq _ _ _) (Ok.mk ?_))
    · have h' : decide (0 ≤ many ∧ many ≤ 120) = false := by simpa only [Bool.not_eq_true'] using h
      rw [h']; rfl
    · have h' : decide (0 ≤ many ∧ many ≤ 120) = true := by simpa only [Bool.not_eq_true', Bool.not_eq_false] using h
      rw [h', Bool.true_and]
  rintro _ rfl
  dsimp only
  refine Ok.ite (fun hb => Ok.mk ?_) fun hb => ?_
  · have hb' : (decide (0 ≤ many ∧ many ≤ 120) && decide (0 ≤ most ∧ most ≤ 60)) = false := by simpa only [Bool.not_eq_true'] using hb
    unfold goodRuns; rw [hb']; rfl
  have hb' : (decide (0 ≤ many ∧ many ≤ 120) && decide (0 ≤ most ∧ most ≤ 60)) = true := by simpa only [Bool.not_eq_true', Bool.not_eq_false] using hb
  have hg : goodRuns l many most = grn most none many l := by unfold goodRuns; rw [hb', Bool.true_and]
  rw [Bool.and_eq_true, decide_eq_true_eq, decide_eq_true_eq] at hb'
  rw [hg]
  refine Ok.bind (Q := fun r => match r with | .inl y => decide (y.2 = y.1) = grn most none many l | .inr b => b = grn most none many l) ?_ (by rintro (y | b) hr <;> exact Ok.mk hr)
  refine Ok.loop (fun y => y.1 = l ∧ y.2.1 = many ∧ y.2.2.1 = most ∧ (0 ≤ y.2.2.2.1 ∧ y.2.2.2.1 ≤ many) ∧ y.2.2.2.2.1 = l ∧ y.2.2.2.2.2.1 = ((l.length : Nat) : Int) ∧ ∃ i : Nat, y.2.2.2.2.2.2 = ((i : Nat) : Int) ∧ i ≤ l.length ∧ grn most none many l = grn most (prv l i) (many - y.2.2.2.1) (l.drop i))
    (fun y => (((l.length : Nat) : Int) - y.2.2.2.2.2.2).toNat) ⟨rfl, rfl, rfl, ⟨by simp, hb'.1.1⟩, rfl, rfl, 0, rfl, Nat.zero_le _, by simp [prv]⟩ ?_
  rintro ⟨l1, m1, s1, all, l2, n, i'⟩ ⟨e1, e2, e3, ⟨h0, h1⟩, e4, e5, i, e6, hi, hk⟩
  dsimp only at e1 e2 e3 h0 h1 e4 e5 e6 hk
  subst e1 e2 e3 e4 e5 e6
  unfold i_GoodRuns_L1
  dsimp only
  refine Ok.ite (fun hc => ?_) fun hc => ?_
  · have hlt : i < l2.length := by simpa using hc
    have hge : l2[Int.toNat ((i : Nat) : Int)]? = some l2[i] := by simp [hlt]
    refine Ok.yes (by simp) (Ok.bind_eq hge ?_)
    refine Ok.bind (Q := fun v => v = (l2, m1, s1, all, l2, ((l2.length : Nat) : Int), ((i : Nat) : Int), !(decide (0 ≤ l2[i].1 ∧ l2[i].1 ≤ s1) && (decide (1 ≤ l2[i].2 ∧ l2[i].2 ≤ 120) && !(decide (prv l2 i = some l2[i].1)))), l2[i].1, l2[i].2)) ?_ ?_
    · refine Ok.bind_eq (i_within_eq _ _ _) (Ok.ite (fun h => Ok.mk ?_) fun h => Ok.bind_eq (i_within_eq _ _ _) (Ok.ite (fun h2 => Ok.mk ?_) fun h2 => ?_))
      · have h' : decide (0 ≤ l2[i].1 ∧ l2[i].1 ≤ s1) = false := by simpa only [Bool.not_eq_true'] using h
        rw [h']; rfl
      · have h' : decide (1 ≤ l2[i].2 ∧ l2[i].2 ≤ 120) = false := by simpa only [Bool.not_eq_true'] using h2
        rw [h', Bool.false_and, Bool.and_false]; rfl
      · have h' : decide (0 ≤ l2[i].1 ∧ l2[i].1 ≤ s1) = true := by simpa only [Bool.not_eq_true', Bool.not_eq_false] using h
        have h2' : decide (1 ≤ l2[i].2 ∧ l2[i].2 ≤ 120) = true := by simpa only [Bool.not_eq_true', Bool.not_eq_false] using h2
        rw [h', h2', Bool.true_and, Bool.true_and, Bool.not_not]
        refine Ok.ite (fun hp => ?_) fun hp => Ok.mk ?_
        · have hp' : 0 < i := by simpa using hp
          have e : IntKind.wrap .i64 ((i : Int) - 1) = ((i - 1 : Nat) : Int) := by rw [w64 (by omega) (by omega)]; omega
          have hl1 : i - 1 < l2.length := by omega
          refine Ok.yes (by simp [e]) (Ok.bind_eq (r := l2[i - 1]) (by simp [e, List.getElem?_eq_getElem hl1]) (Ok.mk ?_))
          have hne : ¬ i = 0 := by omega
          simp [prv, hne, List.getElem?_eq_getElem hl1]
        · have : i = 0 := by
            have : ¬ (0 : Int) < (i : Int) := by simpa using hp
            omega
          subst this
          simp [prv]
    rintro _ rfl
    dsimp only
    rw [grn_drop hlt] at hk
    refine Ok.ite (fun hbad => Ok.mk ?_) fun hgood => ?_
    · dsimp only
      rw [hk]
      have hbad' : (decide (0 ≤ l2[i].1 ∧ l2[i].1 ≤ s1) && (decide (1 ≤ l2[i].2 ∧ l2[i].2 ≤ 120) && !(decide (prv l2 i = some l2[i].1)))) = false := by simpa only [Bool.not_eq_true'] using hbad
      by_cases q1 : 0 ≤ l2[i].1 ∧ l2[i].1 ≤ s1
      · by_cases q3 : prv l2 i = some l2[i].1
        · simp [q3]
        · have q2 : ¬ (1 ≤ l2[i].2 ∧ l2[i].2 ≤ 120) := by simpa [q1, q3] using hbad'
          have : ¬ (1 ≤ l2[i].2 ∧ l2[i].2 ≤ m1 - all) := by omega
          simp [this]
      · simp [q1]
    · have hgood' : (decide (0 ≤ l2[i].1 ∧ l2[i].1 ≤ s1) && (decide (1 ≤ l2[i].2 ∧ l2[i].2 ≤ 120) && !(decide (prv l2 i = some l2[i].1)))) = true := by simpa only [Bool.not_eq_true', Bool.not_eq_false] using hgood
      rw [Bool.and_eq_true, Bool.and_eq_true, decide_eq_true_eq, decide_eq_true_eq] at hgood'
      obtain ⟨q1, q2, q3⟩ := hgood'
      have w : IntKind.wrap .i64 (all + l2[i].2) = all + l2[i].2 := w64 (by omega) (by omega)
      rw [w]
      refine Ok.ite (fun hbig => Ok.mk ?_) fun hfit => Ok.mk ⟨⟨rfl, rfl, rfl, ?_, rfl, rfl, i + 1, idx_succ hl hlt, by omega, ?_⟩, ?_⟩
      · dsimp only
        have : m1 < all + l2[i].2 := by simpa using hbig
        have : ¬ (1 ≤ l2[i].2 ∧ l2[i].2 ≤ m1 - all) := by omega
        rw [hk]; simp [this]
      · have : ¬ m1 < all + l2[i].2 := by simpa using hfit
        dsimp only; omega
      · have hf : ¬ m1 < all + l2[i].2 := by simpa using hfit
        have q4 : 1 ≤ l2[i].2 ∧ l2[i].2 ≤ m1 - all := by omega
        dsimp only
        rw [hk, prv_succ hlt, q3]
        simp only [q1, q4, and_self, decide_true, Bool.true_and]
        congr 1; omega
      · rw [idx_succ hl hlt]; dsimp only; omega
  · have : i = l2.length := by
      have : ¬ ((i : Int) < ((List.length l2 : Nat) : Int)) := by simpa using hc
      omega
    subst this
    refine Ok.mk ?_
    dsimp only
    rw [hk, List.drop_length, grn]
    exact decide_eq_decide.2 (by omega)
theorem s_GoodRuns_eq {l : List Rn} (hl : l.length ≤ 1099511627776) (many most : Int) : s_GoodRuns l many most = some (goodRuns l many most) := by
  unfold s_GoodRuns
  refine Ok.eq (Ok.bind (Q := fun v => v = (l, many, most, !(decide (0 ≤ many ∧ many ≤ 120) && decide (0 ≤ most ∧ most ≤ 60)))) ?_ ?_)
  · refine Ok.bind_eq (s_In_eq _ _ _) (Ok.ite (fun h => Ok.mk ?_) fun h => Ok.bind_eq (s_In_eq _ _ _) (Ok.mk ?_))
    · have h' : decide (0 ≤ many ∧ many ≤ 120) = false := by simpa only [Bool.not_eq_true'] using h
      rw [h']; rfl
    · have h' : decide (0 ≤ many ∧ many ≤ 120) = true := by simpa only [Bool.not_eq_true', Bool.not_eq_false] using h
      rw [h', Bool.true_and]
  rintro _ rfl
  dsimp only
  refine Ok.ite (fun hb => Ok.mk ?_) fun hb => ?_
  · have hb' : (decide (0 ≤ many ∧ many ≤ 120) && decide (0 ≤ most ∧ most ≤ 60)) = false := by simpa only [Bool.not_eq_true'] using hb
    unfold goodRuns; rw [hb']; rfl
  have hb' : (decide (0 ≤ many ∧ many ≤ 120) && decide (0 ≤ most ∧ most ≤ 60)) = true := by simpa only [Bool.not_eq_true', Bool.not_eq_false] using hb
  have hg : goodRuns l many most = grn most none many l := by unfold goodRuns; rw [hb', Bool.true_and]
  rw [Bool.and_eq_true, decide_eq_true_eq, decide_eq_true_eq] at hb'
  rw [hg]
  refine Ok.bind (Q := fun r => match r with | .inl y => decide (y.2 = y.1) = grn most none many l | .inr b => b = grn most none many l) ?_ (by rintro (y | b) hr <;> exact Ok.mk hr)
  refine Ok.loop (fun y => y.1 = l ∧ y.2.1 = many ∧ y.2.2.1 = most ∧ (0 ≤ y.2.2.2.1 ∧ y.2.2.2.1 ≤ many) ∧ y.2.2.2.2.1 = l ∧ y.2.2.2.2.2.1 = ((l.length : Nat) : Int) ∧ ∃ i : Nat, y.2.2.2.2.2.2 = ((i : Nat) : Int) ∧ i ≤ l.length ∧ grn most none many l = grn most (prv l i) (many - y.2.2.2.1) (l.drop i))
    (fun y => (((l.length : Nat) : Int) - y.2.2.2.2.2.2).toNat) ⟨rfl, rfl, rfl, ⟨by simp, hb'.1.1⟩, rfl, rfl, 0, rfl, Nat.zero_le _, by simp [prv]⟩ ?_
  rintro ⟨l1, m1, s1, all, l2, n, i'⟩ ⟨e1, e2, e3, ⟨h0, h1⟩, e4, e5, i, e6, hi, hk⟩
  dsimp only at e1 e2 e3 h0 h1 e4 e5 e6 hk
  subst e1 e2 e3 e4 e5 e6
  unfold s_GoodRuns_L1
  dsimp only
  have wm : IntKind.wrap .i64 (m1 - all) = m1 - all := w64 (by omega) (by omega)
  rw [wm]
  refine Ok.ite (fun hc => ?_) fun hc => ?_
  · have hlt : i < l2.length := by simpa using hc
    have hge : l2[Int.toNat ((i : Nat) : Int)]? = some l2[i] := by simp [hlt]
    refine Ok.yes (by simp) (Ok.bind_eq hge ?_)
    refine Ok.bind (Q := fun v => v = (l2, m1, s1, all, l2, ((l2.length : Nat) : Int), ((i : Nat) : Int), !(decide (0 ≤ l2[i].1 ∧ l2[i].1 ≤ s1) && (decide (1 ≤ l2[i].2 ∧ l2[i].2 ≤ m1 - all) && !(decide (prv l2 i = some l2[i].1)))), l2[i].1, l2[i].2)) ?_ ?_
    · refine Ok.bind_eq (s_In_eq _ _ _) (Ok.ite (fun h => Ok.mk ?_) fun h => Ok.bind_eq (s_In_eq _ _ _) (Ok.ite (fun h2 => Ok.mk ?_) fun h2 => ?_))
      · have h' : decide (0 ≤ l2[i].1 ∧ l2[i].1 ≤ s1) = false := by simpa only [Bool.not_eq_true'] using h
        rw [h']; rfl
      · have h' : decide (1 ≤ l2[i].2 ∧ l2[i].2 ≤ m1 - all) = false := by simpa only [Bool.not_eq_true'] using h2
        rw [h', Bool.false_and, Bool.and_false]; rfl
      · have h' : decide (0 ≤ l2[i].1 ∧ l2[i].1 ≤ s1) = true := by simpa only [Bool.not_eq_true', Bool.not_eq_false] using h
        have h2' : decide (1 ≤ l2[i].2 ∧ l2[i].2 ≤ m1 - all) = true := by simpa only [Bool.not_eq_true', Bool.not_eq_false] using h2
        rw [h', h2', Bool.true_and, Bool.true_and, Bool.not_not]
        refine Ok.ite (fun hp => ?_) fun hp => Ok.mk ?_
        · have hp' : 0 < i := by simpa using hp
          have e : IntKind.wrap .i64 ((i : Int) - 1) = ((i - 1 : Nat) : Int) := by rw [w64 (by omega) (by omega)]; omega
          have hl1 : i - 1 < l2.length := by omega
          refine Ok.yes (by simp [e]) (Ok.bind_eq (r := l2[i - 1]) (by simp [e, List.getElem?_eq_getElem hl1]) (Ok.mk ?_))
          have hne : ¬ i = 0 := by omega
          simp [prv, hne, List.getElem?_eq_getElem hl1]
        · have : i = 0 := by
            have : ¬ (0 : Int) < (i : Int) := by simpa using hp
            omega
          subst this
          simp [prv]
    rintro _ rfl
    dsimp only
    rw [grn_drop hlt] at hk
    refine Ok.ite (fun hbad => Ok.mk ?_) fun hgood => ?_
    · dsimp only
      rw [hk]
      have hbad' : (decide (0 ≤ l2[i].1 ∧ l2[i].1 ≤ s1) && (decide (1 ≤ l2[i].2 ∧ l2[i].2 ≤ m1 - all) && !(decide (prv l2 i = some l2[i].1)))) = false := by simpa only [Bool.not_eq_true'] using hbad
      rw [hbad', Bool.false_and]
    · have hgood' : (decide (0 ≤ l2[i].1 ∧ l2[i].1 ≤ s1) && (decide (1 ≤ l2[i].2 ∧ l2[i].2 ≤ m1 - all) && !(decide (prv l2 i = some l2[i].1)))) = true := by simpa only [Bool.not_eq_true', Bool.not_eq_false] using hgood
      rw [hgood', Bool.true_and] at hk
      rw [Bool.and_eq_true, Bool.and_eq_true, decide_eq_true_eq, decide_eq_true_eq] at hgood'
      obtain ⟨q1, q2, q3⟩ := hgood'
      have w : IntKind.wrap .i64 (all + l2[i].2) = all + l2[i].2 := w64 (by omega) (by omega)
      rw [w]
      refine Ok.mk ⟨⟨rfl, rfl, rfl, by dsimp only; omega, rfl, rfl, i + 1, idx_succ hl hlt, by omega, ?_⟩, ?_⟩
      · dsimp only
        rw [hk, prv_succ hlt]
        congr 1; omega
      · rw [idx_succ hl hlt]; dsimp only; omega
  · have : i = l2.length := by
      have : ¬ ((i : Int) < ((List.length l2 : Nat) : Int)) := by simpa using hc
      omega
    subst this
    refine Ok.mk ?_
    dsimp only
    rw [hk, List.drop_length, grn]
    exact decide_eq_decide.2 (by omega)
theorem room8 {n m b : Nat} (h : n + m ≤ 1099511627776) (hb : b ≤ 64) : roomFor (n + m) b = true := by
  simp only [roomFor, decide_eq_true_eq]
  have : (n + m) * b ≤ 1099511627776 * 64 := Nat.mul_le_mul h hb
  omega
theorem s_l9Add_eq {l : List Rn} (hl : l.length ≤ 1000000000) (v n : Int) : s_l9Add l v n = some (addr l (v, n)) := by
  unfold s_l9Add addr
  by_cases h0 : n = 0
  · simp [h0]
  · rw [if_neg (by simpa using h0), if_neg h0]
    have hroom : roomFor (List.length l + List.length ([(v, n)] : List (Int × Int))) 16 = true := room8 (by simp; omega) (by omega)
    cases hg : l.getLast? with
    | none =>
      obtain rfl : l = [] := by simpa using hg
      simp [roomFor]
    | some q =>
      obtain ⟨m, hm, hq, hset⟩ := len_last hg
      have e1 : IntKind.wrap .i64 (((l.length : Nat) : Int) - 1) = ((m : Nat) : Int) := by rw [hm, w64 (by omega) (by omega)]; omega
      have hpos : (0 : Int) < ((l.length : Nat) : Int) := by omega
      have hlt : ((m : Nat) : Int) < ((l.length : Nat) : Int) := by omega
      have hge : (0 : Int) ≤ ((m : Nat) : Int) := by omega
      by_cases hk : q.1 = v
      · simp only [e1, hpos, hlt, hge, decide_true, if_true, Int.toNat_natCast, Nat.zero_add, hq, Option.bind_some, hk, hset]
      · simp only [e1, hpos, hlt, hge, decide_true, if_true, Int.toNat_natCast, Nat.zero_add, hq, Option.bind_some, hk, decide_false, if_false, Bool.false_eq_true, hroom]
end Go.V.G

set_option linter.unusedVariables false
set_option linter.unusedSimpArgs false
set_option maxRecDepth 100000
namespace Go.V.G
open Go.V
theorem clone_part {r : List Prt} (h : r.length ≤ 1099511627776) : slices_Clone_loop_example_g00083_impl_Part_loop_example_g00083_impl_Part r = some r := by
  unfold slices_Clone_loop_example_g00083_impl_Part_loop_example_g00083_impl_Part
  have hr : roomFor (List.length ([] : List Prt) + List.length r) 32 = true := room8 (by simpa using h) (by omega)
  cases r with
  | nil => simp [bothQ, roomFor]
  | cons a x => simp only [bothQ, List.isEmpty_cons, Bool.false_eq_true, if_false, Option.bind_some, hr, if_true, List.nil_append]
theorem chn_drop {cs : List (List Prt)} {i : Nat} (h : i < cs.length) (n : Int) : chn n (cs.drop i) = ((good cs[i] && decide (src cs[i] = n)) && chn (tgt cs[i]) (cs.drop (i + 1))) := by
  rw [List.drop_eq_getElem_cons h]; rfl
theorem i_chained_eq {cs : List (List Prt)} (hn : cs.length ≤ 1099511627776) (hs : ∀ c ∈ cs, Sm 1099511627776 c) (n : Int) : i_chained n cs = some (chn n cs) := by
  unfold i_chained
  refine Ok.eq (Ok.bind (Q := fun r => match r with | .inl _ => chn n cs = true | .inr b => b = chn n cs) ?_ (by
    rintro (y | b) hr
    · exact Ok.mk hr.symm
    · exact Ok.mk hr))
  refine Ok.loop (fun y => y.2.1 = cs ∧ y.2.2.1 = ((cs.length : Nat) : Int) ∧ ∃ i : Nat, y.2.2.2 = ((i : Nat) : Int) ∧ i ≤ cs.length ∧ chn n cs = chn y.1 (cs.drop i)) (fun y => (((cs.length : Nat) : Int) - y.2.2.2).toNat) ⟨rfl, rfl, 0, rfl, Nat.zero_le _, rfl⟩ ?_
  rintro ⟨m, cs', l, i'⟩ ⟨e1, e2, i, e3, hi, hk⟩
  dsimp only at e1 e2 e3 hk
  subst e1 e2 e3
  unfold i_chained_L1
  dsimp only
  refine Ok.ite (fun hc => ?_) fun hc => ?_
  · have hlt : i < cs'.length := by simpa using hc
    have hge : cs'[Int.toNat ((i : Nat) : Int)]? = some cs'[i] := by simp [hlt]
    refine Ok.yes (by simp) (Ok.bind_eq hge (Ok.bind_eq (i_LengthsOf_eq (hs _ (List.getElem_mem hlt)) (by omega)) ?_))
    rw [chn_drop hlt] at hk
    unfold lensOf
    cases hg : good cs'[i] with
    | false =>
      rw [hg] at hk
      refine Ok.bind_eq (r := (0, cs', ((cs'.length : Nat) : Int), ((i : Nat) : Int), true)) (by simp) (Ok.yes rfl (Ok.mk ?_))
      dsimp only; rw [hk]; simp
    | true =>
      rw [hg] at hk
      refine Ok.bind_eq (r := (tgt cs'[i], cs', ((cs'.length : Nat) : Int), ((i : Nat) : Int), decide (¬ src cs'[i] = m))) (by simp) ?_
      dsimp only
      refine Ok.ite (fun hb => Ok.mk ?_) fun hb => Ok.mk ⟨⟨rfl, rfl, i + 1, idx_succ hn hlt, by omega, ?_⟩, ?_⟩
      · have : ¬ src cs'[i] = m := by simpa using hb
        dsimp only; rw [hk]; simp [this]
      · have : src cs'[i] = m := by simpa using hb
        dsimp only; rw [hk]; simp [this]
      · rw [idx_succ hn hlt]; dsimp only; omega
  · have : i = cs'.length := by
      have : ¬ ((i : Int) < ((List.length cs' : Nat) : Int)) := by simpa using hc
      omega
    subst this
    refine Ok.mk ?_
    dsimp only
    rw [hk, List.drop_length]; rfl
theorem i_GoodHistory_eq {t : List UInt8} {r : List Rn} {cs : List (List Prt)} (h : HB t r cs) (f : Int) : i_GoodHistory f t r cs = some (goodH f t r cs) := by
  unfold i_GoodHistory goodH
  refine Ok.eq (Ok.bind (Q := fun b => b = _) ?_ (fun b hb => Ok.mk hb))
  refine Ok.bind_eq (i_within_eq _ _ _) (Ok.ite (fun q1 => ?_) fun q1 => Ok.mk ?_)
  · have q1' : 0 ≤ f ∧ f ≤ 60 := by simpa using q1
    rw [show decide (0 ≤ f ∧ f ≤ 60) = true from q1, Bool.true_and]
    refine Ok.ite (fun q2 => Ok.bind_eq (i_GoodRuns_eq h.hr _ _) (Ok.ite (fun q3 => ?_) fun q3 => Ok.mk ?_)) fun q2 => Ok.mk ?_
    · rw [show decide (((t.length : Nat) : Int) ≤ 120) = true from q2, q3, Bool.true_and, Bool.true_and]
      rw [w64 (show -9223372036854775808 ≤ 60 - f by omega) (by omega)]
      refine Ok.ite (fun q4 => Ok.bind_eq (i_chained_eq h.hn h.hc _) (Ok.mk ?_)) fun q4 => Ok.mk ?_
      · rw [q4, Bool.true_and]
      · have : decide (((cs.length : Nat) : Int) ≤ 60 - f) = false := by simpa using q4
        rw [this, Bool.false_and]
    · have : goodRuns r ((t.length : Nat) : Int) f = false := by simpa using q3
      rw [this]; simp
    · have : decide (((t.length : Nat) : Int) ≤ 120) = false := by simpa using q2
      rw [this]; simp
  · have : decide (0 ≤ f ∧ f ≤ 60) = false := by simpa using q1
    rw [this]; simp
theorem s_GoodHistory_eq {t : List UInt8} {r : List Rn} {cs : List (List Prt)} (h : HB t r cs) (f : Int) : s_GoodHistory f t r cs = some (goodH f t r cs) := by
  have hn := h.hn
  unfold s_GoodHistory
  refine Ok.eq (Ok.bind (Q := fun v => v = (!(decide (0 ≤ f ∧ f ≤ 60) && (decide (((t.length : Nat) : Int) ≤ 120) && (goodRuns r ((t.length : Nat) : Int) f && decide (((cs.length : Nat) : Int) ≤ 60 - f)))), f, t, r, cs)) ?_ ?_)
  · refine Ok.bind_eq (s_In_eq _ _ _) (Ok.ite (fun q1 => Ok.mk ?_) fun q1 => Ok.ite (fun q2 => Ok.mk ?_) fun q2 => Ok.bind_eq (s_GoodRuns_eq h.hr _ _) (Ok.ite (fun q3 => Ok.mk ?_) fun q3 => Ok.mk ?_))
    · have : decide (0 ≤ f ∧ f ≤ 60) = false := by simpa only [Bool.not_eq_true'] using q1
      rw [this]; rfl
    · have : ¬ ((t.length : Nat) : Int) ≤ 120 := by have : (120 : Int) < ((t.length : Nat) : Int) := by simpa using q2
                                                    omega
      simp [this]
    · have : goodRuns r ((t.length : Nat) : Int) f = false := by simpa only [Bool.not_eq_true'] using q3
      rw [this]; simp
    · have g1 : 0 ≤ f ∧ f ≤ 60 := by simpa using q1
      have g2 : ((t.length : Nat) : Int) ≤ 120 := by
        have : ¬ (120 : Int) < ((t.length : Nat) : Int) := by simpa using q2
        omega
      have g3 : goodRuns r ((t.length : Nat) : Int) f = true := by simpa only [Bool.not_eq_true', Bool.not_eq_false] using q3
      rw [w64 (show -9223372036854775808 ≤ 60 - f by omega) (by omega), g3]
      simp only [g1, and_self, decide_true, g2, Bool.true_and]
      congr 1
      by_cases hx : 60 - f < ((cs.length : Nat) : Int)
      · have : ¬ ((cs.length : Nat) : Int) ≤ 60 - f := by omega
        simp [hx, this]
      · have : ((cs.length : Nat) : Int) ≤ 60 - f := by omega
        simp [hx, this]
  rintro _ rfl
  dsimp only
  have split : goodH f t r cs = ((decide (0 ≤ f ∧ f ≤ 60) && (decide (((t.length : Nat) : Int) ≤ 120) && (goodRuns r ((t.length : Nat) : Int) f && decide (((cs.length : Nat) : Int) ≤ 60 - f)))) && chn ((t.length : Nat) : Int) cs) := by
    unfold goodH; simp only [Bool.and_assoc]
  rw [split]
  refine Ok.ite (fun hb => Ok.mk ?_) fun hb => ?_
  · have : (decide (0 ≤ f ∧ f ≤ 60) && (decide (((t.length : Nat) : Int) ≤ 120) && (goodRuns r ((t.length : Nat) : Int) f && decide (((cs.length : Nat) : Int) ≤ 60 - f)))) = false := by simpa only [Bool.not_eq_true'] using hb
    rw [this]; rfl
  have hb' : (decide (0 ≤ f ∧ f ≤ 60) && (decide (((t.length : Nat) : Int) ≤ 120) && (goodRuns r ((t.length : Nat) : Int) f && decide (((cs.length : Nat) : Int) ≤ 60 - f)))) = true := by simpa only [Bool.not_eq_true', Bool.not_eq_false] using hb
  rw [hb', Bool.true_and]
  have ht : ((t.length : Nat) : Int) ≤ 120 := by simp only [Bool.and_eq_true, decide_eq_true_eq] at hb'; exact hb'.2.1
  refine Ok.bind (Q := fun r => match r with | .inl _ => chn ((t.length : Nat) : Int) cs = true | .inr b => b = chn ((t.length : Nat) : Int) cs) ?_ (by
    rintro (y | b) hr
    · exact Ok.mk hr.symm
    · exact Ok.mk hr)
  refine Ok.loop (fun y => y.2.1 = cs ∧ y.2.2.1 = ((cs.length : Nat) : Int) ∧ ∃ i : Nat, y.2.2.2 = ((i : Nat) : Int) ∧ i ≤ cs.length ∧ chn ((t.length : Nat) : Int) cs = chn y.1 (cs.drop i)) (fun y => (((cs.length : Nat) : Int) - y.2.2.2).toNat) ⟨rfl, rfl, 0, rfl, Nat.zero_le _, rfl⟩ ?_
  rintro ⟨m, cs', l, i'⟩ ⟨e1, e2, i, e3, hi, hk⟩
  dsimp only at e1 e2 e3 hk
  subst e1 e2 e3
  unfold s_GoodHistory_L1
  dsimp only
  refine Ok.ite (fun hc => ?_) fun hc => ?_
  · have hlt : i < cs'.length := by simpa using hc
    have hge : cs'[Int.toNat ((i : Nat) : Int)]? = some cs'[i] := by simp [hlt]
    have sm := h.hc _ (List.getElem_mem hlt)
    refine Ok.yes (by simp) (Ok.bind_eq hge ?_)
    rw [chn_drop hlt] at hk
    cases hg : good cs'[i] with
    | false =>
      rw [hg] at hk
      refine Ok.bind_eq (r := (cs', ((cs'.length : Nat) : Int), ((i : Nat) : Int), true, cs'[i])) (by rw [s_Good_eq sm (by omega), hg]; rfl) (Ok.yes rfl (Ok.mk ?_))
      dsimp only; rw [hk]; simp
    | true =>
      rw [hg] at hk
      have ss := okk_some (good_spec hg).1
      have g2 := (good_spec hg).2
      refine Ok.bind_eq (r := (cs', ((cs'.length : Nat) : Int), ((i : Nat) : Int), decide (¬ src cs'[i] = m), cs'[i])) (by rw [s_Good_eq sm (by omega), hg, Option.bind_some, if_neg (by simp), s_Source_eq sm (by omega) ss (by omega)]; rfl) ?_
      dsimp only
      refine Ok.ite (fun hb => Ok.mk ?_) fun hb => Ok.bind_eq (s_Target_eq sm (by omega) ss (by omega)) (Ok.mk ⟨⟨rfl, rfl, i + 1, idx_succ hn hlt, by omega, ?_⟩, ?_⟩)
      · have : ¬ src cs'[i] = m := by simpa using hb
        dsimp only; rw [hk]; simp [this]
      · have : src cs'[i] = m := by simpa using hb
        dsimp only; rw [hk]; simp [this]
      · rw [idx_succ hn hlt]; dsimp only; omega
  · have : i = cs'.length := by
      have : ¬ ((i : Int) < ((List.length cs' : Nat) : Int)) := by simpa using hc
      omega
    subst this
    refine Ok.mk ?_
    dsimp only
    rw [hk, List.drop_length]; rfl
theorem i_code_eq {t : List UInt8} {r : List Rn} {cs : List (List Prt)} (h : HB t r cs) (f a b : Int) : i_History_code f t r cs a b = some (codeH f t r cs a b) := by
  unfold i_History_code codeH
  rw [i_GoodHistory_eq h, Option.bind_some]
  cases hg : goodH f t r cs with
  | false => simp
  | true =>
    have g := goodH_iff.1 hg
    have := g.hf; have := g.hn
    have w : IntKind.wrap .i64 (f + ((cs.length : Nat) : Int)) = f + ((cs.length : Nat) : Int) := w64 (by omega) (by omega)
    simp only [Bool.not_true, Bool.false_eq_true, if_false, if_true, i_History_head, Option.bind_some, w]
    by_cases h1 : a < f
    · have : ¬ (f ≤ a ∧ a ≤ b ∧ b ≤ f + ((cs.length : Nat) : Int)) := by omega
      simp [h1, this]
    · by_cases h2 : b < a
      · have : ¬ (f ≤ a ∧ a ≤ b ∧ b ≤ f + ((cs.length : Nat) : Int)) := by omega
        simp [h1, h2, this]
      · by_cases h3 : f + ((cs.length : Nat) : Int) < b
        · have : ¬ (f ≤ a ∧ a ≤ b ∧ b ≤ f + ((cs.length : Nat) : Int)) := by omega
          simp [h1, h2, h3, this]
        · have : (f ≤ a ∧ a ≤ b ∧ b ≤ f + ((cs.length : Nat) : Int)) := by omega
          simp [h1, h2, h3, this]
theorem s_range_eq {t : List UInt8} {r : List Rn} {cs : List (List Prt)} (h : HB t r cs) (f a b : Int) : s_l10Range f t r cs a b = some (codeH f t r cs a b) := by
  unfold s_l10Range codeH
  rw [s_GoodHistory_eq h, Option.bind_some]
  cases hg : goodH f t r cs with
  | false => simp
  | true =>
    have g := goodH_iff.1 hg
    have := g.hf; have := g.hn
    have w : IntKind.wrap .i64 (f + ((cs.length : Nat) : Int)) = f + ((cs.length : Nat) : Int) := w64 (by omega) (by omega)
    simp only [Bool.not_true, Bool.false_eq_true, if_false, if_true, s_l10Head, Option.bind_some, w, s_In_eq]
    by_cases h1 : f ≤ a ∧ a ≤ b
    · by_cases h3 : f + ((cs.length : Nat) : Int) < b
      · have : ¬ (f ≤ a ∧ a ≤ b ∧ b ≤ f + ((cs.length : Nat) : Int)) := by omega
        simp [h1, h3, this]
      · have : (f ≤ a ∧ a ≤ b ∧ b ≤ f + ((cs.length : Nat) : Int)) := by omega
        simp [h1, h3, this]
    · have : ¬ (f ≤ a ∧ a ≤ b ∧ b ≤ f + ((cs.length : Nat) : Int)) := by omega
      simp [h1, this]
theorem s_apply_loop : s_ApplyChange_L1 = i_apply_L1 := rfl
theorem s_apply_eq {c : List Prt} (hg : good c = true) {t : List UInt8} (ht : ((t.length : Nat) : Int) = src c) : s_ApplyChange t c = some (apply t c, true) := by
  have hs := okk_some (good_spec hg).1
  have sm := good_sm hg
  have sle := (good_spec hg).2.1
  have ha := i_apply_eq hg ht
  unfold i_apply at ha
  rw [Option.bind_eq_some_iff] at ha
  obtain ⟨z, hz, he⟩ := ha
  obtain rfl : z = apply t c := Option.some.inj he
  unfold s_ApplyChange
  rw [s_Good_eq sm (by omega), hg, Option.bind_some, if_neg (by simp), s_Source_eq sm (by omega) hs (by omega), Option.bind_some, Option.bind_some, if_neg (by simp [ht]), s_apply_loop]
  rw [hz]; rfl
theorem txt_take {t : List UInt8} {cs : List (List Prt)} {i : Nat} (h : i < cs.length) : txt t (cs.take (i + 1)) = apply (txt t (cs.take i)) cs[i] := by
  unfold txt; rw [List.take_succ_eq_append_getElem h, List.foldl_append]; rfl
theorem chn_at {n : Int} {cs : List (List Prt)} (h : chn n cs = true) {i : Nat} (hi : i < cs.length) : good cs[i] = true ∧ src cs[i] = endl n (cs.take i) ∧ endl n (cs.take (i + 1)) = tgt cs[i] := by
  have h2 := (chn_take h i).2
  rw [List.drop_eq_getElem_cons hi] at h2
  obtain ⟨k1, k2, k3⟩ := chn_cons h2
  refine ⟨k1, k2, ?_⟩
  rw [List.take_succ_eq_append_getElem hi, endl_append]; rfl
theorem i_text_loop {t : List UInt8} {cs : List (List Prt)} (hn : cs.length ≤ 1099511627776) (hc : chn ((t.length : Nat) : Int) cs = true) : loopG i_History_text_L1 (t, cs, ((cs.length : Nat) : Int), 0) = some (txt t cs) := by
  have := loop_run i_History_text_L1 (fun i => (txt t (cs.take i), cs, ((cs.length : Nat) : Int), ((i : Nat) : Int))) cs.length (txt t cs) (by
    intro i hi
    have hlt : ((i : Nat) : Int) < ((cs.length : Nat) : Int) := by omega
    obtain ⟨k1, k2, k3⟩ := chn_at hc hi
    have hl := txt_len (chn_take hc i).1
    unfold i_History_text_L1
    simp only [hlt, decide_true, if_true, show (0 : Int) ≤ ((i : Nat) : Int) from by omega, Int.toNat_natCast, List.getElem?_eq_getElem hi, Option.bind_some, i_apply_eq k1 (by rw [hl, k2]), idx_succ hn hi, txt_take hi]) (by simp [i_History_text_L1])
  simpa [txt] using this
theorem s_text_loop {t : List UInt8} {cs : List (List Prt)} (hn : cs.length ≤ 1099511627776) (hc : chn ((t.length : Nat) : Int) cs = true) : loopG s_l10Text_L1 (t, cs, ((cs.length : Nat) : Int), 0) = some (txt t cs) := by
  have := loop_run s_l10Text_L1 (fun i => (txt t (cs.take i), cs, ((cs.length : Nat) : Int), ((i : Nat) : Int))) cs.length (txt t cs) (by
    intro i hi
    have hlt : ((i : Nat) : Int) < ((cs.length : Nat) : Int) := by omega
    obtain ⟨k1, k2, k3⟩ := chn_at hc hi
    have hl := txt_len (chn_take hc i).1
    unfold s_l10Text_L1
    simp only [hlt, decide_true, if_true, show (0 : Int) ≤ ((i : Nat) : Int) from by omega, Int.toNat_natCast, List.getElem?_eq_getElem hi, Option.bind_some, s_apply_eq k1 (by rw [hl, k2]), idx_succ hn hi, txt_take hi]) (by simp [s_l10Text_L1])
  simpa [txt] using this
section
variable {f : Int} {t : List UInt8} {r : List Rn} {cs : List (List Prt)}
theorem i_text_eq (g : GH f t r cs) {x : Int} (h1 : f ≤ x) (h2 : x ≤ f + cs.length) : i_History_text f t r cs x = some (txt t (cs.take (x - f).toNat)) := by
  have := g.hf; have := g.hn
  have w : IntKind.wrap .i64 (x - f) = x - f := w64 (by omega) (by omega)
  have hl := i_text_loop (cs := cs.take (x - f).toNat) (by rw [List.length_take]; omega) (chn_take g.hc _).1
  unfold i_History_text
  simp only [w, Int.le_refl, decide_true, if_true, show (0 : Int) ≤ x - f from by omega, show x - f ≤ ((cs.length : Nat) : Int) from by omega, Int.toNat_zero, List.drop_zero, Nat.sub_zero]
  rw [hl]; rfl
theorem s_text_eq (g : GH f t r cs) {x : Int} (h1 : f ≤ x) (h2 : x ≤ f + cs.length) : s_l10Text f t r cs x = some (txt t (cs.take (x - f).toNat)) := by
  have := g.hf; have := g.hn
  have w : IntKind.wrap .i64 (x - f) = x - f := w64 (by omega) (by omega)
  have hl := s_text_loop (cs := cs.take (x - f).toNat) (by rw [List.length_take]; omega) (chn_take g.hc _).1
  unfold s_l10Text
  simp only [w, Int.le_refl, decide_true, if_true, show (0 : Int) ≤ x - f from by omega, show x - f ≤ ((cs.length : Nat) : Int) from by omega, Int.toNat_zero, List.drop_zero, Nat.sub_zero]
  rw [hl]; rfl
theorem text_in (g : GH f t r cs) (k : Nat) : (((txt t (cs.take k)).length : Nat) : Int) = endl ((t.length : Nat) : Int) (cs.take k) ∧ 0 ≤ endl ((t.length : Nat) : Int) (cs.take k) ∧ endl ((t.length : Nat) : Int) (cs.take k) ≤ 120 :=
  ⟨txt_len (chn_take g.hc k).1, endl_in (chn_take g.hc k).1 (by omega) g.ht⟩
end
end Go.V.G

set_option linter.unusedVariables false
set_option linter.unusedSimpArgs false
set_option maxRecDepth 100000
namespace Go.V.G
open Go.V
section
variable {α : Type}
def wsum (w : α → Nat) : List α → Nat
  | [] => 0
  | x :: xs => w x + wsum w xs
end
end Go.V.G

set_option linter.unusedVariables false
set_option linter.unusedSimpArgs false
set_option maxRecDepth 100000
namespace Go.V.G
open Go.V
def fit_RunS (xs : List (Int × Int)) : Prop := xs.length ≤ maxLen
def w_RunS (xs : List (Int × Int)) : Nat := xs.length
def fit_PartS (xs : List (Int × (Int × List UInt8))) : Prop := xs.length ≤ maxLen ∧ ∀ x ∈ xs, x.2.2.length ≤ maxLen
def w_Part (x : Int × (Int × List UInt8)) : Nat := x.2.2.length
def w_PartS (xs : List (Int × (Int × List UInt8))) : Nat := xs.length + wsum w_Part xs
def fit_ChangeS (xs : List (List (Int × (Int × List UInt8)))) : Prop := xs.length ≤ maxLen ∧ ∀ x ∈ xs, fit_PartS x
def w_ChangeS (xs : List (List (Int × (Int × List UInt8)))) : Nat := xs.length + wsum w_PartS xs
end Go.V.G

set_option linter.unusedVariables false
set_option linter.unusedSimpArgs false
set_option maxRecDepth 100000
namespace Go.V.G
open Go.V
theorem n2 : ((2 : Nat) : Int) = 2 := rfl
theorem n3 : ((3 : Nat) : Int) = 3 := rfl
abbrev Hst := Int × (List UInt8 × (List (Int × Int) × List (List (Int × (Int × List UInt8)))))
def w_History (h : Hst) : Nat := h.2.1.length + w_RunS h.2.2.1 + w_ChangeS h.2.2.2
end Go.V.G

set_option linter.unusedVariables false
set_option linter.unusedSimpArgs false
set_option maxRecDepth 100000
namespace Go.V.G
open Go.V
structure FitP (c : List Prt) : Prop where
  l : fit_PartS c
  i : ∀ p ∈ c, I64 p.1 ∧ I64 p.2.1
structure FitH (t : List UInt8) (r : List Rn) (cs : List (List Prt)) : Prop where
  ht : t.length ≤ maxLen
  hr : fit_RunS r
  hc : fit_ChangeS cs
  hi : ∀ c ∈ cs, ∀ p ∈ c, I64 p.1 ∧ I64 p.2.1
theorem psum_w : ∀ c : List Prt, w_PartS c = c.length + psum c
  | [] => rfl
  | p :: c => by
    have ih := psum_w c
    simp only [w_PartS, wsum, w_Part, psum, List.length_cons] at ih ⊢
    omega
theorem wsum_le {α : Type} {w : α → Nat} {B : Nat} : ∀ {xs : List α}, (∀ x ∈ xs, w x ≤ B) → wsum w xs ≤ xs.length * B
  | [], _ => by simp [wsum]
  | x :: xs, h => by
    have ih := wsum_le (xs := xs) fun y hy => h y (by simp [hy])
    have := h x (by simp)
    simp only [wsum, List.length_cons, Nat.succ_mul]; omega
theorem w_good {c : List Prt} (h : good c = true) : w_PartS c ≤ 480 := by
  have := good_sm h
  have := this.len; have := (good_sm h).put
  rw [psum_w]; omega
theorem w_goods {cs : List (List Prt)} (h : ∀ c ∈ cs, good c = true) (hn : cs.length ≤ 1000) : w_ChangeS cs ≤ 1000000 := by
  have := wsum_le (w := w_PartS) (B := 480) fun c hc => w_good (h c hc)
  unfold w_ChangeS
  omega
theorem w_runs {l : List Rn} {n m : Int} (h : goodRuns l n m = true) : w_RunS l ≤ 120 := by
  obtain ⟨h1, _, h6⟩ := goodRuns_iff.1 h
  have := rlen_le h6.pos
  rw [h6.sum] at this
  unfold w_RunS
  omega
theorem GH.w {f : Int} {t : List UInt8} {r : List Rn} {cs : List (List Prt)} (g : GH f t r cs) : w_History (f, t, r, cs) ≤ 2000000 := by
  have := g.ht; have := g.hn; have := g.hf
  have h1 := w_goods (chn_mem g.hc) (by omega)
  have h2 := w_runs g.hr
  unfold w_History
  dsimp only
  omega
theorem codeH_zero {f a b : Int} {t : List UInt8} {r : List Rn} {cs : List (List Prt)} (h : codeH f t r cs a b = 0) : GH f t r cs ∧ f ≤ a ∧ a ≤ b ∧ b ≤ f + cs.length := by
  unfold codeH at h
  split at h
  · rename_i hg
    split at h
    · rename_i hx; exact ⟨goodH_iff.1 hg, hx⟩
    · cases h
  · cases h
end Go.V.G

set_option linter.unusedVariables false
set_option linter.unusedSimpArgs false
set_option maxRecDepth 100000
namespace Go.V.G
open Go.V
abbrev fcomp (a : List Prt) (cs : List (List Prt)) : List Prt := cs.foldl (fun a c => composed a c) a
theorem fcomp_take {a : List Prt} {cs : List (List Prt)} {i : Nat} (h : i < cs.length) : fcomp a (cs.take (i + 1)) = composed (fcomp a (cs.take i)) cs[i] := by
  unfold fcomp; rw [List.take_succ_eq_append_getElem h, List.foldl_append]; rfl
theorem fcomp_at {a : List Prt} {cs : List (List Prt)} (ha : good a = true) (hc : chn (tgt a) cs = true) {i : Nat} (hi : i < cs.length) :
    good (fcomp a (cs.take i)) = true ∧ good cs[i] = true ∧ tgt (fcomp a (cs.take i)) = src cs[i] := by
  obtain ⟨k1, k2, k3⟩ := chn_at hc hi
  obtain ⟨r1, r2, r3⟩ := fold_spec ha (chn_take hc i).1
  exact ⟨r1, k1, by rw [r3, k2]⟩
theorem i_comp_loop {a : List Prt} {cs : List (List Prt)} (hn : cs.length ≤ 1099511627776) (ha : good a = true) (hc : chn (tgt a) cs = true) : loopG i_composed_L1 (a, cs, ((cs.length : Nat) : Int), 0) = some (fcomp a cs) := by
  have := loop_run i_composed_L1 (fun i => (fcomp a (cs.take i), cs, ((cs.length : Nat) : Int), ((i : Nat) : Int))) cs.length (fcomp a cs) (by
    intro i hi
    have hlt : ((i : Nat) : Int) < ((cs.length : Nat) : Int) := by omega
    obtain ⟨k1, k2, k3⟩ := fcomp_at ha hc hi
    unfold i_composed_L1
    simp only [hlt, decide_true, if_true, show (0 : Int) ≤ ((i : Nat) : Int) from by omega, Int.toNat_natCast, List.getElem?_eq_getElem hi, Option.bind_some, i_compose_eq k1 k2 k3, idx_succ hn hi, fcomp_take hi]) (by simp [i_composed_L1])
  simpa using this
theorem s_comp_loop {a : List Prt} {cs : List (List Prt)} (hn : cs.length ≤ 1099511627776) (ha : good a = true) (hc : chn (tgt a) cs = true) : loopG s_l10Between_L1 (a, cs, ((cs.length : Nat) : Int), 0) = some (fcomp a cs) := by
  have := loop_run s_l10Between_L1 (fun i => (fcomp a (cs.take i), cs, ((cs.length : Nat) : Int), ((i : Nat) : Int))) cs.length (fcomp a cs) (by
    intro i hi
    have hlt : ((i : Nat) : Int) < ((cs.length : Nat) : Int) := by omega
    obtain ⟨k1, k2, k3⟩ := fcomp_at ha hc hi
    unfold s_l10Between_L1
    simp only [hlt, decide_true, if_true, show (0 : Int) ≤ ((i : Nat) : Int) from by omega, Int.toNat_natCast, List.getElem?_eq_getElem hi, Option.bind_some, s_compose_eq k1 k2 k3, idx_succ hn hi, fcomp_take hi]) (by simp [s_l10Between_L1])
  simpa using this
theorem i_composed_eq {c : List Prt} {cs : List (List Prt)} (hn : cs.length ≤ 1000000) (ha : good c = true) (hc : chn (tgt c) cs = true) : i_composed (c :: cs) = some (fcomp c cs) := by
  obtain ⟨r1, _⟩ := fold_spec ha hc
  have hr : roomFor (List.length ([] : List Prt) + List.length (fcomp c cs)) 32 = true := room8 (by have := (good_sm r1).len; simpa using Nat.le_trans this (by omega)) (by omega)
  have hl := i_comp_loop (by omega) ha hc
  unfold i_composed
  have e1 : Int.toNat (((c :: cs).length : Nat) : Int) - Int.toNat 1 = cs.length := by simp
  have e2 : (List.drop (Int.toNat 1) (c :: cs)).take cs.length = cs := by simp
  rw [e1, e2]
  exact Ok.eq (Ok.yes (by simp) (Ok.bind_eq (r := c) (by simp) (Ok.yes (by simp) (Ok.yes (by simp; omega) (Ok.yes (by simp) (Ok.yes (by simp) (Ok.bind_eq hl (Ok.yes hr (Ok.mk rfl)))))))))
section
variable {f : Int} {t : List UInt8} {r : List Rn} {cs : List (List Prt)}
def seg (cs : List (List Prt)) (a b : Int) : List (List Prt) := (cs.drop a.toNat).take (b.toNat - a.toNat)
def lenAt (t : List UInt8) (cs : List (List Prt)) (a : Int) : Int := endl ((t.length : Nat) : Int) (cs.take a.toNat)
def between (f : Int) (t : List UInt8) (cs : List (List Prt)) (a b : Int) : List Prt := btw (lenAt t cs (a - f)) (seg cs (a - f) (b - f))
theorem seg_chn (g : GH f t r cs) (a b : Int) : chn (lenAt t cs a) (seg cs a b) = true := (chn_take (chn_take g.hc a.toNat).2 _).1
theorem seg_end (g : GH f t r cs) {a b : Int} (h0 : 0 ≤ a) (h1 : a ≤ b) : endl (lenAt t cs a) (seg cs a b) = lenAt t cs b := by
  unfold lenAt seg
  rw [← endl_append, ← List.take_add]
  congr 2; omega
theorem lenAt_in (g : GH f t r cs) (a : Int) : 0 ≤ lenAt t cs a ∧ lenAt t cs a ≤ 120 := endl_in (chn_take g.hc _).1 (by omega) g.ht
theorem between_spec (g : GH f t r cs) {a b : Int} (h0 : f ≤ a) (h1 : a ≤ b) : good (between f t cs a b) = true ∧ src (between f t cs a b) = lenAt t cs (a - f) ∧ tgt (between f t cs a b) = lenAt t cs (b - f) := by
  obtain ⟨k1, k2⟩ := lenAt_in g (a - f)
  obtain ⟨r1, r2, r3⟩ := btw_spec (seg_chn g (a - f) (b - f)) k1 k2
  exact ⟨r1, r2, by rw [between, r3, seg_end g (by omega) (by omega)]⟩
theorem i_same_eq (n : Int) : i_same n = some (idc n) := by
  unfold i_same idc
  by_cases h : n = 0 <;> simp [h]
theorem i_between_eq (g : GH f t r cs) {a b : Int} (h0 : f ≤ a) (h1 : a ≤ b) (h2 : b ≤ f + cs.length) : i_History_between f t r cs a b = some (between f t cs a b) := by
  have := g.hf; have := g.hn
  have w1 : IntKind.wrap .i64 (a - f) = a - f := w64 (by omega) (by omega)
  have w2 : IntKind.wrap .i64 (b - f) = b - f := w64 (by omega) (by omega)
  unfold i_History_between
  by_cases hab : a = b
  · subst hab
    rw [if_pos (by simp), i_text_eq g h0 h2, Option.bind_some, (text_in g _).1, i_same_eq, Option.bind_some]
    have e : seg cs (a - f) (a - f) = [] := by simp [seg]
    rw [between, e]; rfl
  · have hlt : (a - f).toNat < cs.length := by omega
    obtain ⟨c, ds, hds⟩ : ∃ c ds, seg cs (a - f) (b - f) = c :: ds := by
      have : (seg cs (a - f) (b - f)).length ≠ 0 := by unfold seg; rw [List.length_take, List.length_drop]; omega
      cases hsg : seg cs (a - f) (b - f) with
      | nil => rw [hsg] at this; exact absurd rfl this
      | cons c ds => exact ⟨c, ds, rfl⟩
    have hch := seg_chn g (a - f) (b - f)
    have hb : between f t cs a b = fcomp c ds := by unfold between; rw [hds] at hch ⊢; exact btw_cons hch
    have hln : ds.length ≤ 1000000 := by
      have h9 : (seg cs (a - f) (b - f)).length ≤ cs.length := by unfold seg; rw [List.length_take, List.length_drop]; omega
      rw [hds, List.length_cons] at h9; omega
    rw [hds] at hch
    obtain ⟨k1, k2, k3⟩ := chn_cons hch
    have hc := i_composed_eq hln k1 k3
    rw [if_neg (by simpa using hab), w1, w2, hb]
    rw [show (List.drop (a - f).toNat cs).take ((b - f).toNat - (a - f).toNat) = c :: ds from hds, hc]
    simp only [Option.bind_some, Int.le_refl, decide_true, if_true, show (0 : Int) ≤ a - f from by omega, show a - f ≤ b - f from by omega, show b - f ≤ ((cs.length : Nat) : Int) from by omega]
theorem s_between_eq (g : GH f t r cs) {a b : Int} (h0 : f ≤ a) (h1 : a ≤ b) (h2 : b ≤ f + cs.length) : s_l10Between f t r cs a b = some (between f t cs a b) := by
  have := g.hf; have := g.hn
  have w1 : IntKind.wrap .i64 (a - f) = a - f := w64 (by omega) (by omega)
  have w2 : IntKind.wrap .i64 (b - f) = b - f := w64 (by omega) (by omega)
  obtain ⟨k1, k2⟩ := lenAt_in g (a - f)
  obtain ⟨i1, i2, i3, i4⟩ := idc_spec k1 k2
  have hadd : addp [] (lenAt t cs (a - f), 0, []) = idc (lenAt t cs (a - f)) := by
    unfold addp idc
    by_cases h : lenAt t cs (a - f) = 0 <;> simp [h]
  have hln : (seg cs (a - f) (b - f)).length ≤ 1099511627776 := by unfold seg; rw [List.length_take, List.length_drop]; omega
  have hlp := s_comp_loop hln i1 (by rw [i4]; exact seg_chn g (a - f) (b - f))
  unfold s_l10Between
  rw [s_text_eq g h0 (by omega), Option.bind_some, (text_in g _).1, show endl ((t.length : Nat) : Int) (cs.take (a - f).toNat) = lenAt t cs (a - f) from rfl,
    s_l1Add_eq (Sm.nil 0) (by omega) _ 0 [] (by simp), Option.bind_some, hadd, w1, w2, show (List.drop (a - f).toNat cs).take ((b - f).toNat - (a - f).toNat) = seg cs (a - f) (b - f) from rfl, hlp]
  simp only [Option.bind_some, Int.le_refl, decide_true, if_true, show (0 : Int) ≤ a - f from by omega, show a - f ≤ b - f from by omega, show b - f ≤ ((cs.length : Nat) : Int) from by omega]
  rfl
theorem s_own_hist (h : HB t r cs) (f : Int) : s_l10Own f t r cs = some (f, t, r, cs) := by
  have hn := h.hn
  have hrr : roomFor (List.length ([] : List Rn) + List.length r) 16 = true := room8 (by have := h.hr; simpa using this) (by omega)
  unfold s_l10Own
  have := loop_run s_l10Own_L1 (fun i => (cs.take i, cs, ((cs.length : Nat) : Int), ((i : Nat) : Int), f, t, r, cs, 0, [])) cs.length (cs, f, t, r, cs, 0, []) (by
    intro i hi
    have hlt : ((i : Nat) : Int) < ((cs.length : Nat) : Int) := by omega
    have hr : roomFor (List.length (cs.take i) + List.length ([cs[i]] : List (List Prt))) 24 = true := room8 (by rw [List.length_take]; simp; omega) (by omega)
    have hr2 : roomFor (List.length ([] : List Prt) + List.length cs[i]) 32 = true := room8 (by have := (h.hc _ (List.getElem_mem hi)).len; simpa using this) (by omega)
    unfold s_l10Own_L1
    simp only [hlt, decide_true, if_true, show (0 : Int) ≤ ((i : Nat) : Int) from by omega, Int.toNat_natCast, List.getElem?_eq_getElem hi, Option.bind_some, List.nil_append, hr, hr2, idx_succ hn hi]
    rw [List.take_succ_eq_append_getElem hi]) (by simp [s_l10Own_L1])
  have e : loopG s_l10Own_L1 ([], cs, ((cs.length : Nat) : Int), 0, f, t, r, cs, 0, []) = some (cs, f, t, r, cs, 0, []) := by simpa using this
  rw [e, Option.bind_some, if_pos hrr]; rfl
theorem seg_tail (cs : List (List Prt)) (k : Int) : (cs.drop k.toNat).take (cs.length - k.toNat) = cs.drop k.toNat := by
  rw [List.take_of_length_le (by rw [List.length_drop]; omega)]
def rebased (f : Int) (t : List UInt8) (r : List Rn) (cs : List (List Prt)) (b : Int) (c : List Prt) : List Prt × Int :=
  if codeH f t r cs b b = 0 then
    if good c = true ∧ src c = lenAt t cs (b - f) then
      if good (carried false c (between f t cs b (f + cs.length))) = true then (carried false c (between f t cs b (f + cs.length)), 0) else ([], 4)
    else ([], 3)
  else ([], codeH f t r cs b b)
theorem between_head (g : GH f t r cs) : between f t cs (f + cs.length) (f + cs.length) = idc (lenAt t cs (f + cs.length - f)) := by
  have e : seg cs (f + cs.length - f) (f + cs.length - f) = [] := by simp [seg]
  rw [between, e]; rfl
theorem i_rebased_eq (h : HB t r cs) {c : List Prt} (hc : Sm 1099511627776 c) (f b : Int) : i_History_rebased f t r cs b c = some (rebased f t r cs b c) := by
  unfold i_History_rebased rebased
  rw [i_code_eq h, Option.bind_some]
  by_cases h0 : codeH f t r cs b b = 0
  · obtain ⟨g, h1, _, h2⟩ := codeH_zero h0
    have := g.hf; have := g.hn
    have w : IntKind.wrap .i64 (f + ((cs.length : Nat) : Int)) = f + ((cs.length : Nat) : Int) := w64 (by omega) (by omega)
    rw [if_neg (by simpa using h0), if_pos h0, i_text_eq g h1 h2, Option.bind_some, (text_in g _).1, show endl ((t.length : Nat) : Int) (cs.take (b - f).toNat) = lenAt t cs (b - f) from rfl, i_fits_eq hc (by omega), Option.bind_some]
    by_cases hf : good c = true ∧ src c = lenAt t cs (b - f)
    · obtain ⟨hg, hs⟩ := hf
      rw [if_neg (by simp [hg, hs]), if_pos ⟨hg, hs⟩]
      simp only [i_History_head, Option.bind_some, w]
      obtain ⟨q1, q2, q3⟩ := between_spec g h1 h2
      by_cases hb : b = f + ((cs.length : Nat) : Int)
      · subst hb
        rw [if_pos (by simp), clone_part hc.len, Option.bind_some, between_head g, ← hs, carried_id hg, if_pos hg]
      · rw [if_neg (by simpa using hb), i_between_eq g h1 h2 (Int.le_refl _), Option.bind_some, i_carry_eq false hg q1 (by rw [hs, q2]), Option.bind_some]
        cases hgc : good (carried false c (between f t cs b (f + ((cs.length : Nat) : Int)))) <;> simp
    · rw [if_pos, if_neg hf]
      cases hg : good c with
      | false => simp
      | true =>
        have : ¬ src c = lenAt t cs (b - f) := fun e => hf ⟨hg, e⟩
        simp [this]
  · rw [if_pos (by simpa using h0), if_neg h0]
theorem s_rebased_eq (h : HB t r cs) {c : List Prt} (hc : Sm 1099511627776 c) (f b : Int) : s_RebaseOf f t r cs b c = some (rebased f t r cs b c) := by
  unfold s_RebaseOf rebased
  rw [s_range_eq h, Option.bind_some]
  by_cases h0 : codeH f t r cs b b = 0
  · obtain ⟨g, h1, _, h2⟩ := codeH_zero h0
    have := g.hf; have := g.hn
    have w : IntKind.wrap .i64 (f + ((cs.length : Nat) : Int)) = f + ((cs.length : Nat) : Int) := w64 (by omega) (by omega)
    rw [if_neg (by simpa using h0), if_pos h0, s_Good_eq hc (by omega), Option.bind_some]
    cases hg : good c with
    | false => simp
    | true =>
      have ss := okk_some (good_spec hg).1
      have g2 := (good_spec hg).2
      rw [if_neg (by simp), s_Source_eq hc (by omega) ss (by omega), Option.bind_some, s_text_eq g h1 h2, Option.bind_some, (text_in g _).1, show endl ((t.length : Nat) : Int) (cs.take (b - f).toNat) = lenAt t cs (b - f) from rfl, Option.bind_some]
      dsimp only
      by_cases hs : src c = lenAt t cs (b - f)
      · obtain ⟨q1, q2, q3⟩ := between_spec g h1 h2
        rw [if_neg (by simpa using hs), if_pos ⟨rfl, hs⟩]
        simp only [s_l10Head, Option.bind_some, w]
        rw [s_between_eq g h1 h2 (Int.le_refl _), Option.bind_some, s_CarryChange_eq hc (by omega) (good_sm q1) (by omega), Option.bind_some]
        unfold carryOf
        cases hgc : good (carried false c (between f t cs b (f + ((cs.length : Nat) : Int)))) with
        | false => simp
        | true => simp [hg, q1, hs, q2]
      · rw [if_pos (by simpa using hs), if_neg fun e => hs e.2]
  · rw [if_pos (by simpa using h0), if_neg h0]
theorem rebased_good {b : Int} {c : List Prt} (h : (rebased f t r cs b c).2 = 0) : GH f t r cs ∧ f ≤ b ∧ b ≤ f + cs.length ∧ good c = true ∧ src c = lenAt t cs (b - f) ∧ good (rebased f t r cs b c).1 = true ∧ src (rebased f t r cs b c).1 = lenAt t cs cs.length ∧
    (rebased f t r cs b c).1 = carried false c (between f t cs b (f + cs.length)) := by
  unfold rebased at h ⊢
  split at h
  · rename_i h0
    obtain ⟨g, h1, _, h2⟩ := codeH_zero h0
    split at h
    · rename_i hf
      split at h
      · rename_i hg
        obtain ⟨q1, q2, q3⟩ := between_spec g h1 h2
        rw [if_pos h0, if_pos hf, if_pos hg]
        refine ⟨g, h1, h2, hf.1, hf.2, hg, ?_, rfl⟩
        have hn : nS (atoms c) = nS (atoms (between f t cs b (f + ((cs.length : Nat) : Int)))) := by
          have := good_nS hf.1; have := good_nS q1; have := hf.2; omega
        have k2 := (carried_spec false hf.1 q1 (by rw [hf.2, q2])).2
        have k3 := carryA_nS false _ _ hn
        rw [← k2] at k3
        have := good_nS hg; have := good_nS q1
        rw [show f + ((cs.length : Nat) : Int) - f = ((cs.length : Nat) : Int) by omega] at q3
        dsimp only
        omega
      · cases h
    · cases h
  · rename_i h0; exact absurd h h0
theorem rebased_code {b : Int} {c : List Prt} (h : (rebased f t r cs b c).2 ≠ 0) : (rebased f t r cs b c).1 = [] := by
  unfold rebased at h ⊢
  split at h <;> rename_i h0
  · rw [if_pos h0]
    split at h <;> rename_i h1
    · rw [if_pos h1]
      split at h <;> rename_i h2
      · exact absurd rfl h
      · rw [if_neg h2]
    · rw [if_neg h1]
  · rw [if_neg h0]
end
end Go.V.G

set_option linter.unusedVariables false
set_option linter.unusedSimpArgs false
set_option maxRecDepth 100000
namespace Go.V.G
open Go.V
section
variable {f : Int} {t : List UInt8} {r : List Rn} {cs : List (List Prt)}
def submitOf (f : Int) (t : List UInt8) (r : List Rn) (cs : List (List Prt)) (b : Int) (c : List Prt) : Int × (Int × Hst) :=
  if goodH f t r cs = true then
    (if (rebased f t r cs b c).2 = 0 then (if f + cs.length = 60 then (0, 5, f, t, r, cs) else (f + cs.length + 1, 0, f, t, r, cs ++ [(rebased f t r cs b c).1])) else (0, (rebased f t r cs b c).2, f, t, r, cs))
  else (0, 1, 0, [], [], [])
theorem s_submit_eq (h : HB t r cs) {c : List Prt} (hc : Sm 1099511627776 c) (f b : Int) : s_Submit f t r cs b c = some (submitOf f t r cs b c) := by
  unfold s_Submit submitOf
  rw [s_GoodHistory_eq h, Option.bind_some]
  cases hg : goodH f t r cs with
  | false => simp
  | true =>
    have g := goodH_iff.1 hg
    have := g.hf; have := g.hn
    have w : IntKind.wrap .i64 (f + ((cs.length : Nat) : Int)) = f + ((cs.length : Nat) : Int) := w64 (by omega) (by omega)
    have hr : roomFor (List.length cs + List.length ([(rebased f t r cs b c).1] : List (List Prt))) 24 = true := room8 (by simp; omega) (by omega)
    rw [if_neg (by simp), if_pos rfl, s_rebased_eq h hc, Option.bind_some, s_own_hist h, Option.bind_some]
    by_cases h0 : (rebased f t r cs b c).2 = 0
    · by_cases h6 : f + ((cs.length : Nat) : Int) = 60
      · simp only [h0, decide_true, if_true, s_l10Head, Option.bind_some, w, h6]
        rfl
      · have w2 : IntKind.wrap .i64 (f + (((cs ++ [(rebased f t r cs b c).1]).length : Nat) : Int)) = f + ((cs.length : Nat) : Int) + 1 := by
          rw [w64 (by simp; omega) (by simp; omega)]; simp; omega
        simp only [h0, decide_true, if_true, s_l10Head, Option.bind_some, w, h6, decide_false, Bool.false_eq_true, if_false, not_true_eq_false, hr, w2]
    · simp only [h0, decide_false, Bool.false_eq_true, if_false, Option.bind_some, not_false_eq_true, decide_true, if_true]
theorem rebased_w (f b : Int) (t : List UInt8) (r : List Rn) (cs : List (List Prt)) (c : List Prt) : w_PartS (rebased f t r cs b c).1 ≤ 480 := by
  by_cases h : (rebased f t r cs b c).2 = 0
  · exact w_good (rebased_good h).2.2.2.2.2.1
  · rw [rebased_code h]; exact Nat.zero_le _
end
end Go.V.G

set_option linter.unusedVariables false
set_option linter.unusedSimpArgs false
set_option maxRecDepth 100000
namespace Go.V.G
open Go.V
theorem ht_textOf_ok {code : List Int} {a s : Int} {n : Int} (h0 : 0 ≤ n) (hn : n ≤ 100) (h : At code 202 a) : Ok (s_l1Cur_textOf_f n code a s) fun r => ((r.1.length : Nat) : Int) = n ∧ To code a 200 r.2.1 r.2.2.1 := by
  unfold s_l1Cur_textOf_f
  refine Ok.yes (by simpa using h0) (Ok.yes (by simp) (Ok.yes (by simp only [roomFor, decide_eq_true_eq]; omega) ?_))
  rw [List.length_replicate]
  refine Ok.bind (Q := fun v => ((v.1.length : Nat) : Int) = n ∧ To code a 200 v.2.1 v.2.2.1) ?_ (fun v hv => Ok.mk ⟨by rw [show (textOf v.1).length = v.1.length by simp [textOf]]; exact hv.1, hv.2⟩)
  refine Ok.loop (fun y => ((y.1.length : Nat) : Int) = n ∧ y.2.1 = n ∧ 0 ≤ y.2.2.1 ∧ y.2.2.1 ≤ n ∧ To code a (2 * y.2.2.1) y.2.2.2.1 y.2.2.2.2.1) (fun y => (n - y.2.2.1).toNat) ⟨by simp; omega, by dsimp only; omega, by simp, h0, To.refl _ _⟩ ?_
  rintro ⟨l, m, i, c, a', s'⟩ ⟨h1, h2, h3, h4, t⟩
  dsimp only at h1 h2 h3 h4 t
  subst h2
  unfold s_l1Cur_textOf_f_L1
  dsimp only
  refine Ok.ite (fun hc => ?_) fun hc => Ok.mk ⟨h1, t.more (by omega)⟩
  have hlt : i < m := by simpa using hc
  refine (pick_ok (t.at (j := 2) (h.less (by omega)))).bind ?_
  rintro ⟨k, c2, a2, s2⟩ ⟨hk, t2⟩
  dsimp only at hk t2 ⊢
  have hi : 0 + i.toNat < l.length := by omega
  have e : IntKind.wrap .i64 (i + 1) = i + 1 := w64 (by omega) (by omega)
  refine Ok.yes (by simpa using h3) (Ok.yes (by simp; omega) (Ok.bind_eq (List.getElem?_eq_getElem hi) (Ok.bind_eq (List.getElem?_eq_getElem hi) (Ok.mk ⟨⟨?_, rfl, ?_, ?_, ?_⟩, ?_⟩))))
  · dsimp only; rw [List.length_set]; exact h1
  · dsimp only; omega
  · dsimp only; omega
  · dsimp only; rw [e]; exact (t.trans t2).more (by omega)
  · dsimp only; omega
theorem addr_len (l : List Rn) (r : Rn) : (addr l r).length ≤ l.length + 1 := by
  unfold addr
  split
  · omega
  · split
    · simp
    · split
      · simp
      · simp
theorem runs_ok {code : List Int} {a s : Int} {n f : Int} (h0 : 0 ≤ n) (hn : n ≤ 20) (h : At code 100 a) : Ok (s_l1Cur_runs_f n f code a s) fun r => r.1.length ≤ 30 ∧ To code a 90 r.2.1 r.2.2.1 := by
  unfold s_l1Cur_runs_f
  refine Ok.bind (Q := fun v => v.1.length ≤ 20 ∧ To code a 80 v.2.1 v.2.2.1) ?_ ?_
  · refine Ok.loop (fun y => 0 ≤ y.1 ∧ y.1 ≤ n ∧ ((y.2.2.1.length : Nat) : Int) ≤ n - y.1 ∧ To code a (4 * (n - y.1)) y.2.2.2.1 y.2.2.2.2.1) (fun y => y.1.toNat) ⟨h0, by simp, by simp, (To.refl _ _).more (by simp)⟩ ?_
    rintro ⟨m, f', l, c, a', s'⟩ ⟨h1, h2, h3, t⟩
    dsimp only at h1 h2 h3 t
    unfold s_l1Cur_runs_f_L1
    dsimp only
    refine Ok.ite (fun hc => ?_) fun hc => Ok.mk ⟨by dsimp only; omega, t.more (by omega)⟩
    have hm : 0 < m := by simpa using hc
    refine (pick_ok (t.at (j := 2) (h.less (by omega)))).bind ?_
    rintro ⟨k, c2, a2, s2⟩ ⟨hk, t2⟩
    dsimp only at hk t2 ⊢
    have t2 := t.trans t2
    have e : IntKind.wrap .i64 (1 + k) = 1 + k := w64 (by omega) (by omega)
    rw [e]
    refine Ok.bind (Q := fun v => v.1 = m ∧ v.2.2.1 = l ∧ (1 ≤ v.2.2.2.1 ∧ v.2.2.2.1 ≤ m) ∧ To code a (4 * (n - m) + 2) v.2.2.2.2.1 v.2.2.2.2.2.1) ?_ ?_
    · refine Ok.ite (fun hq => Ok.mk ⟨rfl, rfl, by dsimp only; omega, t2⟩) fun hq => Ok.mk ⟨rfl, rfl, ?_, t2⟩
      have : ¬ m < 1 + k := by simpa using hq
      dsimp only; omega
    rintro ⟨m', f2, l', j, c3, a3, s3⟩ ⟨q1, q2, q3, t3⟩
    dsimp only at q1 q2 q3 t3 ⊢
    subst q1 q2
    refine (pick_ok (t3.at (j := 2) (h.less (by omega)))).bind ?_
    rintro ⟨k2, c4, a4, s4⟩ ⟨hk2, t4⟩
    dsimp only at hk2 t4 ⊢
    refine Ok.bind_eq (s_l9Add_eq (by omega) _ _) ?_
    have e2 : IntKind.wrap .i64 (m' - j) = m' - j := w64 (by omega) (by omega)
    rw [e2]
    have hal := addr_len l' (k2, j)
    exact Ok.mk ⟨⟨by dsimp only; omega, by dsimp only; omega, by dsimp only; omega, (t3.trans t4).more (by dsimp only; omega)⟩, by dsimp only; omega⟩
  rintro ⟨l, c, a', s'⟩ ⟨h1, t⟩
  dsimp only at h1 t ⊢
  refine (pick_ok (t.at (j := 2) (h.less (by omega)))).bind ?_
  rintro ⟨k, c2, a2, s2⟩ ⟨hk, t2⟩
  dsimp only at hk t2 ⊢
  have t2 := t.trans t2
  refine Ok.bind (Q := fun v => v.1.length ≤ 30 ∧ To code a 90 v.2.1 v.2.2.1) ?_ (fun v hv => Ok.mk hv)
  refine Ok.ite (fun _ => ?_) fun _ => ?_
  · refine (among_ok (t2.at (j := 2) (h.less (by omega))) (by simp)).bind ?_
    rintro ⟨x, c3, a3, s3⟩ ⟨_, t3⟩
    dsimp only at t3 ⊢
    have t3 := t2.trans t3
    refine (among_ok (t3.at (j := 2) (h.less (by omega))) (by simp)).bind ?_
    rintro ⟨y, c4, a4, s4⟩ ⟨_, t4⟩
    dsimp only at t4 ⊢
    exact Ok.yes (room8 (by simp; omega) (by omega)) (Ok.mk ⟨by simp; omega, (t3.trans t4).more (by omega)⟩)
  · refine Ok.bind (Q := fun v => v.1.length ≤ 30 ∧ To code a 90 v.2.1 v.2.2.1) ?_ (fun v hv => Ok.mk hv)
    refine Ok.ite (fun _ => ?_) fun _ => Ok.mk ⟨by dsimp only; omega, t2.more (by omega)⟩
    refine Ok.bind (Q := fun v => v.1.length ≤ 30 ∧ To code a 90 v.2.1 v.2.2.1) ?_ (fun v hv => Ok.mk hv)
    refine Ok.ite (fun hc => ?_) fun _ => Ok.mk ⟨by dsimp only; omega, t2.more (by omega)⟩
    have hl : 0 < l.length := by simpa [List.length_pos_iff] using hc
    have e : IntKind.wrap .i64 (((List.length l : Nat) : Int) - 1) = ((l.length - 1 : Nat) : Int) := by rw [w64 (by omega) (by omega)]; omega
    rw [e]
    have hg : l[0 + Int.toNat ((l.length - 1 : Nat) : Int)]? = some l[l.length - 1] := by rw [Nat.zero_add, Int.toNat_natCast]; exact List.getElem?_eq_getElem (by omega)
    exact Ok.yes (by simp) (Ok.yes (by simp; omega) (Ok.bind_eq hg (Ok.bind_eq hg (Ok.yes (room8 (by simp; omega) (by omega)) (Ok.mk ⟨by simp; omega, t2.more (by omega)⟩)))))
structure HD (t : List UInt8) (r : List Rn) (cs : List (List Prt)) : Prop where
  ht : t.length ≤ 130
  hr : r.length ≤ 30
  hn : cs.length ≤ 60
  hc : ∀ c ∈ cs, Sm 2000 c
theorem HD.hb {t : List UInt8} {r : List Rn} {cs : List (List Prt)} (h : HD t r cs) : HB t r cs :=
  ⟨by have := h.ht; omega, by have := h.hr; omega, by have := h.hn; omega, fun c hc => (h.hc c hc).mono (by omega)⟩
theorem s_head_ok (f : Int) (t : List UInt8) (r : List Rn) (cs : List (List Prt)) : s_l10Head f t r cs = some (IntKind.wrap .i64 (f + ((cs.length : Nat) : Int))) := rfl
theorem history_ok {code : List Int} {a s : Int} (h : At code 90000 a) : Ok (s_l1Cur_history_f code a s) fun r => HD r.2.1 r.2.2.1 r.2.2.2.1 ∧ To code a 89000 r.2.2.2.2.1 r.2.2.2.2.2.1 := by
  unfold s_l1Cur_history_f
  refine Ok.bind_eq (r := (0, [])) rfl ?_
  refine (one_ok (h.less (by omega))).bind ?_
  rintro ⟨b, c1, a1, s1⟩ t1
  dsimp only at t1 ⊢
  refine Ok.bind (Q := fun v => (v.2.2.2.1.length ≤ 100 ∧ v.2.2.2.2.1.length ≤ 30 ∧ v.2.2.2.2.2.1 = []) ∧ To code a 400 v.2.2.2.2.2.2.1 v.2.2.2.2.2.2.2.1) ?_ ?_
  · refine Ok.ite (fun _ => ?_) fun _ => Ok.mk ⟨by simp, t1.more (by omega)⟩
    refine (pick_ok (t1.at (j := 2) (h.less (by omega)))).bind ?_
    rintro ⟨k, c2, a2, s2⟩ ⟨hk, t2⟩
    dsimp only at hk t2 ⊢
    have t2 := t1.trans t2
    refine (pick_ok (t2.at (j := 2) (h.less (by omega)))).bind ?_
    rintro ⟨n, c3, a3, s3⟩ ⟨hn, t3⟩
    dsimp only at hn t3 ⊢
    have t3 := t2.trans t3
    refine (ht_textOf_ok hn.1 (by omega) (t3.at (h.less (by omega)))).bind ?_
    rintro ⟨x, c4, a4, s4⟩ ⟨hx, t4⟩
    dsimp only at hx t4 ⊢
    have t4 := t3.trans t4
    refine (runs_ok hn.1 (by omega) (t4.at (h.less (by omega)))).bind ?_
    rintro ⟨y, c5, a5, s5⟩ ⟨hy, t5⟩
    dsimp only at hy t5 ⊢
    exact Ok.mk ⟨⟨by dsimp only; omega, hy, rfl⟩, (t4.trans t5).more (by omega)⟩
  rintro ⟨z1, z2, f, t, r, cs, c2, a2, s2⟩ ⟨⟨q1, q2, q3⟩, t2⟩
  dsimp only at q1 q2 q3 t2 ⊢
  subst q3
  refine (pick_ok (t2.at (j := 2) (h.less (by omega)))).bind ?_
  rintro ⟨k, c3, a3, s3⟩ ⟨hk, t3⟩
  dsimp only at hk t3 ⊢
  have t3 := t2.trans t3
  refine (one_ok (t3.at (j := 2) (h.less (by omega)))).bind ?_
  rintro ⟨b2, c4, a4, s4⟩ t4
  dsimp only at t4 ⊢
  have t4 := t3.trans t4
  refine Ok.bind (Q := fun v => (0 ≤ v.1 ∧ v.1 ≤ 40) ∧ (v.2.2.2.2.1 = t ∧ v.2.2.2.2.2.1 = r ∧ v.2.2.2.2.2.2.1 = []) ∧ To code a 410 v.2.2.2.2.2.2.2.1 v.2.2.2.2.2.2.2.2.1) ?_ ?_
  · refine Ok.ite (fun _ => ?_) fun _ => Ok.mk ⟨by dsimp only; omega, ⟨rfl, rfl, rfl⟩, t4.more (by omega)⟩
    refine (pick_ok (t4.at (j := 2) (h.less (by omega)))).bind ?_
    rintro ⟨n, c5, a5, s5⟩ ⟨hn, t5⟩
    dsimp only at hn t5 ⊢
    have e : IntKind.wrap .i64 (10 + n) = 10 + n := w64 (by omega) (by omega)
    rw [e]
    exact Ok.mk ⟨by dsimp only; omega, ⟨rfl, rfl, rfl⟩, (t4.trans t5).more (by omega)⟩
  rintro ⟨n, z3, z4, f2, t', r', cs', c5, a5, s5⟩ ⟨hn, ⟨e1, e2, e3⟩, t5⟩
  dsimp only at hn e1 e2 e3 t5 ⊢
  subst e1 e2 e3
  refine Ok.bind (Q := fun v => (v.2.2.2.1.length ≤ 100 ∧ v.2.2.2.2.1.length ≤ 30 ∧ v.2.2.2.2.2.1.length ≤ 40 ∧ ∀ c ∈ v.2.2.2.2.2.1, Sm 2000 c) ∧ To code a 60000 v.2.2.2.2.2.2.1 v.2.2.2.2.2.2.2.1) ?_ ?_
  · refine Ok.loop (fun y => (0 ≤ y.1 ∧ y.1 ≤ 40) ∧ (y.2.2.2.2.1.length ≤ 100 ∧ y.2.2.2.2.2.1.length ≤ 30 ∧ ((y.2.2.2.2.2.2.1.length : Nat) : Int) ≤ 40 - y.1 ∧ ∀ c ∈ y.2.2.2.2.2.2.1, Sm 2000 c) ∧ To code a (410 + 1300 * (40 - y.1)) y.2.2.2.2.2.2.2.1 y.2.2.2.2.2.2.2.2.1) (fun y => y.1.toNat)
      ⟨hn, ⟨q1, q2, by simp; omega, by simp⟩, t5.more (by dsimp only; omega)⟩ ?_
    rintro ⟨n, z3, z4, f2, t, r, cs, c5, a5, s5⟩ ⟨hn, ⟨k1, k2, k3, k4⟩, t5⟩
    dsimp only at hn k1 k2 k3 k4 t5
    have hb : HB t r cs := ⟨by omega, by omega, by omega, fun c hc => (k4 c hc).mono (by omega)⟩
    unfold s_l1Cur_history_f_L1
    dsimp only
    refine Ok.bind (Q := fun v => v = (n, decide (0 < n ∧ goodH f2 t r cs = true ∧ IntKind.wrap .i64 (f2 + ((cs.length : Nat) : Int)) < 60), z3, z4, f2, t, r, cs, c5, a5, s5)) ?_ ?_
    · refine Ok.ite (fun hc => ?_) fun hc => Ok.mk ?_
      · have h0 : 0 < n := by simpa using hc
        refine Ok.bind_eq (s_GoodHistory_eq hb f2) ?_
        cases hg : goodH f2 t r cs with
        | true => exact Ok.yes rfl (Ok.bind_eq (s_head_ok f2 t r cs) (Ok.mk (by simp [h0])))
        | false => exact Ok.no (by simp) (Ok.mk (by simp))
      · have h0 : ¬ 0 < n := by simpa using hc
        simp [h0]
    rintro _ rfl
    dsimp only
    by_cases hq : 0 < n ∧ goodH f2 t r cs = true ∧ IntKind.wrap .i64 (f2 + ((cs.length : Nat) : Int)) < 60
    · rw [decide_eq_true hq]
      obtain ⟨h0, hg, hl⟩ := hq
      have g := goodH_iff.1 hg
      have gf := g.hf; have gn := g.hn; have gt := g.ht
      have we : IntKind.wrap .i64 (f2 + ((cs.length : Nat) : Int)) = f2 + ((cs.length : Nat) : Int) := w64 (by omega) (by omega)
      rw [we] at hl
      refine Ok.yes rfl (Ok.bind_eq (s_head_ok f2 t r cs) ?_)
      rw [we]
      refine (one_ok (t5.at (j := 2) (h.less (by omega)))).bind ?_
      rintro ⟨b, c6, a6, s6⟩ t6
      dsimp only at t6 ⊢
      have t6 := t5.trans t6
      refine Ok.bind (Q := fun v => (v.1 = n ∧ v.2.2.2.2.1 = f2 ∧ v.2.2.2.2.2.1 = t ∧ v.2.2.2.2.2.2.1 = r ∧ v.2.2.2.2.2.2.2.1 = cs) ∧ (f2 ≤ v.2.1 ∧ v.2.1 ≤ f2 + cs.length) ∧ To code a (414 + 1300 * (40 - n)) v.2.2.2.2.2.2.2.2.1 v.2.2.2.2.2.2.2.2.2.1) ?_ ?_
      · refine Ok.ite (fun _ => ?_) fun _ => Ok.mk ⟨⟨rfl, rfl, rfl, rfl, rfl⟩, by dsimp only; omega, t6.more (by omega)⟩
        have we2 : IntKind.wrap .i64 (((List.length cs : Nat) : Int) + 1) = ((cs.length : Nat) : Int) + 1 := w64 (by omega) (by omega)
        rw [we2]
        refine (pick_ok (t6.at (j := 2) (h.less (by omega)))).bind ?_
        rintro ⟨m, c7, a7, s7⟩ ⟨hm, t7⟩
        dsimp only at hm t7 ⊢
        have e : IntKind.wrap .i64 (f2 + m) = f2 + m := w64 (by omega) (by omega)
        rw [e]
        exact Ok.mk ⟨⟨rfl, rfl, rfl, rfl, rfl⟩, by dsimp only; omega, (t6.trans t7).more (by omega)⟩
      rintro ⟨n', x, z5, z6, f3, t', r', cs', c7, a7, s7⟩ ⟨⟨e1, e2, e3, e4, e5⟩, hx, t7⟩
      dsimp only at e1 e2 e3 e4 e5 hx t7 ⊢
      subst e1 e2 e3 e4 e5
      refine Ok.bind_eq (s_text_eq g hx.1 hx.2) ?_
      have htx := text_in g (x - f3).toNat
      refine (changeOf_ok 120 (by omega) (by omega) (by omega) (t7.at (j := 1224) (h.less (by omega)))).bind ?_
      rintro ⟨c, c8, a8, s8⟩ ⟨hc, t8⟩
      dsimp only at hc t8 ⊢
      refine Ok.bind_eq (s_submit_eq hb (hc.mono (by omega)) f3 x) ?_
      refine Ok.bind (Q := fun v => v.1 = n' ∧ (v.2.2.2.2.1.length ≤ 100 ∧ v.2.2.2.2.2.1.length ≤ 30 ∧ ((v.2.2.2.2.2.2.1.length : Nat) : Int) ≤ 40 - (n' - 1) ∧ ∀ c ∈ v.2.2.2.2.2.2.1, Sm 2000 c) ∧ To code a (414 + 1300 * (40 - n') + 1224) v.2.2.2.2.2.2.2.1 v.2.2.2.2.2.2.2.2.1) ?_ ?_
      · refine Ok.ite (fun _ => Ok.mk ⟨rfl, ?_, t7.trans t8⟩) fun _ => Ok.mk ⟨rfl, ⟨k1, k2, by dsimp only; omega, k4⟩, t7.trans t8⟩
        dsimp only
        unfold submitOf
        rw [if_pos hg]
        split
        · rename_i h00
          split
          · exact ⟨k1, k2, by dsimp only; omega, k4⟩
          · obtain ⟨_, _, _, _, _, hgd, _, _⟩ := rebased_good h00
            refine ⟨k1, k2, by simp; omega, fun y hy => ?_⟩
            rcases List.mem_append.1 hy with hy | hy
            · exact k4 y hy
            · rw [List.mem_singleton.1 hy]; exact (good_sm hgd).mono (by omega)
        · exact ⟨k1, k2, by dsimp only; omega, k4⟩
      rintro ⟨n2, z7, z8, f4, t4, r4, cs4, c9, a9, s9⟩ ⟨e1, ⟨m1, m2, m3, m4⟩, t9⟩
      dsimp only at e1 m1 m2 m3 m4 t9 ⊢
      subst e1
      have e : IntKind.wrap .i64 (n2 - 1) = n2 - 1 := w64 (by omega) (by omega)
      rw [e]
      exact Ok.mk ⟨⟨by dsimp only; omega, ⟨m1, m2, m3, m4⟩, t9.more (by dsimp only; omega)⟩, by dsimp only; omega⟩
    · rw [decide_eq_false hq]
      exact Ok.no (by simp) (Ok.mk ⟨⟨k1, k2, by dsimp only; omega, k4⟩, t5.more (by omega)⟩)
  rintro ⟨z5, z6, f3, t, r, cs, c6, a6, s6⟩ ⟨⟨k1, k2, k3, k4⟩, t6⟩
  dsimp only at k1 k2 k3 k4 t6 ⊢
  refine (pick_ok (t6.at (j := 2) (h.less (by omega)))).bind ?_
  rintro ⟨k, c7, a7, s7⟩ ⟨hk, t7⟩
  dsimp only at hk t7 ⊢
  have t7 := t6.trans t7
  refine Ok.bind (Q := fun v => HD v.2.2.2.1 v.2.2.2.2.1 v.2.2.2.2.2.1 ∧ To code a 89000 v.2.2.2.2.2.2.1 v.2.2.2.2.2.2.2.1) ?_ (fun v hv => Ok.mk hv)
  have base : HD t r cs := ⟨by omega, by omega, by omega, k4⟩
  refine Ok.ite (fun _ => ?_) fun _ => ?_
  · refine (among_ok (t7.at (j := 2) (h.less (by omega))) (by simp)).bind ?_
    rintro ⟨x, c8, a8, s8⟩ ⟨_, t8⟩
    exact Ok.mk ⟨base, (t7.trans t8).more (by omega)⟩
  refine Ok.bind (Q := fun v => HD v.2.2.2.1 v.2.2.2.2.1 v.2.2.2.2.2.1 ∧ To code a 89000 v.2.2.2.2.2.2.1 v.2.2.2.2.2.2.2.1) ?_ (fun v hv => Ok.mk hv)
  refine Ok.ite (fun _ => ?_) fun _ => ?_
  · refine Ok.yes ?_ (Ok.mk ⟨⟨by simp; omega, base.hr, base.hn, base.hc⟩, t7.more (by omega)⟩)
    simp only [decide_eq_true_eq, List.length_singleton]; omega
  refine Ok.bind (Q := fun v => HD v.2.2.2.1 v.2.2.2.2.1 v.2.2.2.2.2.1 ∧ To code a 89000 v.2.2.2.2.2.2.1 v.2.2.2.2.2.2.2.1) ?_ (fun v hv => Ok.mk hv)
  refine Ok.ite (fun _ => ?_) fun _ => Ok.mk ⟨base, t7.more (by omega)⟩
  refine (changeOf_ok 120 (by omega) (by omega) (by omega) (t7.at (j := 1224) (h.less (by omega)))).bind ?_
  rintro ⟨c, c8, a8, s8⟩ ⟨hc, t8⟩
  dsimp only at hc t8 ⊢
  refine Ok.yes (room8 (by simp; omega) (by omega)) (Ok.mk ⟨⟨base.ht, base.hr, by simp; omega, fun y hy => ?_⟩, (t7.trans t8).more (by omega)⟩)
  rcases List.mem_append.1 hy with hy | hy
  · exact k4 y hy
  · rw [List.mem_singleton.1 hy]; exact hc.mono (by omega)
theorem revIn_ok {code : List Int} {a s : Int} (h : At code 10 a) {f : Int} {t : List UInt8} {r : List Rn} {cs : List (List Prt)} :
    Ok (s_l1Cur_revIn_l_f f t r cs code a s) fun v => (v.1 = f ∧ v.2.1 = t ∧ v.2.2.1 = r ∧ v.2.2.2.1 = cs) ∧ To code a 4 v.2.2.2.2.2.1 v.2.2.2.2.2.2.1 := by
  unfold s_l1Cur_revIn_l_f
  refine (one_ok (h.less (by omega))).bind ?_
  rintro ⟨b, c1, a1, s1⟩ t1
  dsimp only at t1 ⊢
  refine Ok.ite (fun _ => ?_) fun _ => ?_
  · refine Ok.bind_eq (s_head_ok f t r cs) ?_
    refine (among_ok (t1.at (j := 2) (h.less (by omega))) (by simp)).bind ?_
    rintro ⟨x, c2, a2, s2⟩ ⟨_, t2⟩
    exact Ok.mk ⟨⟨rfl, rfl, rfl, rfl⟩, (t1.trans t2).more (by omega)⟩
  · refine (pick_ok (t1.at (j := 2) (h.less (by omega)))).bind ?_
    rintro ⟨x, c2, a2, s2⟩ ⟨_, t2⟩
    exact Ok.mk ⟨⟨rfl, rfl, rfl, rfl⟩, (t1.trans t2).more (by omega)⟩
theorem s_textAt_ok {f : Int} {t : List UInt8} {r : List Rn} {cs : List (List Prt)} (h : HB t r cs) (x : Int) :
    s_TextAt f t r cs x = some (if codeH f t r cs x x = 0 then (txt t (cs.take (x - f).toNat), 0) else ([], codeH f t r cs x x)) := by
  unfold s_TextAt
  rw [s_range_eq h, Option.bind_some]
  by_cases h0 : codeH f t r cs x x = 0
  · obtain ⟨g, h1, _, h2⟩ := codeH_zero h0
    rw [if_neg (by simpa using h0), s_text_eq g h1 h2, if_pos h0]; rfl
  · rw [if_pos (by simpa using h0), if_neg h0]
theorem drawRebase_ok {code : List Int} (hb : Bytes code) : Ok (s_DrawRebaseOf code) fun v => HD v.2.2.2.1 v.2.2.2.2.1 v.2.2.2.2.2 ∧ Sm 2000 v.2.1 := by
  have h : At code 1000000 0 := ⟨hb, by omega, by omega⟩
  unfold s_DrawRebaseOf
  refine (history_ok (h.less (by omega))).bind ?_
  rintro ⟨f, t, r, cs, c1, a1, s1⟩ ⟨hd, t1⟩
  dsimp only at hd t1 ⊢
  refine (revIn_ok (t1.at (j := 10) (h.less (by omega)))).bind ?_
  rintro ⟨f', t', r', cs', x, c2, a2, s2⟩ ⟨⟨e1, e2, e3, e4⟩, t2⟩
  dsimp only at e1 e2 e3 e4 t2 ⊢
  subst e1 e2 e3 e4
  have t2 := t1.trans t2
  refine (pick_ok (t2.at (j := 2) (h.less (by omega)))).bind ?_
  rintro ⟨n, c3, a3, s3⟩ ⟨hn, t3⟩
  dsimp only at hn t3 ⊢
  have t3 := t2.trans t3
  refine Ok.bind_eq (s_textAt_ok hd.hb x) ?_
  generalize hz : (if codeH f' t' r' cs' x x = 0 then (txt t' (cs'.take (x - f').toNat), (0 : Int)) else ([], codeH f' t' r' cs' x x)) = z
  have hzl : z.1.length ≤ 120 := by
    by_cases h0 : codeH f' t' r' cs' x x = 0
    · obtain ⟨g, h1, _, h2⟩ := codeH_zero h0
      rw [if_pos h0] at hz
      have := text_in g (x - f').toNat
      rw [← hz]; dsimp only; omega
    · rw [if_neg h0] at hz
      rw [← hz]; simp
  refine Ok.bind (Q := fun v => (0 ≤ v.2.1 ∧ v.2.1 ≤ 120) ∧ v.2.2.1.length ≤ 120 ∧ (v.2.2.2.2.2.2.1 = f' ∧ v.2.2.2.2.2.2.2.1 = t' ∧ v.2.2.2.2.2.2.2.2.1 = r' ∧ v.2.2.2.2.2.2.2.2.2.1 = cs') ∧ To code 0 89100 v.2.2.2.2.2.2.2.2.2.2.1 v.2.2.2.2.2.2.2.2.2.2.2.1) ?_ ?_
  · refine Ok.ite (fun _ => ?_) fun _ => Ok.mk ⟨by dsimp only; omega, hzl, ⟨rfl, rfl, rfl, rfl⟩, t3.more (by omega)⟩
    refine (one_ok (t3.at (j := 2) (h.less (by omega)))).bind ?_
    rintro ⟨b, c4, a4, s4⟩ t4
    exact Ok.mk ⟨by dsimp only; omega, hzl, ⟨rfl, rfl, rfl, rfl⟩, (t3.trans t4).more (by omega)⟩
  rintro ⟨x2, n2, z2, b2, z3, z4, f3, t3', r3, cs3, c4, a4, s4⟩ ⟨q1, q2, ⟨e1, e2, e3, e4⟩, t4⟩
  dsimp only at q1 q2 e1 e2 e3 e4 t4 ⊢
  subst e1 e2 e3 e4
  refine Ok.bind (Q := fun v => (0 ≤ v.2.1 ∧ v.2.1 ≤ 120) ∧ (v.2.2.2.2.1 = f3 ∧ v.2.2.2.2.2.1 = t3' ∧ v.2.2.2.2.2.2.1 = r3 ∧ v.2.2.2.2.2.2.2.1 = cs3) ∧ To code 0 89100 v.2.2.2.2.2.2.2.2.1 v.2.2.2.2.2.2.2.2.2.1) ?_ ?_
  · exact Ok.ite (fun _ => Ok.mk ⟨by dsimp only; omega, ⟨rfl, rfl, rfl, rfl⟩, t4⟩) fun _ => Ok.mk ⟨by dsimp only; omega, ⟨rfl, rfl, rfl, rfl⟩, t4⟩
  rintro ⟨x3, n3, z5, z6, f4, t4', r4, cs4, c5, a5, s5⟩ ⟨q1, ⟨e1, e2, e3, e4⟩, t5⟩
  dsimp only at q1 e1 e2 e3 e4 t5 ⊢
  subst e1 e2 e3 e4
  refine (changeOf_ok 120 (by omega) (by omega) (by omega) (t5.at (j := 1224) (h.less (by omega)))).bind ?_
  rintro ⟨c, c6, a6, s6⟩ ⟨hc, t6⟩
  exact Ok.mk ⟨hd, hc.mono (by omega)⟩
end Go.V.G

set_option linter.unusedVariables false
set_option linter.unusedSimpArgs false
set_option maxRecDepth 100000
namespace Go.V.G
open Go.V
theorem carried_comp {a b c : List Prt} (ga : good a = true) (gb : good b = true) (gc : good c = true) (hab : src a = src b) (hbc : tgt b = src c) (gab : good (carried false a b) = true) :
    carried false (carried false a b) c = carried false a (composed b c) := by
  obtain ⟨gx, ax, sx, tx⟩ := composed_spec gb gc hbc
  obtain ⟨k1, k2⟩ := carried_spec false ga gb hab
  have hs : src (carried false a b) = src c := by
    obtain ⟨q1, q2, q3, q4, q5, q6⟩ := good_nS gab
    obtain ⟨r1, r2, r3, r4, r5, r6⟩ := good_nS gb
    obtain ⟨p1, p2, p3, p4, p5, p6⟩ := good_nS ga
    have h3 := carryA_nS false (atoms a) (atoms b) (by omega)
    rw [← k2] at h3
    omega
  obtain ⟨k3, k4⟩ := carried_spec false gab gc hs
  obtain ⟨k5, k6⟩ := carried_spec false ga gx (by omega)
  have na := src_nS (okk_some (good_spec ga).1)
  have nb := src_nS (okk_some (good_spec gb).1)
  have tb := tgt_nT (okk_some (good_spec gb).1)
  have nc := src_nS (okk_some (good_spec gc).1)
  apply norm_unique k3 k5
  rw [k4, k6, k2, ax]
  exact carry_comp (atoms b) (atoms c) (atoms a) (by omega) (by omega)
theorem btw_snoc (n : Int) (cs : List (List Prt)) (c : List Prt) : btw n (cs ++ [c]) = composed (btw n cs) c := by
  unfold btw; rw [List.foldl_append]; rfl
def crs (c : List Prt) (cs : List (List Prt)) : List Prt := cs.foldl (fun a d => carried false a d) c
theorem crs_take {c : List Prt} {cs : List (List Prt)} {i : Nat} (h : i < cs.length) : crs c (cs.take (i + 1)) = carried false (crs c (cs.take i)) cs[i] := by
  unfold crs; rw [List.take_succ_eq_append_getElem h, List.foldl_append]; rfl
theorem crs_btw {c : List Prt} {cs : List (List Prt)} (gc : good c = true) (hc : chn (src c) cs = true) : ∀ k, k ≤ cs.length → (∀ j, j ≤ k → good (crs c (cs.take j)) = true) → carried false c (btw (src c) (cs.take k)) = crs c (cs.take k)
  | 0, _, _ => by
    show carried false c (idc (src c)) = c
    exact carried_id gc
  | k + 1, hk, hg => by
    have ih := crs_btw gc hc k (by omega) (fun j hj => hg j (by omega))
    have hlt : k < cs.length := by omega
    obtain ⟨k1, k2, k3⟩ := chn_at hc hlt
    obtain ⟨q1, q2, q3, _⟩ := good_nS gc
    obtain ⟨b1, b2, b3⟩ := btw_spec (chn_take hc k).1 q2 q3
    have e : cs.take (k + 1) = cs.take k ++ [cs[k]] := List.take_succ_eq_append_getElem hlt
    rw [crs_take hlt, ← ih, e, btw_snoc]
    exact (carried_comp gc b1 k1 (by omega) (by omega) (by rw [ih]; exact hg k (by omega))).symm
theorem crs_src {c : List Prt} {cs : List (List Prt)} (gc : good c = true) (hc : chn (src c) cs = true) {k : Nat} (hk : k ≤ cs.length) (hg : ∀ j, j ≤ k → good (crs c (cs.take j)) = true) : src (crs c (cs.take k)) = endl (src c) (cs.take k) := by
  obtain ⟨q1, q2, q3, q4, q5, q6⟩ := good_nS gc
  obtain ⟨b1, b2, b3⟩ := btw_spec (chn_take hc k).1 q2 q3
  have e := crs_btw gc hc k hk hg
  obtain ⟨k1, k2⟩ := carried_spec false gc b1 b2.symm
  obtain ⟨r1, r2, r3, r4, r5, r6⟩ := good_nS b1
  obtain ⟨p1, p2, p3, _⟩ := good_nS (hg k (Nat.le_refl _))
  have h3 := carryA_nS false (atoms c) (atoms (btw (src c) (cs.take k))) (by omega)
  rw [← k2, e] at h3
  omega
end Go.V.G

set_option linter.unusedVariables false
set_option linter.unusedSimpArgs false
set_option maxRecDepth 100000
namespace Go.V.G
open Go.V
theorem rebased_law (code : List Int) (hb : Bytes code) : l_FnRebased code = some true := by
  unfold l_FnRebased
  refine Ok.eq (Ok.ite (fun _ => Ok.mk rfl) fun _ => ?_)
  refine (drawRebase_ok hb).bind ?_
  rintro ⟨b, c, f, t, r, cs⟩ ⟨hd, hc⟩
  dsimp only at hd hc ⊢
  have hcb : Sm 1099511627776 c := hc.mono (by omega)
  have hi : i_RebaseOf f t r cs b c = some (rebased f t r cs b c) := by unfold i_RebaseOf; rw [i_rebased_eq hd.hb hcb]; rfl
  refine Ok.bind_eq hi (Ok.bind_eq (s_rebased_eq hd.hb hcb f b) ?_)
  have hw : w_PartS (rebased f t r cs b c).1 ≤ 480 := rebased_w f b t r cs c
  have hl : (rebased f t r cs b c).1.length ≤ 480 := by rw [psum_w] at hw; omega
  refine Ok.bind (Q := fun v => v = (b, c, (rebased f t r cs b c).1, (rebased f t r cs b c).2, false, f, t, r, cs)) ?_ ?_
  · exact Ok.no (by simp) (Ok.bind_eq (sameParts_self (by omega)) (Ok.mk rfl))
  rintro _ rfl
  dsimp only
  refine Ok.no (by simp) (Ok.ite (fun _ => Ok.mk rfl) fun h0 => ?_)
  have h0' : (rebased f t r cs b c).2 = 0 := by simpa using h0
  obtain ⟨g, h1, h2, gc, sc, gx, sx, ex⟩ := rebased_good h0'
  have gf := g.hf; have gn := g.hn
  have w1 : IntKind.wrap .i64 (b - f) = b - f := w64 (by omega) (by omega)
  rw [w1]
  refine Ok.yes (by simp; omega) (Ok.yes (by simp; omega) (Ok.yes (by simp) (Ok.yes (by simp) ?_)))
  have es : (cs.drop (b - f).toNat).take (Int.toNat ((List.length cs : Nat) : Int) - (b - f).toNat) = cs.drop (b - f).toNat := by rw [Int.toNat_natCast]; exact seg_tail cs (b - f)
  rw [es]
  generalize hx : (rebased f t r cs b c).1 = x at *
  have hch : chn (src c) (cs.drop (b - f).toNat) = true := by
    rw [sc]
    exact (chn_take g.hc (b - f).toNat).2
  have hbt : between f t cs b (f + cs.length) = btw (src c) (cs.drop (b - f).toNat) := by
    rw [sc]
    unfold between
    have : seg cs (b - f) (f + cs.length - f) = cs.drop (b - f).toNat := by
      unfold seg
      rw [show (f + ((cs.length : Nat) : Int) - f).toNat = cs.length by omega]
      exact seg_tail cs (b - f)
    rw [this]
  rw [hbt] at ex
  generalize hds : cs.drop (b - f).toNat = ds at *
  have hdn : ds.length ≤ 60 := by rw [← hds, List.length_drop]; omega
  refine Ok.bind (Q := fun v => match v with | .inl y => y = (x, x) | .inr b => b = true) ?_ ?_
  · refine Ok.loop (fun y => ∃ k : Nat, k ≤ ds.length ∧ (∀ j, j ≤ k → good (crs c (ds.take j)) = true) ∧ y = (x, crs c (ds.take k), ds, ((ds.length : Nat) : Int), ((k : Nat) : Int))) (fun y => (((ds.length : Nat) : Int) - y.2.2.2.2).toNat)
      ⟨0, by omega, fun j hj => by rw [show j = 0 by omega]; exact gc, rfl⟩ ?_
    rintro _ ⟨k, hk, hg, rfl⟩
    unfold l_FnRebased_L1
    dsimp only
    refine Ok.ite (fun hq => ?_) fun hq => ?_
    · have hlt : k < ds.length := by simpa using hq
      obtain ⟨k1, k2, k3⟩ := chn_at hch hlt
      have hgk := hg k (Nat.le_refl _)
      have hsk := crs_src gc hch hk hg
      have hge : ds[0 + Int.toNat ((k : Nat) : Int)]? = some ds[k] := by rw [Nat.zero_add, Int.toNat_natCast]; exact List.getElem?_eq_getElem hlt
      refine Ok.yes (by simp) (Ok.yes (by simpa using hlt) (Ok.bind_eq hge (Ok.bind_eq hge (Ok.bind_eq (i_CarryChange_eq (good_sm hgk) (by omega) (good_sm k1) (by omega) false) ?_))))
      by_cases hgn : good (carried false (crs c (ds.take k)) ds[k]) = true
      · have ec : carryOf (crs c (ds.take k)) ds[k] false = (carried false (crs c (ds.take k)) ds[k], true) := by unfold carryOf; exact if_pos ⟨hgk, k1, by omega, hgn⟩
        rw [ec]
        have e1 : IntKind.wrap .i64 (((k : Nat) : Int) + 1) = ((k + 1 : Nat) : Int) := by rw [w64 (by omega) (by omega)]; omega
        refine Ok.no (by simp) (Ok.mk ⟨⟨k + 1, by omega, fun j hj => ?_, ?_⟩, ?_⟩)
        · by_cases hjk : j = k + 1
          · subst hjk; rw [crs_take hlt]; exact hgn
          · exact hg j (by omega)
        · rw [e1, crs_take hlt]
        · dsimp only; rw [e1]; omega
      · have ec : carryOf (crs c (ds.take k)) ds[k] false = ([], false) := by unfold carryOf; exact if_neg (fun hh => hgn hh.2.2.2)
        rw [ec]
        exact Ok.yes rfl (Ok.mk rfl)
    · have hke : k = ds.length := by simp at hq; omega
      refine Ok.mk ?_
      have := crs_btw gc hch k hk hg
      dsimp only
      rw [← this, hke, List.take_length, ← ex]
  · rintro (y | z) hv
    · dsimp only at hv ⊢
      subst hv
      exact Ok.bind_eq (sameParts_self (by dsimp only; omega)) (Ok.mk rfl)
    · dsimp only at hv ⊢
      subst hv
      exact Ok.mk rfl
end Go.V.G
namespace Go.Proofs.Ytcfbfpipfalieaa
open Go.V
theorem pure_FnRebased {e : TypeId} (x0 : List Int) (g0 : Fits (.sl false e (.int .u8)) x0) : G.l_FnRebased x0 = some true := G.rebased_law x0 (G.bytes_of g0)
end Go.Proofs.Ytcfbfpipfalieaa
