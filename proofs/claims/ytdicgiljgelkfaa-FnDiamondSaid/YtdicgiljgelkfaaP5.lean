/-
  P5: changes byte by byte: what 'tell' and 'l1Open' return; places across a change.
-/
import Derived.Test.YtdicgiljgelkfaaP4
set_option linter.unusedVariables false
set_option linter.unusedSimpArgs false
set_option maxRecDepth 100000
namespace Go.V.G
open Go.V

inductive Atom where
  | ins (b : UInt8)
  | keep
  | drop
  deriving DecidableEq
def mk (f : Bool) : Atom := if f = true then .keep else .drop
def pa (p : Prt) : List Atom := p.2.2.map Atom.ins ++ List.replicate (p.1 + p.2.1).toNat (mk (decide (0 < p.1)))
def atoms (c : List Prt) : List Atom := c.flatMap pa
def stays : List Atom → List Bool
  | [] => []
  | .ins _ :: l => stays l
  | .keep :: l => true :: stays l
  | .drop :: l => false :: stays l
def consHead (b : UInt8) : List (List UInt8) → List (List UInt8)
  | p :: ps => (b :: p) :: ps
  | [] => [[b]]
def puts : List Atom → List (List UInt8)
  | [] => [[]]
  | .ins b :: l => consHead b (puts l)
  | .keep :: l => [] :: puts l
  | .drop :: l => [] :: puts l
def nIns : List Atom → Nat
  | [] => 0
  | .ins _ :: l => nIns l + 1
  | _ :: l => nIns l

theorem atoms_nil : atoms [] = [] := rfl
theorem atoms_append (a b : List Prt) : atoms (a ++ b) = atoms a ++ atoms b := by simp [atoms]
theorem atoms_take {c : List Prt} {i : Nat} (h : i < c.length) : atoms (c.take (i + 1)) = atoms (c.take i) ++ pa c[i] := by
  rw [List.take_succ_eq_append_getElem h, atoms_append]; simp [atoms]
theorem stays_append : ∀ a b : List Atom, stays (a ++ b) = stays a ++ stays b
  | [], b => rfl
  | .ins _ :: a, b => stays_append a b
  | .keep :: a, b => congrArg (true :: ·) (stays_append a b)
  | .drop :: a, b => congrArg (false :: ·) (stays_append a b)
theorem stays_ins : ∀ s : List UInt8, stays (s.map Atom.ins) = []
  | [] => rfl
  | _ :: s => stays_ins s
theorem stays_rep (f : Bool) : ∀ m : Nat, stays (List.replicate m (mk f)) = List.replicate m f
  | 0 => rfl
  | m + 1 => by
    rw [List.replicate_succ, List.replicate_succ, ← stays_rep f m]
    cases f <;> rfl
theorem consHead_ne (b : UInt8) (P : List (List UInt8)) : consHead b P ≠ [] := by cases P <;> simp [consHead]
theorem puts_ne : ∀ l : List Atom, puts l ≠ []
  | [] => by simp [puts]
  | .ins b :: l => consHead_ne b _
  | .keep :: l => by simp [puts]
  | .drop :: l => by simp [puts]
theorem consHead_len (b : UInt8) {P : List (List UInt8)} (h : P ≠ []) : (consHead b P).length = P.length := by cases P with
  | nil => exact absurd rfl h
  | cons => rfl
theorem puts_len : ∀ l : List Atom, (puts l).length = (stays l).length + 1
  | [] => rfl
  | .ins b :: l => by rw [puts, consHead_len b (puts_ne l), puts_len l]; rfl
  | .keep :: l => by simp [puts, stays, puts_len l]
  | .drop :: l => by simp [puts, stays, puts_len l]
theorem consHead_append (b : UInt8) {P : List (List UInt8)} (h : P ≠ []) (Q : List (List UInt8)) : consHead b (P ++ Q) = consHead b P ++ Q := by cases P with
  | nil => exact absurd rfl h
  | cons => rfl
theorem puts_rep (f : Bool) : ∀ (l : List Atom) (m : Nat), puts (l ++ List.replicate m (mk f)) = puts l ++ List.replicate m []
  | [], m => by
    induction m with
    | zero => rfl
    | succ m ih =>
      rw [List.nil_append] at ih ⊢
      rw [List.replicate_succ, List.replicate_succ]
      cases f <;> (show [] :: puts _ = _; rw [ih]; rfl)
  | .ins b :: l, m => by
    show consHead b (puts (l ++ _)) = consHead b (puts l) ++ _
    rw [puts_rep f l m, consHead_append b (puts_ne l)]
  | .keep :: l, m => congrArg ([] :: ·) (puts_rep f l m)
  | .drop :: l, m => congrArg ([] :: ·) (puts_rep f l m)
theorem puts_map : ∀ s : List UInt8, puts (s.map Atom.ins) = [s]
  | [] => rfl
  | b :: s => by show consHead b (puts (s.map Atom.ins)) = _; rw [puts_map s]; rfl
theorem puts_ins (s : List UInt8) : ∀ l : List Atom, puts (l ++ s.map Atom.ins) = (puts l).dropLast ++ [((puts l).getLast?).getD [] ++ s]
  | [] => by rw [List.nil_append, puts_map]; rfl
  | .ins b :: l => by
    show consHead b (puts (l ++ _)) = _
    rw [puts_ins s l]
    show _ = (consHead b (puts l)).dropLast ++ [((consHead b (puts l)).getLast?).getD [] ++ s]
    have := puts_ne l
    match puts l, this with
    | [p], _ => rfl
    | p :: q :: ps, _ => rfl
  | .keep :: l => by
    show [] :: puts (l ++ _) = ([] :: puts l).dropLast ++ [(([] :: puts l).getLast?).getD [] ++ s]
    rw [puts_ins s l]
    have := puts_ne l
    match puts l, this with
    | p :: ps, _ => rfl
  | .drop :: l => by
    show [] :: puts (l ++ _) = ([] :: puts l).dropLast ++ [(([] :: puts l).getLast?).getD [] ++ s]
    rw [puts_ins s l]
    have := puts_ne l
    match puts l, this with
    | p :: ps, _ => rfl
theorem nIns_append : ∀ a b : List Atom, nIns (a ++ b) = nIns a + nIns b
  | [], b => by simp [nIns]
  | .ins _ :: a, b => by simp only [List.cons_append, nIns, nIns_append a b]; omega
  | .keep :: a, b => nIns_append a b
  | .drop :: a, b => nIns_append a b
theorem nIns_map : ∀ s : List UInt8, nIns (s.map Atom.ins) = s.length
  | [] => rfl
  | _ :: s => by simp only [List.map_cons, nIns, nIns_map s, List.length_cons]
theorem nIns_rep (f : Bool) : ∀ m : Nat, nIns (List.replicate m (mk f)) = 0
  | 0 => rfl
  | m + 1 => by rw [List.replicate_succ]; cases f <;> exact nIns_rep _ m
theorem nIns_pa (p : Prt) : nIns (pa p) = p.2.2.length := by rw [pa, nIns_append, nIns_map, nIns_rep]; rfl
theorem nIns_atoms : ∀ c : List Prt, nIns (atoms c) = psum c
  | [] => rfl
  | p :: c => by
    show nIns (pa p ++ atoms c) = _
    rw [nIns_append, nIns_pa, nIns_atoms c]; rfl
theorem put_le : ∀ (l : List Atom), ∀ p ∈ puts l, p.length ≤ nIns l
  | [], p, h => by rw [List.mem_singleton.1 h]; simp
  | .ins b :: l, p, h => by
    have ih := put_le l
    simp only [puts] at h
    simp only [nIns]
    match hp : puts l, h with
    | q :: qs, h =>
      rw [hp] at ih
      rcases List.mem_cons.1 h with rfl | h
      · have := ih q (by simp); simp only [List.length_cons]; omega
      · have := ih p (by simp [h]); omega
    | [], h => exact absurd hp (puts_ne l)
  | .keep :: l, p, h => by
    rcases List.mem_cons.1 h with rfl | h
    · simp
    · exact put_le l p h
  | .drop :: l, p, h => by
    rcases List.mem_cons.1 h with rfl | h
    · simp
    · exact put_le l p h
theorem stays_pa (p : Prt) : stays (pa p) = List.replicate (p.1 + p.2.1).toNat (decide (0 < p.1)) := by rw [pa, stays_append, stays_ins, stays_rep]; rfl
theorem stays_len : ∀ {c : List Prt}, (∀ p ∈ c, Some1 p) → (((stays (atoms c)).length : Nat) : Int) = src c
  | [], _ => rfl
  | p :: c, h => by
    have ih := stays_len (c := c) fun q hq => h q (by simp [hq])
    have h1 := h p (by simp)
    have := h1.k; have := h1.d
    show (((stays (pa p ++ atoms c)).length : Nat) : Int) = p.1 + p.2.1 + src c
    rw [stays_append, stays_pa, List.length_append, List.length_replicate]
    omega

/-! ### a part's bytes are laid behind -/
theorem room1 {n b : Nat} (h : n ≤ 1099511627776) (hb : b ≤ 32) : roomFor (n + 1) b = true := by
  simp only [roomFor, decide_eq_true_eq]
  have : (n + 1) * b ≤ (1099511627776 + 1) * 32 := Nat.mul_le_mul (by omega) hb
  omega
theorem tell_inner {c : List Prt} {n i : Int} {S : List Bool} {P : List (List UInt8)} {k d : Int} {s : List UInt8} {m : Nat} (hS : S.length + m ≤ 1099511627776) (hP : P.length + m ≤ 1099511627776) :
    loopG i_tell_L1 (c, n, i, ((m : Nat) : Int), 0, S, P, k, d, s) = some (c, n, i, S ++ List.replicate m (decide (0 < k)), P ++ List.replicate m []) := by
  have := loop_run i_tell_L1 (fun q => (c, n, i, ((m : Nat) : Int), ((q : Nat) : Int), S ++ List.replicate q (decide (0 < k)), P ++ List.replicate q [], k, d, s)) m (c, n, i, S ++ List.replicate m (decide (0 < k)), P ++ List.replicate m []) (by
    intro q hq
    have h1 : ((q : Nat) : Int) < ((m : Nat) : Int) := by omega
    have h2 : roomFor (List.length (S ++ List.replicate q (decide (0 < k))) + List.length ([decide ((0 : Int) < k)] : List Bool)) 1 = true := room1 (by simp; omega) (by omega)
    have h3 : roomFor (List.length (P ++ List.replicate q []) + List.length ([([] : List UInt8)] : List (List UInt8))) 16 = true := room1 (by simp; omega) (by omega)
    unfold i_tell_L1
    simp only [h1, h2, h3, decide_true, if_true, idx_succ (show m ≤ 1099511627776 by omega) hq, List.replicate_succ', List.append_assoc]) (by simp [i_tell_L1])
  simpa using this
theorem open_inner {c : List Prt} {n i : Int} {S : List Bool} {P : List (List UInt8)} {k d : Int} {s : List UInt8} {m : Nat} (hkd : IntKind.wrap .i64 (k + d) = ((m : Nat) : Int)) (hS : S.length + m ≤ 1099511627776) (hP : P.length + m ≤ 1099511627776) :
    loopG s_l1Open_L1 (0, c, n, i, S, P, k, d, s) = some (c, n, i, S ++ List.replicate m (decide (0 < k)), P ++ List.replicate m []) := by
  have := loop_run s_l1Open_L1 (fun q => (((q : Nat) : Int), c, n, i, S ++ List.replicate q (decide (0 < k)), P ++ List.replicate q [], k, d, s)) m (c, n, i, S ++ List.replicate m (decide (0 < k)), P ++ List.replicate m []) (by
    intro q hq
    have h1 : ((q : Nat) : Int) < ((m : Nat) : Int) := by omega
    have h2 : roomFor (List.length (S ++ List.replicate q (decide (0 < k))) + List.length ([decide ((0 : Int) < k)] : List Bool)) 1 = true := room1 (by simp; omega) (by omega)
    have h3 : roomFor (List.length (P ++ List.replicate q []) + List.length ([([] : List UInt8)] : List (List UInt8))) 16 = true := room1 (by simp; omega) (by omega)
    unfold s_l1Open_L1
    simp only [hkd, h1, h2, h3, decide_true, if_true, idx_succ (show m ≤ 1099511627776 by omega) hq, List.replicate_succ', List.append_assoc]) (by simp [s_l1Open_L1, hkd])
  simpa using this

/-- one round of either -/
theorem tell_step {c : List Prt} {i : Nat} (hlt : i < c.length) : ∃ q : List UInt8, (puts (atoms (c.take i)))[(stays (atoms (c.take i))).length]? = some q ∧ q.length ≤ psum c ∧
    stays (atoms (c.take (i + 1))) = stays (atoms (c.take i)) ++ List.replicate (c[i].1 + c[i].2.1).toNat (decide (0 < c[i].1)) ∧
    puts (atoms (c.take (i + 1))) = ((puts (atoms (c.take i))).set (stays (atoms (c.take i))).length (q ++ c[i].2.2)) ++ List.replicate (c[i].1 + c[i].2.1).toNat [] := by
  obtain ⟨n, hn, hq, hset⟩ := len_last (List.getLast?_eq_some_getLast (puts_ne (atoms (c.take i))))
  have e : n = (stays (atoms (c.take i))).length := by have := puts_len (atoms (c.take i)); omega
  subst e
  refine ⟨_, hq, ?_, ?_, ?_⟩
  · have h1 := put_le _ _ (List.mem_of_getElem? hq)
    rw [nIns_atoms] at h1
    have h2 : psum c = psum (c.take i) + psum (c.drop i) := by rw [← psum_append, List.take_append_drop]
    omega
  · rw [atoms_take hlt, stays_append, stays_pa]
  · rw [atoms_take hlt, pa, ← List.append_assoc, puts_rep, puts_ins, hset, List.getLast?_eq_some_getLast (puts_ne _)]; rfl

theorem i_tell_eq {B : Nat} {c : List Prt} (h : Sm B c) (hB : B ≤ 1099511627000) (hs : ∀ p ∈ c, Some1 p) (hle : src c ≤ 1000000) : i_tell c = some (stays (atoms c), puts (atoms c)) := by
  have hlen := Nat.le_trans h.len hB
  have hput := Nat.le_trans h.put hB
  unfold i_tell
  have : loopG i_tell_L2 (c, ((List.length c : Nat) : Int), 0, [], [([] : List UInt8)]) = some (stays (atoms c), puts (atoms c)) := by
    have := loop_run i_tell_L2 (fun k => (c, ((List.length c : Nat) : Int), ((k : Nat) : Int), stays (atoms (c.take k)), puts (atoms (c.take k)))) c.length (stays (atoms c), puts (atoms c)) (by
      intro i hlt
      obtain ⟨q, h1, h2, h3, h4⟩ := tell_step hlt
      have hp := hs _ (List.getElem_mem hlt)
      have hpp := psum_mem (List.getElem_mem hlt)
      have k0 := hp.k; have d0 := hp.d
      have n1 := src_nonneg (l := c.take i) fun p h => hs p (mem_take h)
      have n3 := src_nonneg (l := c.drop (i + 1)) fun p h => hs p (mem_drop h)
      have a1 := src_at hlt
      have sl := stays_len (c := c.take i) fun p h => hs p (mem_take h)
      have pl := puts_len (atoms (c.take i))
      have hi : ((i : Nat) : Int) < ((List.length c : Nat) : Int) := by omega
      have e1 : IntKind.wrap .i64 (((List.length (puts (atoms (c.take i))) : Nat) : Int) - 1) = (((stays (atoms (c.take i))).length : Nat) : Int) := by rw [w64 (by omega) (by omega)]; omega
      have g1 : (((stays (atoms (c.take i))).length : Nat) : Int) < ((List.length (puts (atoms (c.take i))) : Nat) : Int) := by omega
      have g0 : (0 : Int) ≤ (((stays (atoms (c.take i))).length : Nat) : Int) := by omega
      have g2 : List.length q + List.length c[i].2.2 ≤ 9223372036854775807 := by omega
      have g3 : IntKind.wrap .i64 (c[i].1 + c[i].2.1) = (((c[i].1 + c[i].2.1).toNat : Nat) : Int) := by rw [w64 (by omega) (by omega)]; omega
      unfold i_tell_L2
      simp only [hi, e1, g0, g1, g2, g3, decide_true, if_true, Int.toNat_natCast, List.getElem?_eq_getElem hlt, Option.bind_some, Nat.zero_add, h1,
        show (0 : Int) ≤ ((i : Nat) : Int) from by omega]
      rw [tell_inner (by omega) (by rw [List.length_set]; omega), Option.bind_some]
      simp only [idx_succ (Nat.le_trans hlen (by omega)) hlt, h3, h4]) (by simp [i_tell_L2])
    simpa [atoms, stays, puts] using this
  rw [this]; rfl
theorem s_Open_eq {B : Nat} {c : List Prt} (h : Sm B c) (hB : B ≤ 1099511627000) (hs : ∀ p ∈ c, Some1 p) (hle : src c ≤ 1000000) : s_l1Open c = some (stays (atoms c), puts (atoms c)) := by
  have hlen := Nat.le_trans h.len hB
  have hput := Nat.le_trans h.put hB
  unfold s_l1Open
  have : loopG s_l1Open_L2 (c, ((List.length c : Nat) : Int), 0, [], [([] : List UInt8)]) = some (stays (atoms c), puts (atoms c)) := by
    have := loop_run s_l1Open_L2 (fun k => (c, ((List.length c : Nat) : Int), ((k : Nat) : Int), stays (atoms (c.take k)), puts (atoms (c.take k)))) c.length (stays (atoms c), puts (atoms c)) (by
      intro i hlt
      obtain ⟨q, h1, h2, h3, h4⟩ := tell_step hlt
      have hp := hs _ (List.getElem_mem hlt)
      have hpp := psum_mem (List.getElem_mem hlt)
      have k0 := hp.k; have d0 := hp.d
      have n1 := src_nonneg (l := c.take i) fun p h => hs p (mem_take h)
      have n3 := src_nonneg (l := c.drop (i + 1)) fun p h => hs p (mem_drop h)
      have a1 := src_at hlt
      have sl := stays_len (c := c.take i) fun p h => hs p (mem_take h)
      have pl := puts_len (atoms (c.take i))
      have hi : ((i : Nat) : Int) < ((List.length c : Nat) : Int) := by omega
      have e1 : IntKind.wrap .i64 (((List.length (puts (atoms (c.take i))) : Nat) : Int) - 1) = (((stays (atoms (c.take i))).length : Nat) : Int) := by rw [w64 (by omega) (by omega)]; omega
      have g1 : (((stays (atoms (c.take i))).length : Nat) : Int) < ((List.length (puts (atoms (c.take i))) : Nat) : Int) := by omega
      have g0 : (0 : Int) ≤ (((stays (atoms (c.take i))).length : Nat) : Int) := by omega
      have g2 : List.length q + List.length c[i].2.2 ≤ 9223372036854775807 := by omega
      have g3 : IntKind.wrap .i64 (c[i].1 + c[i].2.1) = (((c[i].1 + c[i].2.1).toNat : Nat) : Int) := by rw [w64 (by omega) (by omega)]; omega
      unfold s_l1Open_L2
      simp only [hi, e1, g0, g1, g2, decide_true, if_true, Int.toNat_natCast, List.getElem?_eq_getElem hlt, Option.bind_some, Nat.zero_add, h1,
        show (0 : Int) ≤ ((i : Nat) : Int) from by omega]
      rw [open_inner g3 (by omega) (by rw [List.length_set]; omega), Option.bind_some]
      simp only [idx_succ (Nat.le_trans hlen (by omega)) hlt, h3, h4]) (by simp [s_l1Open_L2])
    simpa [atoms, stays, puts] using this
  rw [this]; rfl
end Go.V.G
