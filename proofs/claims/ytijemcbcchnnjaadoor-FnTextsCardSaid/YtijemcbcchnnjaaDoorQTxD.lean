import Derived.Test.YtijemcbcchnnjaaDoorQTxC
set_option linter.unusedVariables false
set_option linter.unusedSimpArgs false
set_option maxRecDepth 100000
namespace Go.V.G
open Go.V
theorem inter_snoc (s x : List UInt8) : ∀ l : List (List UInt8), l ≠ [] → s.intercalate (l ++ [x]) = s.intercalate l ++ (s ++ x)
  | [], h => absurd rfl h
  | [a], _ => by simp [List.intercalate]
  | a :: b :: l, _ => by
    have ih := inter_snoc s x (b :: l) (by simp)
    simp only [List.intercalate, List.cons_append, List.intersperse_cons_cons, List.flatten_cons] at ih ⊢
    rw [ih]
    simp
theorem inter_len (s : List UInt8) (B : Nat) : ∀ l : List (List UInt8), (∀ x ∈ l, x.length ≤ B) → (s.intercalate l).length ≤ l.length * (B + s.length)
  | [], _ => by simp [List.intercalate]
  | [a], h => by
    have := h a (by simp)
    simp [List.intercalate]; omega
  | a :: b :: l, h => by
    have ih := inter_len s B (b :: l) (fun x hx => h x (List.mem_cons_of_mem _ hx))
    have := h a (by simp)
    simp only [List.intercalate, List.intersperse_cons_cons, List.flatten_cons, List.length_append, List.length_cons, Nat.succ_mul] at ih ⊢
    omega
def wordOf (p : Prt) : List UInt8 := if kd p = 1 then 61 :: itoaF p.1 else if kd p = 2 then 45 :: itoaF p.2.1 else 43 :: told p.2.2
def ctext (c : List Prt) : List UInt8 := if c = [] then [46] else ([32] : List UInt8).intercalate (c.map wordOf)
structure Gp (p : Prt) : Prop where
  k0 : 0 ≤ p.1
  k1 : p.1 ≤ 120
  d0 : 0 ≤ p.2.1
  d1 : p.2.1 ≤ 120
  s1 : p.2.2.length ≤ 120
  ne : kd p ≠ 0
theorem gp_of {c : List Prt} (h : good c = true) {p : Prt} (hp : p ∈ c) : Gp p := by
  obtain ⟨h1, h2, h3⟩ := good_spec h
  have hs := okk_some h1 p hp
  have hm := part_small h hp
  have := hs.k; have := hs.d
  exact ⟨hs.k, by omega, hs.d, by omega, by omega, hs.ne⟩
theorem kd_three (p : Prt) (h : kd p ≠ 0) : (kd p = 1 ∧ 0 < p.1) ∨ (kd p = 2 ∧ p.1 = 0 ∧ 0 < p.2.1) ∨ (kd p = 3 ∧ p.1 = 0 ∧ p.2.1 = 0) := by
  unfold kd at h ⊢
  split
  · rename_i h1; exact .inl ⟨rfl, h1.1⟩
  · split
    · rename_i h1; exact .inr (.inl ⟨rfl, h1.2.1, h1.1⟩)
    · split
      · rename_i h1; exact .inr (.inr ⟨rfl, h1.2⟩)
      · rename_i h1 h2 h3; rw [if_neg h1, if_neg h2, if_neg h3] at h; exact absurd rfl h
theorem word_len {p : Prt} (h : Gp p) : (wordOf p).length ≤ 361 := by
  have a1 := itoaF_len h.k0 (by have := h.k1; omega)
  have a2 := itoaF_len h.d0 (by have := h.d1; omega)
  have a3 := told_len p.2.2
  have a4 := h.s1
  unfold wordOf
  split
  · simp only [List.length_cons]; omega
  · split <;> (simp only [List.length_cons]; omega)
theorem inter_take {c : List Prt} {k : Nat} (hk : k < c.length) :
    ([32] : List UInt8).intercalate ((c.take (k + 1)).map wordOf) = (([32] : List UInt8).intercalate ((c.take k).map wordOf) ++ if 0 < k then [32] else []) ++ wordOf c[k] := by
  rw [List.take_succ_eq_append_getElem hk, List.map_append]
  cases k with
  | zero => simp [List.intercalate]
  | succ k =>
    rw [List.map_singleton, inter_snoc _ _ _ (by
      intro h
      have := congrArg List.length h
      rw [List.length_map, List.length_take, List.length_nil] at this
      omega), if_pos (by omega), List.append_assoc]
theorem s_ctext_step {c : List Prt} (hc : c.length ≤ 1099511627776) {out : List UInt8} (ho : out.length ≤ 1099511627776) {k : Nat} (hk : k < c.length) (hp : Gp c[k]) :
    s_l14Change_L1 (out, c, ((List.length c : Nat) : Int), ((k : Nat) : Int)) = some (.inl ((out ++ if 0 < k then [32] else []) ++ wordOf c[k], c, ((List.length c : Nat) : Int), ((k + 1 : Nat) : Int))) := by
  have i1 : (((k : Nat) : Int) < ((List.length c : Nat) : Int)) := by omega
  have i2 : (0 : Int) ≤ ((k : Nat) : Int) := by omega
  have i3 : IntKind.wrap .i64 (((k : Nat) : Int) + 1) = ((k + 1 : Nat) : Int) := idx_succ hc hk
  have a1 := itoaF_len hp.k0 (by have := hp.k1; omega)
  have a2 := itoaF_len hp.d0 (by have := hp.d1; omega)
  have a3 := told_len c[k].2.2
  have a4 := hp.s1
  have b1 := s_num_eq hp.k0 (by have := hp.k1; omega)
  have b2 := s_num_eq hp.d0 (by have := hp.d1; omega)
  have b3 := s_told_eq (xs := c[k].2.2) (by omega)
  have z1 : ([61] : List UInt8).length + (itoaF c[k].1).length ≤ 9223372036854775807 := by simp only [List.length_singleton]; omega
  have z2 : ([45] : List UInt8).length + (itoaF c[k].2.1).length ≤ 9223372036854775807 := by simp only [List.length_singleton]; omega
  have z3 : ([43] : List UInt8).length + (told c[k].2.2).length ≤ 9223372036854775807 := by simp only [List.length_singleton]; omega
  have e0 : (if (decide ((0 : Int) < ((k : Nat) : Int))) = true then
      (if (decide ((List.length out + List.length ([32] : List UInt8) : Nat) ≤ 9223372036854775807)) = true then some ((out : List UInt8) ++ ([32] : List UInt8), c, ((List.length c : Nat) : Int), ((k : Nat) : Int), c[k].1, c[k].2.1, c[k].2.2) else none)
      else some (out, c, ((List.length c : Nat) : Int), ((k : Nat) : Int), c[k].1, c[k].2.1, c[k].2.2)) = some (out ++ (if 0 < k then [32] else []), c, ((List.length c : Nat) : Int), ((k : Nat) : Int), c[k].1, c[k].2.1, c[k].2.2) := by
    by_cases h : 0 < k
    · rw [if_pos (by simp; omega), if_pos (by simp; omega), if_pos h]
    · rw [if_neg (by simp; omega), if_neg h, List.append_nil]
  have hol : (out ++ if 0 < k then [32] else []).length ≤ 1099511627777 := by rw [List.length_append]; split <;> simp <;> omega
  unfold s_l14Change_L1
  dsimp only
  rw [if_pos (by simpa using i1), if_pos (by simp), Int.toNat_natCast, List.getElem?_eq_getElem hk, Option.bind_some, e0, Option.bind_some]
  generalize (out ++ if 0 < k then [32] else []) = o at hol
  dsimp only
  rcases kd_three _ hp.ne with ⟨h1, h2⟩ | ⟨h1, h2, h3⟩ | ⟨h1, h2, h3⟩
  · rw [if_pos (by simpa using h2), b1, Option.bind_some, if_pos (by simpa using z1), if_pos (by simp only [List.length_append, List.length_singleton, decide_eq_true_eq] at z1 ⊢; omega), Option.bind_some]
    unfold wordOf
    rw [if_pos h1, i3]
    rfl
  · rw [if_neg (by simp; omega), if_pos (by simpa using h3), b2, Option.bind_some, if_pos (by simpa using z2), if_pos (by simp only [List.length_append, List.length_singleton, decide_eq_true_eq] at z2 ⊢; omega), Option.bind_some, Option.bind_some]
    unfold wordOf
    rw [if_neg (by omega), if_pos h1, i3]
    rfl
  · rw [if_neg (by simp; omega), if_neg (by simp; omega), b3, Option.bind_some, if_pos (by simpa using z3), if_pos (by simp only [List.length_append, List.length_singleton, decide_eq_true_eq] at z3 ⊢; omega), Option.bind_some, Option.bind_some]
    unfold wordOf
    rw [if_neg (by omega), if_neg (by omega), i3]
    rfl
theorem words_len {c : List Prt} (h : good c = true) (k : Nat) : (([32] : List UInt8).intercalate ((c.take k).map wordOf)).length ≤ c.length * 362 := by
  have := inter_len [32] 361 ((c.take k).map wordOf) (by
    intro x hx
    obtain ⟨p, hp, rfl⟩ := List.mem_map.1 hx
    exact word_len (gp_of h (mem_take hp)))
  rw [List.length_map, List.length_take, List.length_singleton] at this
  have h2 : min k c.length * (361 + 1) ≤ c.length * 362 := Nat.mul_le_mul_right _ (Nat.min_le_right _ _)
  omega
theorem s_ctext_eq {c : List Prt} (h : good c = true) : s_l14Change c = some (ctext c) := by
  unfold s_l14Change ctext
  by_cases h0 : c = []
  · subst h0; rfl
  have hl := (good_sm h).len
  rw [if_neg (by have := List.length_pos_iff.2 h0; simp; omega), if_neg h0]
  have hr := loop_run s_l14Change_L1 (fun k => (([32] : List UInt8).intercalate ((c.take k).map wordOf), c, ((List.length c : Nat) : Int), ((k : Nat) : Int))) c.length (([32] : List UInt8).intercalate (c.map wordOf)) (by
    intro k hk
    have hw := words_len h k
    rw [s_ctext_step (by omega) (by omega) hk (gp_of h (List.getElem_mem hk)), inter_take hk]) (by
    unfold s_l14Change_L1
    dsimp only
    rw [if_neg (by simp), List.take_length])
  rw [show (([] : List UInt8), c, ((List.length c : Nat) : Int), (0 : Int)) = (([32] : List UInt8).intercalate ((c.take 0).map wordOf), c, ((List.length c : Nat) : Int), ((0 : Nat) : Int)) from rfl, hr]
  rfl
theorem i_ctext_step {c : List Prt} (hc : c.length ≤ 1099511627776) {ws : List (List UInt8)} (ho : ws.length ≤ 1099511627776) {k : Nat} (hk : k < c.length) (hp : Gp c[k]) :
    i_changeText_L1 (ws, c, ((List.length c : Nat) : Int), ((k : Nat) : Int)) = some (.inl (ws ++ [wordOf c[k]], c, ((List.length c : Nat) : Int), ((k + 1 : Nat) : Int))) := by
  have i1 : (((k : Nat) : Int) < ((List.length c : Nat) : Int)) := by omega
  have i3 : IntKind.wrap .i64 (((k : Nat) : Int) + 1) = ((k + 1 : Nat) : Int) := idx_succ hc hk
  have a1 := itoaF_len hp.k0 (by have := hp.k1; omega)
  have a2 := itoaF_len hp.d0 (by have := hp.d1; omega)
  have a3 := told_len c[k].2.2
  have a4 := hp.s1
  have b1 := itoa_eq hp.k0 (by have := hp.k1; omega)
  have b2 := itoa_eq hp.d0 (by have := hp.d1; omega)
  have b3 := i_coded_eq (xs := c[k].2.2) (by omega)
  have z1 : ([61] : List UInt8).length + (itoaF c[k].1).length ≤ 9223372036854775807 := by simp only [List.length_singleton]; omega
  have z2 : ([45] : List UInt8).length + (itoaF c[k].2.1).length ≤ 9223372036854775807 := by simp only [List.length_singleton]; omega
  have z3 : ([43] : List UInt8).length + (told c[k].2.2).length ≤ 9223372036854775807 := by simp only [List.length_singleton]; omega
  have hr : ∀ x : List UInt8, roomFor (List.length ws + List.length ([x] : List (List UInt8))) 16 = true := by intro x; unfold roomFor; simp only [List.length_singleton, decide_eq_true_eq]; omega
  unfold i_changeText_L1
  dsimp only
  rw [if_pos (by simpa using i1), if_pos (by simp), Int.toNat_natCast, List.getElem?_eq_getElem hk, Option.bind_some, i_kind_eq, Option.bind_some]
  rcases kd_three _ hp.ne with ⟨h1, h2⟩ | ⟨h1, h2, h3⟩ | ⟨h1, h2, h3⟩
  · rw [if_pos (by simpa using h1), b1, Option.bind_some, if_pos (by simpa using z1), if_pos (hr _), Option.bind_some]
    unfold wordOf
    rw [if_pos h1, i3]
    rfl
  · rw [if_neg (by rw [h1]; decide), if_pos (by simpa using h1), b2, Option.bind_some, if_pos (by simpa using z2), if_pos (hr _), Option.bind_some, Option.bind_some]
    unfold wordOf
    rw [if_neg (by omega), if_pos h1, i3]
    rfl
  · rw [if_neg (by rw [h1]; decide), if_neg (by rw [h1]; decide), b3, Option.bind_some, if_pos (by simpa using z3), if_pos (hr _), Option.bind_some, Option.bind_some]
    unfold wordOf
    rw [if_neg (by omega), if_neg (by omega), i3]
    rfl
theorem i_ctext_eq {c : List Prt} (h : good c = true) : i_changeText c = some (ctext c) := by
  unfold i_changeText ctext
  have hl := (good_sm h).len
  have hr := loop_run i_changeText_L1 (fun k => ((c.take k).map wordOf, c, ((List.length c : Nat) : Int), ((k : Nat) : Int))) c.length (c.map wordOf) (by
    intro k hk
    rw [i_ctext_step (by omega) (by rw [List.length_map, List.length_take]; omega) hk (gp_of h (List.getElem_mem hk)), List.take_succ_eq_append_getElem hk, List.map_append]
    rfl) (by
    unfold i_changeText_L1
    dsimp only
    rw [if_neg (by simp), List.take_length])
  rw [show (([] : List (List UInt8)), c, ((List.length c : Nat) : Int), (0 : Int)) = ((c.take 0).map wordOf, c, ((List.length c : Nat) : Int), ((0 : Nat) : Int)) from rfl, hr, Option.bind_some]
  by_cases h0 : c = []
  · subst h0; rfl
  rw [if_neg (by have := List.length_pos_iff.2 h0; simp; omega), if_neg h0]
  have hw := words_len h c.length
  rw [List.take_length] at hw
  unfold strings_Join
  rw [if_pos ⟨by rw [List.length_map]; omega, by omega⟩]
  rfl
theorem i_changeText_of {B : Nat} {c : List Prt} (hs : Sm B c) (hB : B ≤ 1099511627776) : i_ChangeText c = some (if good c = true then (ctext c, true) else ([], false)) := by
  unfold i_ChangeText
  rw [i_Good_eq hs hB, Option.bind_some]
  by_cases h : good c = true
  · rw [if_neg (by simp [h]), i_ctext_eq h, if_pos h]; rfl
  · rw [if_pos (by simpa using h), if_neg h]
theorem s_changeText_of {B : Nat} {c : List Prt} (hs : Sm B c) (hB : B ≤ 1099511627776) : s_ChangeText c = some (if good c = true then (ctext c, true) else ([], false)) := by
  unfold s_ChangeText
  rw [s_Good_eq hs hB, Option.bind_some]
  by_cases h : good c = true
  · rw [if_neg (by simp [h]), s_ctext_eq h, if_pos h]; rfl
  · rw [if_pos (by simpa using h), if_neg h]
end Go.V.G

set_option linter.unusedVariables false
set_option linter.unusedSimpArgs false
set_option maxRecDepth 100000
namespace Go.V.G
open Go.V
def iW : List UInt8 → Option Prt
  | [] => none
  | c :: r => if c = 61 ∧ 0 < numF r then some (numF r, 0, []) else if c = 45 ∧ 0 < numF r then some (0, numF r, []) else if c = 43 then (unt r).map fun t => (0, 0, t) else none
theorem iW_cons (c : UInt8) (r : List UInt8) : iW (c :: r) = if c = 61 ∧ 0 < numF r then some (numF r, 0, []) else if c = 45 ∧ 0 < numF r then some (0, numF r, []) else if c = 43 then (unt r).map fun t => (0, 0, t) else none := rfl
def mapO (f : List UInt8 → Option Prt) : List (List UInt8) → Option (List Prt)
  | [] => some []
  | w :: ws => match f w, mapO f ws with
    | some p, some ps => some (p :: ps)
    | _, _ => none
def resW (f : List UInt8 → Option Prt) (ws : List (List UInt8)) : List Prt × Bool := match mapO f ws with
  | none => ([], false)
  | some ps => if good ps = true then (ps, true) else ([], false)
def readT (x : List UInt8) : List Prt × Bool := if x = [46] then ([], true) else resW iW (splitF 32 x)
def Bad (o : Option Prt) : Prop := ∀ p, o = some p → kd p = 0
theorem num_le (r : List UInt8) : -1 ≤ numF r ∧ numF r ≤ 9999 := by
  rcases num_cases r with h | ⟨m, h1, h2, _⟩
  · rw [h]; omega
  · rw [h2]; omega
theorem mapO_mem {f : List UInt8 → Option Prt} : ∀ {ws : List (List UInt8)} {ps : List Prt}, mapO f ws = some ps → ∀ w ∈ ws, ∃ p ∈ ps, f w = some p
  | [], _, _, w, hw => by cases hw
  | v :: ws, ps, h, w, hw => by
    rw [mapO] at h
    split at h
    · rename_i p qs h1 h2
      injection h with h
      subst h
      rcases List.mem_cons.1 hw with rfl | hw
      · exact ⟨p, by simp, h1⟩
      · obtain ⟨q, k1, k2⟩ := mapO_mem h2 w hw
        exact ⟨q, by simp [k1], k2⟩
    · cases h
theorem res_bad {f : List UInt8 → Option Prt} {ws : List (List UInt8)} {w : List UInt8} (hw : w ∈ ws) (hb : Bad (f w)) : resW f ws = ([], false) := by
  unfold resW
  cases h : mapO f ws with
  | none => rfl
  | some ps =>
    obtain ⟨p, h1, h2⟩ := mapO_mem h w hw
    dsimp only
    rw [if_neg]
    intro hg
    exact (okk_some (good_spec hg).1 p h1).ne (hb p h2)
structure Wp (w : List UInt8) (p : Prt) : Prop where
  i1 : I64 p.1
  i2 : I64 p.2.1
  l : p.2.2.length ≤ w.length
theorem iW_p {w : List UInt8} {p : Prt} (h : iW w = some p) : Wp w p := by
  cases w with
  | nil => cases h
  | cons c r =>
    have hn := num_le r
    rw [iW_cons] at h
    split at h
    · obtain rfl := Option.some.inj h; exact ⟨by unfold I64; dsimp only; omega, by unfold I64; dsimp only; omega, by simp⟩
    · split at h
      · obtain rfl := Option.some.inj h; exact ⟨by unfold I64; dsimp only; omega, by unfold I64; dsimp only; omega, by simp⟩
      · split at h
        · obtain ⟨t, h1, rfl⟩ := Option.map_eq_some_iff.1 h
          have := unt_len _ r t (Nat.le_refl _) h1
          exact ⟨by unfold I64; dsimp only; omega, by unfold I64; dsimp only; omega, by simp only [List.length_cons]; omega⟩
        · cases h
theorem mapO_sm {f : List UInt8 → Option Prt} (hf : ∀ w p, f w = some p → Wp w p) : ∀ {ws : List (List UInt8)} {ps : List Prt}, mapO f ws = some ps → ps.length = ws.length ∧ psum ps ≤ (ws.map List.length).sum ∧ ∀ p ∈ ps, I64 p.1 ∧ I64 p.2.1
  | [], ps, h => by rw [mapO] at h; obtain rfl := Option.some.inj h; exact ⟨rfl, by simp [psum], fun p hp => by cases hp⟩
  | w :: ws, ps, h => by
    rw [mapO] at h
    split at h
    · rename_i p qs h1 h2
      injection h with h
      subst h
      obtain ⟨k1, k2, k3⟩ := mapO_sm hf h2
      have hw := hf w p h1
      refine ⟨by simp [k1], ?_, ?_⟩
      · have := hw.l
        simp only [psum, List.map_cons, List.sum_cons]; omega
      · intro q hq
        rcases List.mem_cons.1 hq with rfl | hq
        · exact ⟨hw.i1, hw.i2⟩
        · exact k3 q hq
    · cases h
theorem mapO_drop {f : List UInt8 → Option Prt} {ws : List (List UInt8)} {k : Nat} (h : k < ws.length) : mapO f (ws.drop k) = match f ws[k], mapO f (ws.drop (k + 1)) with
    | some p, some ps => some (p :: ps)
    | _, _ => none := by rw [List.drop_eq_getElem_cons h, mapO]
theorem rest_of (c : UInt8) (r : List UInt8) : (((c :: r) : List UInt8).drop (Int.toNat 1)).take (Int.toNat ((List.length (c :: r) : Nat) : Int) - Int.toNat 1) = r := by
  rw [Int.toNat_natCast, show Int.toNat 1 = 1 from rfl, List.drop_succ_cons, List.drop_zero]
  exact List.take_of_length_le (by simp)
theorem i_read_step {ws : List (List UInt8)} {out : List Prt} {k : Nat} (hl : ws.length ≤ 1099511627776) (ho : out.length ≤ k) (hk : k < ws.length) (hlen : ws[k].length ≤ 1099511627776) :
    i_ReadChangeText_L1 (out, ws, ((List.length ws : Nat) : Int), ((k : Nat) : Int)) = match iW ws[k] with
      | some p => some (.inl (out ++ [p], ws, ((List.length ws : Nat) : Int), ((k + 1 : Nat) : Int)))
      | none => some (.inr (.inr false)) := by
  have i1 : (((k : Nat) : Int) < ((List.length ws : Nat) : Int)) := by omega
  have i0 : (0 : Int) ≤ ((k : Nat) : Int) := by omega
  have i3 : IntKind.wrap .i64 (((k : Nat) : Int) + 1) = ((k + 1 : Nat) : Int) := idx_succ hl hk
  have hr : ∀ x : Prt, roomFor (List.length out + List.length ([x] : List Prt)) 32 = true := by intro x; unfold roomFor; simp only [List.length_singleton, decide_eq_true_eq]; omega
  have hget : ws[0 + Int.toNat ((k : Nat) : Int)]? = some ws[k] := by rw [Int.toNat_natCast, Nat.zero_add]; exact List.getElem?_eq_getElem hk
  unfold i_ReadChangeText_L1
  dsimp only
  generalize ws[k] = w at hget hlen
  match w, hget, hlen with
  | [], hget, _ =>
    simp only [i1, i0, hget, decide_true, if_true, Option.bind_some, beq_self_eq_true, iW]
  | c :: r, hget, hlen =>
    have q : ((c :: r : List UInt8) == []) = false := rfl
    have q1 : (1 : Int) ≤ ((List.length (c :: r) : Nat) : Int) := by simp only [List.length_cons]; omega
    have h0 : (c :: r)[Int.toNat 0]? = some c := rfl
    have hrest := rest_of c r
    have hrl : r.length ≤ 1099511627776 := by simp only [List.length_cons] at hlen; omega
    obtain ⟨t, b, hu, hx⟩ := i_decoded_eq (xs := r) hrl
    have hnum := i_num_eq (r := r) (by omega)
    have o1 : (0 : Int) ≤ 1 := by decide
    have e61 : (61 : UInt8).toNat = 61 := rfl
    have e45 : (45 : UInt8).toNat = 45 := rfl
    have e43 : (43 : UInt8).toNat = 43 := rfl
    rw [iW_cons]
    generalize numF r = m at hnum
    generalize hw : c :: r = w at hget q q1 h0 hrest
    by_cases h1 : c = 61
    · have n1 : ((c.toNat : Nat) : Int) = 61 := by rw [h1, e61]; rfl
      have c2 : ¬ c = 45 := by rw [h1]; decide
      have c3 : ¬ c = 43 := by rw [h1]; decide
      by_cases hm : 0 < m
      · rw [if_pos (show c = 61 ∧ 0 < m from ⟨h1, hm⟩)]
        simp only [i1, i0, hget, q, q1, h0, hrest, hnum, hm, o1, n1, hr, i3, Int.le_refl, decide_true, decide_false, Bool.false_eq_true, if_true, if_false, Option.bind_some]
      · rw [if_neg (show ¬ (c = 61 ∧ 0 < m) from fun h => hm h.2), if_neg (show ¬ (c = 45 ∧ 0 < m) from fun h => hm h.2), if_neg c3]
        simp only [i1, i0, hget, q, q1, h0, hrest, hnum, hm, o1, n1, (by decide : ¬ (61 : Int) = 45), (by decide : ¬ (61 : Int) = 43), hr, i3, Int.le_refl, decide_true, decide_false, Bool.false_eq_true, if_true, if_false, Option.bind_some]
    · have n1 : ¬ ((c.toNat : Nat) : Int) = 61 := fun e => h1 (UInt8.toNat_inj.1 (by omega))
      rw [if_neg (show ¬ (c = 61 ∧ 0 < m) from fun h => h1 h.1)]
      by_cases h2 : c = 45
      · have n2 : ((c.toNat : Nat) : Int) = 45 := by rw [h2, e45]; rfl
        have c3 : ¬ c = 43 := by rw [h2]; decide
        by_cases hm : 0 < m
        · rw [if_pos (show c = 45 ∧ 0 < m from ⟨h2, hm⟩)]
          simp only [i1, i0, hget, q, q1, h0, hrest, hnum, hm, o1, n2, (by decide : ¬ (45 : Int) = 61), hr, i3, Int.le_refl, decide_true, decide_false, Bool.false_eq_true, if_true, if_false, Option.bind_some]
        · rw [if_neg (show ¬ (c = 45 ∧ 0 < m) from fun h => hm h.2), if_neg c3]
          simp only [i1, i0, hget, q, q1, h0, hrest, hnum, hm, o1, n2, (by decide : ¬ (45 : Int) = 61), (by decide : ¬ (45 : Int) = 43), hr, i3, Int.le_refl, decide_true, decide_false, Bool.false_eq_true, if_true, if_false, Option.bind_some]
      · have n2 : ¬ ((c.toNat : Nat) : Int) = 45 := fun e => h2 (UInt8.toNat_inj.1 (by omega))
        rw [if_neg (show ¬ (c = 45 ∧ 0 < m) from fun h => h2 h.1)]
        by_cases h3 : c = 43
        · have n3 : ((c.toNat : Nat) : Int) = 43 := by rw [h3, e43]; rfl
          rw [if_pos h3]
          cases hy : unt r with
          | none =>
            rw [hy] at hx
            dsimp only at hx
            subst hx
            simp only [i1, i0, hget, q, q1, h0, hrest, hnum, hu, o1, n3, (by decide : ¬ (43 : Int) = 61), (by decide : ¬ (43 : Int) = 45), hr, i3, Int.le_refl, decide_true, decide_false, Bool.not_false, Bool.false_eq_true, if_true, if_false, Option.bind_some, Option.map_none]
          | some u =>
            rw [hy] at hx
            obtain ⟨rfl, rfl⟩ := hx
            simp only [i1, i0, hget, q, q1, h0, hrest, hnum, hu, o1, n3, (by decide : ¬ (43 : Int) = 61), (by decide : ¬ (43 : Int) = 45), hr, i3, Int.le_refl, decide_true, decide_false, Bool.not_true, Bool.false_eq_true, if_true, if_false, Option.bind_some, Option.map_some]
        · have n3 : ¬ ((c.toNat : Nat) : Int) = 43 := fun e => h3 (UInt8.toNat_inj.1 (by omega))
          rw [if_neg h3]
          simp only [i1, i0, hget, q, q1, h0, hrest, hnum, o1, n1, n2, n3, Int.le_refl, decide_true, decide_false, Bool.false_eq_true, if_true, if_false, Option.bind_some]
end Go.V.G

set_option linter.unusedVariables false
set_option linter.unusedSimpArgs false
set_option maxRecDepth 100000
namespace Go.V.G
open Go.V
theorem len_sum : ∀ {ws : List (List UInt8)} {w : List UInt8}, w ∈ ws → w.length ≤ (ws.map List.length).sum
  | v :: ws, w, h => by
    rcases List.mem_cons.1 h with rfl | h
    · simp
    · have := len_sum h
      simp only [List.map_cons, List.sum_cons]; omega
def loopE (f : List UInt8 → Option Prt) (ws : List (List UInt8)) (out : List Prt) (k : Nat) : List Prt ⊕ Bool := match mapO f (ws.drop k) with
  | some ps => .inl (out ++ ps)
  | none => .inr false
theorem read_loop (g : List Prt × (List (List UInt8) × (Int × Int)) → Option ((List Prt × (List (List UInt8) × (Int × Int))) ⊕ (List Prt ⊕ Bool))) (f : List UInt8 → Option Prt) {ws : List (List UInt8)}
    (step : ∀ (out : List Prt) (k : Nat), out.length ≤ k → (hk : k < ws.length) → g (out, ws, ((List.length ws : Nat) : Int), ((k : Nat) : Int)) = match f ws[k] with
      | some p => some (.inl (out ++ [p], ws, ((List.length ws : Nat) : Int), ((k + 1 : Nat) : Int)))
      | none => some (.inr (.inr false)))
    (last : ∀ out : List Prt, g (out, ws, ((List.length ws : Nat) : Int), ((ws.length : Nat) : Int)) = some (.inr (.inl out))) :
    loopG g ([], ws, ((List.length ws : Nat) : Int), 0) = some (match mapO f ws with
      | some ps => .inl ps
      | none => .inr false) := by
  have hl := loop_fn g (fun y => ∃ (out : List Prt) (k : Nat), y = (out, ws, ((List.length ws : Nat) : Int), ((k : Nat) : Int)) ∧ out.length ≤ k ∧ k ≤ ws.length) (fun y => ws.length - y.2.2.2.toNat) (fun y => loopE f ws y.1 y.2.2.2.toNat) (by
    rintro _ ⟨out, k, rfl, ho, hk⟩
    dsimp only
    rw [Int.toNat_natCast]
    by_cases hkn : k < ws.length
    · rw [step out k ho hkn]
      cases hf : f ws[k] with
      | none =>
        right
        unfold loopE
        rw [mapO_drop hkn, hf]
      | some p =>
        left
        refine ⟨_, rfl, ⟨_, _, rfl, by rw [List.length_append, List.length_singleton]; omega, by omega⟩, ?_, ?_⟩
        · dsimp only; rw [Int.toNat_natCast]; omega
        · dsimp only
          rw [Int.toNat_natCast]
          unfold loopE
          rw [mapO_drop hkn, hf]
          cases mapO f (ws.drop (k + 1)) with
          | none => rfl
          | some ps => simp
    · right
      obtain rfl : k = ws.length := by omega
      rw [last]
      unfold loopE
      rw [List.drop_eq_nil_of_le (Nat.le_refl _), mapO]
      simp) ([], ws, ((List.length ws : Nat) : Int), 0) ⟨[], 0, rfl, by simp, by omega⟩
  rw [hl]
  unfold loopE
  dsimp only
  rw [show Int.toNat 0 = 0 from rfl, List.drop_zero]
  cases mapO f ws <;> simp
theorem split_len (b : UInt8) (x : List UInt8) : (splitF b x).length ≤ x.length + 1 ∧ ((splitF b x).map List.length).sum ≤ x.length := by
  have := split_sum b x
  have : 1 ≤ (splitF b x).length := by
    cases h : splitF b x with
    | nil => rw [h] at this; simp at this
    | cons a l => simp
  omega
theorem i_read_eq {x : List UInt8} (hx : x.length ≤ 1048576) : i_ReadChangeText x = some (readT x) := by
  unfold i_ReadChangeText readT
  by_cases h : x = [46]
  · rw [if_pos (by simpa using h), if_pos h]
  · rw [if_neg (by simpa using h), if_neg h]
    obtain ⟨l1, l2⟩ := split_len 32 x
    have hs : strings_Split x [32] = some (splitF 32 x) := by
      unfold strings_Split
      dsimp only
      rw [if_pos (by omega)]
    rw [hs, Option.bind_some]
    generalize splitF 32 x = ws at l1 l2
    rw [read_loop i_ReadChangeText_L1 iW (ws := ws) (fun out k ho hk => i_read_step (by omega) ho hk (by have := len_sum (List.getElem_mem hk); omega)) (fun out => by
      unfold i_ReadChangeText_L1
      dsimp only
      rw [if_neg (by simp)]), Option.bind_some]
    unfold resW
    cases hm : mapO iW ws with
    | none => rfl
    | some ps =>
      obtain ⟨k1, k2, k3⟩ := mapO_sm (fun w p => iW_p) hm
      dsimp only
      have hsm : Sm 1048577 ps := ⟨by omega, by omega, k3⟩
      rw [i_Good_eq hsm (by omega), Option.bind_some]
      by_cases hg : good ps = true
      · rw [if_neg (by simp [hg]), if_pos hg]
      · rw [if_pos (by simpa using hg), if_neg hg]
end Go.V.G

set_option linter.unusedVariables false
set_option linter.unusedSimpArgs false
set_option maxRecDepth 100000
namespace Go.V.G
open Go.V
theorem told_no : ∀ t : List UInt8, ∀ c ∈ told t, c ≠ 32
  | [], c, h => by cases h
  | b :: t, c, h => by
    rw [told_cons] at h
    rcases List.mem_append.1 h with h | h
    · unfold toldB at h
      split at h
      · rename_i hp
        rw [List.mem_singleton] at h
        subst h
        rintro rfl
        exact absurd hp (by decide)
      · have hb := b.toNat_lt
        have hd : ∀ x < 16, hexD x ≠ 32 := by decide +kernel
        simp only [List.mem_cons, List.not_mem_nil, or_false] at h
        rcases h with rfl | rfl | rfl
        · decide
        · exact hd _ (by omega)
        · exact hd _ (by omega)
    · exact told_no t c h
theorem dec_no {n : Nat} (h : n < 10000) : ∀ c ∈ decF n, c ≠ 32 := by
  have w : ∀ x, x < 10 → oD x ≠ 32 := fun x hx e => by
    have := congrArg UInt8.toNat e
    rw [oD_n hx] at this
    have e2 : (32 : UInt8).toNat = 32 := rfl
    omega
  intro c hc
  by_cases h1 : n < 10
  · rw [decF1 h1] at hc
    simp only [List.mem_cons, List.not_mem_nil, or_false] at hc
    subst hc; exact w _ h1
  · by_cases h2 : n < 100
    · rw [decF2 (by omega) h2] at hc
      simp only [List.mem_cons, List.not_mem_nil, or_false] at hc
      rcases hc with rfl | rfl <;> exact w _ (by omega)
    · by_cases h3 : n < 1000
      · rw [decF3 (by omega) h3] at hc
        simp only [List.mem_cons, List.not_mem_nil, or_false] at hc
        rcases hc with rfl | rfl | rfl <;> exact w _ (by omega)
      · rw [decF4 (by omega) h] at hc
        simp only [List.mem_cons, List.not_mem_nil, or_false] at hc
        rcases hc with rfl | rfl | rfl | rfl <;> exact w _ (by omega)
theorem itoa_dec {n : Int} (h : 0 ≤ n) : itoaF n = decF n.toNat := by unfold itoaF; rw [if_neg (by omega)]
theorem word_no {p : Prt} (h : Gp p) : ∀ c ∈ wordOf p, c ≠ 32 := by
  have h1 := h.k1; have h2 := h.d1
  unfold wordOf
  rw [itoa_dec h.k0, itoa_dec h.d0]
  intro c hc
  split at hc
  · rcases List.mem_cons.1 hc with rfl | hc
    · decide
    · exact dec_no (by omega) c hc
  · split at hc
    · rcases List.mem_cons.1 hc with rfl | hc
      · decide
      · exact dec_no (by omega) c hc
    · rcases List.mem_cons.1 hc with rfl | hc
      · decide
      · exact told_no _ c hc
theorem word_back {p : Prt} (h : Gp p) : iW (wordOf p) = some p := by
  have h1 := h.k1; have h2 := h.d1
  unfold wordOf
  rw [itoa_dec h.k0, itoa_dec h.d0]
  rcases kd_cases h.ne with ⟨a, ha, rfl, hk⟩ | ⟨a, ha, rfl, hk⟩ | ⟨s, hs, rfl, hk⟩
  · rw [if_pos hk]
    dsimp only at h1 ⊢
    have e : ((a.toNat : Nat) : Int) = a := by omega
    rw [iW_cons, num_dec (by omega), e, if_pos ⟨rfl, ha⟩]
  · rw [hk, if_neg (by decide), if_pos rfl]
    dsimp only at h2 ⊢
    have e : ((a.toNat : Nat) : Int) = a := by omega
    rw [iW_cons, num_dec (by omega), e, if_neg (fun h => absurd h.1 (by decide)), if_pos ⟨rfl, ha⟩]
  · rw [hk, if_neg (by decide), if_neg (by decide)]
    dsimp only
    rw [iW_cons, if_neg (fun h => absurd h.1 (by decide)), if_neg (fun h => absurd h.1 (by decide)), if_pos rfl, unt_told]
    rfl
theorem split_word (b : UInt8) : ∀ (w r : List UInt8), (∀ c ∈ w, c ≠ b) → splitF b (w ++ b :: r) = w :: splitF b r
  | [], r, _ => by rw [List.nil_append, splitF, if_pos rfl]
  | c :: w, r, h => by
    rw [List.cons_append, splitF, if_neg (h c (by simp)), split_word b w r fun x hx => h x (by simp [hx])]
theorem split_one (b : UInt8) (w : List UInt8) (h : ∀ c ∈ w, c ≠ b) : splitF b w = [w] := split_no b w fun k hk => h b (List.mem_of_getElem? hk) rfl
theorem split_inter (b : UInt8) : ∀ ws : List (List UInt8), ws ≠ [] → (∀ w ∈ ws, ∀ c ∈ w, c ≠ b) → splitF b (([b] : List UInt8).intercalate ws) = ws
  | [], h, _ => absurd rfl h
  | [w], _, h => by
    have : ([b] : List UInt8).intercalate [w] = w := by simp [List.intercalate]
    rw [this, split_one b w (h w (by simp))]
  | w :: v :: ws, _, h => by
    have ih := split_inter b (v :: ws) (by simp) fun x hx => h x (by simp at hx ⊢; exact .inr hx)
    have e : ([b] : List UInt8).intercalate (w :: v :: ws) = w ++ b :: ([b] : List UInt8).intercalate (v :: ws) := by
      simp [List.intercalate, List.intersperse_cons_cons]
    rw [e, split_word b w _ (h w (by simp)), ih]
theorem mapO_back : ∀ c : List Prt, (∀ p ∈ c, Gp p) → mapO iW (c.map wordOf) = some c
  | [], _ => rfl
  | p :: c, h => by
    rw [List.map_cons, mapO, word_back (h p (by simp)), mapO_back c fun q hq => h q (by simp [hq])]
theorem text_back {c : List Prt} (h : good c = true) : readT (ctext c) = (c, true) := by
  unfold readT ctext
  by_cases h0 : c = []
  · subst h0; rfl
  · rw [if_neg h0]
    have hg := fun p hp => gp_of h (p := p) hp
    have hs := split_inter 32 (c.map wordOf) (by simpa using h0) (by
      intro w hw
      obtain ⟨p, hp, rfl⟩ := List.mem_map.1 hw
      exact word_no (hg p hp))
    have hm := mapO_back c hg
    rw [if_neg, hs]
    · unfold resW
      rw [hm]
      dsimp only
      rw [if_pos h]
    · intro e
      rw [e] at hs
      have hr : resW iW (splitF 32 [46]) = ([], false) := res_bad (w := [46]) (by decide) (fun p hp => by cases hp)
      rw [hs] at hr
      unfold resW at hr
      rw [hm] at hr
      dsimp only at hr
      rw [if_pos h] at hr
      cases hr
theorem same_eq {c : List Prt} (hc : c.length ≤ 1099511627776) : l_sameParts c c = some true := by
  unfold l_sameParts
  rw [if_neg (by simp)]
  have hr := loop_run l_sameParts_L1 (fun k => (c, c, ((List.length c : Nat) : Int), ((k : Nat) : Int))) c.length (.inl ()) (by
    intro k hk
    have i1 : (((k : Nat) : Int) < ((List.length c : Nat) : Int)) := by omega
    have i0 : (0 : Int) ≤ ((k : Nat) : Int) := by omega
    have i3 : IntKind.wrap .i64 (((k : Nat) : Int) + 1) = ((k + 1 : Nat) : Int) := idx_succ hc hk
    unfold l_sameParts_L1
    simp only [i1, i0, i3, decide_true, if_true, Int.toNat_natCast, List.getElem?_eq_getElem hk, Option.bind_some, beq_self_eq_true, Bool.and_self, Bool.not_true, Bool.false_eq_true, if_false]) (by
    unfold l_sameParts_L1
    dsimp only
    rw [if_neg (by simp)])
  rw [show (c, c, ((List.length c : Nat) : Int), (0 : Int)) = (c, c, ((List.length c : Nat) : Int), ((0 : Nat) : Int)) from rfl, hr]
  rfl
theorem ctext_len {c : List Prt} (h : good c = true) : (ctext c).length ≤ 1048576 := by
  unfold ctext
  split
  · simp
  · have := words_len h c.length
    rw [List.take_length] at this
    have := (good_sm h).len
    omega
end Go.V.G

set_option linter.unusedVariables false
set_option linter.unusedSimpArgs false
set_option maxRecDepth 100000
namespace Go.V.G
open Go.V
theorem texts_ok {code : List Int} (hb : Bytes code) : l_FnTexts code = some true := by
  unfold l_FnTexts
  by_cases hl : 1048576 < code.length
  · rw [if_pos (by simp; omega)]
  · rw [if_neg (by simp; omega)]
    obtain ⟨c, hc, hs⟩ := drawGood_ok hb
    unfold s_DrawChangeText
    have h1 := s_changeText_of hs (by decide)
    have h2 := i_changeText_of hs (by decide)
    rw [hc, Option.bind_some, Option.bind_some, h2, Option.bind_some, h1, Option.bind_some]
    by_cases hg : good c = true
    · rw [if_pos hg]
      have h3 := i_read_eq (ctext_len hg)
      rw [text_back hg] at h3
      have h4 := same_eq (c := c) (by have := hs.len; omega)
      simp only [h3, h4, bne_self_eq_false, Bool.false_eq_true, if_false, if_true, Option.bind_some, beq_self_eq_true, Bool.not_true]
    · rw [if_neg hg]
      rfl
end Go.V.G
namespace Go.Proofs.YtijemcbcchnnjaaDoor
open Go.V
theorem pure_FnTexts {e1 : TypeId} (x0 : List Int) (g0 : Fits (.sl false e1 (.int .u8)) x0) : G.l_FnTexts x0 = some true := G.texts_ok (G.bytes_of g0)
end Go.Proofs.YtijemcbcchnnjaaDoor
