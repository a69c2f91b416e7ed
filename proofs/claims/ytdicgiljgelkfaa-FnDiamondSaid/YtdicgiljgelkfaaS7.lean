/-
  S7: cutting, indexing, lengths, conversions of slices and texts.
-/
import Derived.Test.YtdicgiljgelkfaaS6
namespace Go.V
open Go.RowKit

section
variable {P : Program} {ti : TypeId → TI} {w : World}

theorem isStr_eq {t : TI} (h : t.isStr = true) : t = .cell .str := by
  unfold TI.isStr at h; split at h
  · rfl
  · cases h
theorem isSlOf_eq {t : TI} {n : Nat} (h : t.isSlOf n = true) : ∃ e ts bytes, t = .slice e ts bytes ∧ ts.length = n := by
  unfold TI.isSlOf at h; split at h
  · exact ⟨_, _, _, rfl, by simpa using h⟩
  · cases h
theorem isSl_eq {t : TI} (h : t.isSl = true) : ∃ e ts bytes, t = .slice e ts bytes := by
  unfold TI.isSl at h; split at h
  · exact ⟨_, _, _, rfl⟩
  · cases h
theorem str_under (hT : TabOk P ti) {t : TypeId} (h : (ti t).isStr = true) : P.underlying t = some .string := by
  obtain ⟨⟨d, hd, he⟩, _⟩ := hT.cell (isStr_eq h)
  rw [hd]; cases d <;> first | rfl | (simp [descIs] at he; done)
theorem rowTy_size : ∀ (ts : List Ty), (∀ t ∈ ts, t.size = 1) → (rowTy ts).size = ts.length
  | [], _ => rfl
  | [t], h => by simpa [rowTy] using h t (by simp)
  | t :: u :: ts, h => by
    have := rowTy_size (u :: ts) fun x hx => h x (by simp [hx])
    simp only [rowTy, Ty.size, h t (by simp), this, List.length_cons]; omega
theorem sl_under (hT : TabOk P ti) {t : TypeId} {n : Nat} (h : (ti t).isSlOf n = true) : ∃ e i, P.underlying t = some (.slice e) ∧ P.info? e = some i ∧ i.size = n := by
  obtain ⟨e, ts, bytes, he, hn⟩ := isSlOf_eq h
  obtain ⟨h1, _, _, _, i, z, h2, h3, _⟩ := hT.slice he
  exact ⟨e, i, h1, h2, by rw [h3, hn]⟩
theorem sl_under' (hT : TabOk P ti) {t : TypeId} (h : (ti t).isSl = true) : ∃ e i, P.underlying t = some (.slice e) ∧ P.info? e = some i := by
  obtain ⟨e, ts, bytes, he⟩ := isSl_eq h
  obtain ⟨h1, _, _, _, i, z, h2, _⟩ := hT.slice he
  exact ⟨e, i, h1, h2⟩

theorem bound_ok {N : Nat} {S : St} {c : Cc} {a : Act} {K : Nat → Prop} (hs : Slots N S c w K a) {x : Option Operand} {d : Nat} {n : Int} (h : (bound (x.map (opnd S)) d).ev S = some n) :
    (x = none ∧ n = d) ∨ ∃ y k, x = some y ∧ a.eval y = .int k n := by
  cases x with
  | none => simp only [Option.map_none, bound, Tr.ev, Option.some.injEq] at h; exact .inl ⟨rfl, h.symm⟩
  | some y =>
    simp only [Option.map_some] at h
    have hy := opnd_ok hs y
    unfold bound at h
    split at h
    · simp at *
    · rename_i k n' he
      injection he with he
      rw [he] at hy
      simp only [Tr.ev, Option.some.injEq] at h
      subst h
      have hy' : LeafOk S c w K (.v (.int k) n') (a.eval y) := hy
      exact .inr ⟨y, k, rfl, int_leaf hy'⟩
    · simp [Tr.ev] at h

/-- the bounds of a cut, as the machine reads them -/
theorem bounds_ok {N : Nat} {S : St} {c : Cc} {a : Act} {K : Nat → Prop} (hs : Slots N S c w K a) {len : Nat} {lo hi mx : Option Operand} {f : Nat → Nat → Tr SV} {r : SV}
    (h : (boundsT len (lo.map (opnd S)) (hi.map (opnd S)) (mx.map (opnd S)) f).ev S = some r) (isS : Bool) (cap : Nat) (hcap : len ≤ cap) (hmx : isS = false → mx = none) :
    ∃ l n m, (f l n).ev S = some r ∧ l + n ≤ len ∧ l + n ≤ m ∧ m ≤ cap ∧ (mx = none → m = cap) ∧ (Instr.sliceBounds isS len cap (lo.map a.eval) (hi.map a.eval) (mx.map a.eval)).run P w = .ok (l, l + n, m) w := by
  simp only [boundsT, ev_bind, Option.bind_eq_some_iff] at h
  obtain ⟨l, hl, hh, hhh, m, hm, g0⟩ := h
  obtain ⟨c1, g1⟩ := ev_iff g0
  obtain ⟨c2, g2⟩ := ev_iff g1
  obtain ⟨c3, g3⟩ := ev_iff g2
  obtain ⟨c4, g4⟩ := ev_iff g3
  obtain ⟨c5, g5⟩ := ev_iff g4
  simp only [decide_eq_true_eq] at c2 c3 c4 c5
  have hlo := bound_ok hs hl
  have hhi := bound_ok hs hhh
  have hmm := bound_ok hs hm
  obtain ⟨l', rfl⟩ := Int.eq_ofNat_of_zero_le c2
  obtain ⟨h', rfl⟩ := Int.eq_ofNat_of_zero_le (show (0 : Int) ≤ hh by omega)
  obtain ⟨m', rfl⟩ := Int.eq_ofNat_of_zero_le (show (0 : Int) ≤ m by omega)
  simp only [Int.toNat_natCast] at g5
  have c3' : l' ≤ h' := by omega
  have c4' : h' ≤ m' := by omega
  have c5' : m' ≤ len := by omega
  have e : l' + (h' - l') = h' := by omega
  have s1 : ∀ (x : Operand) (k : IntKind) (i y : Nat) (code : BoundsCode), a.eval x = .int k (i : Int) → i ≤ y → (Instr.sliceBound (a.eval x) y code).run P w = .ok i w := by
    intro x k i y code hx hiy
    rw [hx]
    simp only [Instr.sliceBound, asIntOf, Sem.run_bind, Sem.run_pure, Result.andThen_ok, Sem.run_ite]
    rw [if_pos ⟨by omega, by omega⟩]; simp
  rcases hmm with ⟨rfl, hm0⟩ | ⟨my, mk, rfl, hme⟩
  · refine ⟨l', h' - l', cap, g5, by omega, by omega, Nat.le_refl _, fun _ => rfl, ?_⟩
    rw [e]
    rcases hhi with ⟨rfl, hh0⟩ | ⟨hy, hk, rfl, hhe⟩
    · obtain rfl : h' = len := by omega
      rcases hlo with ⟨rfl, hl0⟩ | ⟨ly, lk, rfl, hle⟩
      · obtain rfl : l' = 0 := by omega
        simp [Instr.sliceBounds]
      · simp [Instr.sliceBounds, s1 ly lk l' _ _ hle c3']
    · rcases hlo with ⟨rfl, hl0⟩ | ⟨ly, lk, rfl, hle⟩
      · obtain rfl : l' = 0 := by omega
        cases isS <;> simp [Instr.sliceBounds, s1 hy hk h' _ _ hhe (show h' ≤ cap by omega)]
      · cases isS <;> simp [Instr.sliceBounds, s1 hy hk h' _ _ hhe (show h' ≤ cap by omega), s1 ly lk l' _ _ hle c3']
  · rcases hhi with ⟨rfl, hh0⟩ | ⟨hy, hk, rfl, hhe⟩
    · simp at c1
    · refine ⟨l', h' - l', m', g5, by omega, by omega, by omega, fun hx => (by cases hx), ?_⟩
      rw [e]
      cases isS with
      | false => cases hmx rfl
      | true =>
        rcases hlo with ⟨rfl, hl0⟩ | ⟨ly, lk, rfl, hle⟩
        · obtain rfl : l' = 0 := by omega
          simp [Instr.sliceBounds, s1 my mk m' _ _ hme (show m' ≤ cap by omega), s1 hy hk h' _ _ hhe c4']
        · simp [Instr.sliceBounds, s1 my mk m' _ _ hme (show m' ≤ cap by omega), s1 hy hk h' _ _ hhe c4', s1 ly lk l' _ _ hle c3']

theorem extract_str (s : List UInt8) (l n : Nat) (_h : l + n ≤ s.length) : (⟨s.toArray⟩ : ByteArray).extract l (l + n) = ⟨((s.drop l).take n).toArray⟩ := by
  apply ByteArray.ext
  simp only [ByteArray.data_extract]
  apply Array.ext'
  simp [List.extract_eq_take_drop]

/-- a cut -/
theorem slice_ok {b : Base} {N : Nat} {S : St} {c : Cc} {a : Act} (hT : TabOk P ti) (hi : Inv b S w c) (hs : Slots N S c w (Kok b S c) a) {t : TypeId} {x : Leaf} {v : Value} {lo hi' mx : Option Operand} {r : SV}
    (hx : LeafOk S c w (Kok b S c) x v) (h : (sliceT (ti t) x (lo.map (opnd S)) (hi'.map (opnd S)) (mx.map (opnd S))).ev S = some r) :
    ∃ u, (Instr.sliceAt t v (lo.map a.eval) (hi'.map a.eval) (mx.map a.eval)).run P w = .ok u w ∧ SVOk S c w (Kok b S c) r u := by
  unfold sliceT at h
  split at h
  · rename_i s
    split at h
    · rename_i hc
      simp only [Bool.and_eq_true, Option.isNone_iff_eq_none, Option.map_eq_none_iff] at hc
      obtain ⟨hc, rfl⟩ := hc
      obtain rfl := str_leaf hx
      have hu := str_under hT hc
      obtain ⟨l, n, m, h1, h2, h3, h4, h5, h6⟩ := bounds_ok (P := P) hs h false s.length (Nat.le_refl _) (fun _ => rfl)
      simp only [Tr.ev, Option.some.injEq] at h1
      subst h1
      simp only [Option.map_none] at h6
      refine ⟨.string ⟨((s.drop l).take n).toArray⟩, ?_, sv_leaf mk_str⟩
      simp only [Instr.sliceAt, Instr.slice, Sem.run_bind, run_underlying hu, Result.andThen_ok, Option.map_none, Option.isSome_none, Bool.false_eq_true, if_false]
      have hsz : (ByteArray.mk s.toArray).size = s.length := by simp [ByteArray.size]
      simp [hsz, h6, extract_str s l n h2]
    · simp [Tr.ev] at h
  · rename_i e r' xs
    split at h
    · rename_i hc
      obtain ⟨e', i, hu, hie, hsz⟩ := sl_under hT hc
      simp only [LeafOk, Rp] at hx
      obtain ⟨_, A, cap, ws, hv, hcap, hr, hxs⟩ := hx
      injection hv with hv
      subst hv
      obtain ⟨l, n, m, h1, h2, h3, h4, h5, h6⟩ := bounds_ok (P := P) hs h true cap hcap (fun hx => (by cases hx))
      simp only [Tr.ev, Option.some.injEq] at h1
      subst h1
      refine ⟨.slice (if m = l then A else A.map (·.add (l * r'.size))) n (m - l), ?_, ?_⟩
      · simp only [Instr.sliceAt, Instr.slice, Sem.run_bind, run_underlying hu, Result.andThen_ok, h6, sizeOf, typeInfo, Sem.run_pure]
        simp [hie, hsz, Nat.add_sub_cancel_left]
      · have hlen : ((xs.drop l).take n).length = n := by rw [List.length_take, List.length_drop]; omega
        have hsplit : xs = xs.take l ++ ((xs.drop l).take n ++ (xs.drop l).drop n) := by rw [List.take_append_drop, List.take_append_drop]
        rw [hsplit] at hr
        obtain ⟨v1, v23, F1, F23, e1, eF, r1, r23⟩ := RpL.split hr
        obtain ⟨v2, v3, F2, F3, rfl, rfl, r2, r3⟩ := RpL.split r23
        have l1 := RpL.len (fun x vs F h => Rp.len r' x h) r1
        have hF2 : F2 = [] := by
          have := congrArg List.length eF
          simp only [List.length_nil, List.length_append] at this
          exact List.eq_nil_of_length_eq_zero (by omega)
        subst hF2
        simp only [SVOk, S1Ok, LeafOk, Rp]
        refine ⟨trivial, _, _, v2, by rw [hlen], by rw [hlen]; omega, r2, ?_⟩
        rcases Nat.eq_zero_or_pos n with hz | hz
        · left; exact List.eq_nil_of_length_eq_zero (by rw [hlen, hz])
        · right
          rcases hxs with rfl | ⟨ad, rfl, k1, k2, k3⟩
          · simp at h2; omega
          · refine ⟨ad.add (l * r'.size), by rw [if_neg (by omega)]; rfl, by rw [add_block]; exact k1, by rw [add_block]; exact k2, fun j hj => ?_⟩
            rw [add_add, k3 _ (by rw [e1]; simp only [List.length_append]; rw [l1, List.length_take, Nat.min_eq_left (by omega)]; omega), e1]
            have : l * r'.size = v1.length := by rw [l1, List.length_take, Nat.min_eq_left (by omega)]
            rw [this, List.getElem?_append_right (by omega), List.getElem?_append_left (by omega)]
            congr 1; omega
    · simp [Tr.ev] at h
  · rename_i k st win
    simp only [ev_bind, Option.bind_eq_some_iff] at h
    obtain ⟨o, ho, h⟩ := h
    split at h
    · rename_i hc
      obtain ⟨e', i, hu, hie, hsz⟩ := sl_under hT hc
      obtain ⟨hne, F', hp, hsub, hnd⟩ := view_own hi hx ho
      obtain ⟨A, cap, ws, F2, rfl, hr, _, hnone, hxs⟩ := own_read hp
      have hcap : o.xs.length ≤ cap := by
        simp only [Rp] at hp
        rcases hp with ⟨h1, _⟩ | ⟨g, off, c1, cs, fr, F0, h1, _, _, _, _, h2, _⟩
        · rw [h1]; simp
        · injection h1 with h1 _; injection h1 with _ _ h1; omega
      obtain ⟨l, n, m, h1, h2, h3, h4, h5, h6⟩ := bounds_ok (P := P) hs h true cap hcap (fun hx => (by cases hx))
      simp only [Tr.ev, Option.some.injEq] at h1
      subst h1
      refine ⟨.slice (if m = l then A else A.map (·.add (l * o.r.size))) n (m - l), ?_, ?_⟩
      · simp only [Instr.sliceAt, Instr.slice, Sem.run_bind, run_underlying hu, Result.andThen_ok, h6, sizeOf, typeInfo, Sem.run_pure]
        simp [hie, hsz, Nat.add_sub_cancel_left]
      · obtain ⟨o0, ys, Ad, capd, hk, hg, hh, hz, hw, hl, _⟩ := view_info hi hx ho
        refine ⟨o0, _, o.r, ys, _, hk, hg, hh, ?_⟩
        refine win_cut (n := o.xs.length) ⟨rfl, hz⟩ hw rfl h2 h3 h4 _ rfl ?_ ?_
        · intro p hp'; subst hp'; exact hl
        · intro hp'; subst hp'; exact hl
    · simp [Tr.ev] at h
  · split at h
    · rename_i hc
      obtain ⟨e', i, hu, hie⟩ := sl_under' hT hc
      obtain rfl : v = .slice none 0 0 := hx
      obtain ⟨l, n, m, h1, h2, h3, h4, h5, h6⟩ := bounds_ok (P := P) hs h true 0 (Nat.le_refl _) (fun hx => (by cases hx))
      simp only [Tr.ev, Option.some.injEq] at h1
      subst h1
      obtain rfl : l = 0 := by omega
      obtain rfl : n = 0 := by omega
      obtain rfl : m = 0 := by omega
      refine ⟨.slice none 0 0, ?_, rfl⟩
      simp only [Instr.sliceAt, Instr.slice, Sem.run_bind, run_underlying hu, Result.andThen_ok, h6, sizeOf, typeInfo, Sem.run_pure]
      simp [hie]
    · simp [Tr.ev] at h
  · simp [Tr.ev] at h

/-- an element's place -/
theorem index_ok {b : Base} {S : St} {c : Cc} (hT : TabOk P ti) (hi : Inv b S w c) {t : TypeId} {x : Leaf} {v : Value} {k : IntKind} {i : Int} {r : SV}
    (hx : LeafOk S c w (Kok b S c) x v) (h : (indexT (ti t) x i).ev S = some r) :
    ∃ u, (Instr.indexAt t v (.int k i)).run P w = .ok u w ∧ SVOk S c w (Kok b S c) r u := by
  unfold indexT at h
  replace h := ev_iff h
  obtain ⟨c1, h⟩ := h
  simp only [decide_eq_true_eq] at c1
  obtain ⟨j, rfl⟩ := Int.eq_ofNat_of_zero_le c1
  simp only [Int.toNat_natCast] at h
  split at h
  · rename_i e r' xs
    split at h
    · rename_i hc
      obtain ⟨e', ie, hu, hie, hsz⟩ := sl_under hT hc
      simp only [Tr.ev, Option.bind_eq_some_iff, Option.some.injEq] at h
      obtain ⟨row, hrow, rfl⟩ := h
      have hj : j < xs.length := (List.getElem?_eq_some_iff.1 hrow).1
      simp only [LeafOk, Rp] at hx
      obtain ⟨_, A, cap, ws, hv, hcap, hr, hxs⟩ := hx
      injection hv with hv
      subst hv
      rcases hxs with rfl | ⟨ad, rfl, k1, k2, k3⟩
      · simp at hj
      obtain ⟨v1, u, v2, F1, G, F2, rfl, l1, hF, hp, _, _⟩ := RpL.get (fun x vs F h => Rp.len r' x h) hr hrow
      have hG : G = [] := by
        have := congrArg List.length hF
        simp only [List.length_nil, List.length_append] at this
        exact List.eq_nil_of_length_eq_zero (by omega)
      subst hG
      refine ⟨.pointer (some (ad.add (j * r'.size))), ?_, ⟨ad.add (j * r'.size), u, by simp [Addr.add], hp, by rw [add_block]; exact k1, by rw [add_block]; exact k2, fun m hm => ?_⟩⟩
      · have hlt : (j : Int) < (List.length xs : Int) := by omega
        simp only [Instr.indexAt, run_underlying hu, asIntOf, sizeOf, typeInfo, hie, Sem.run_bind, Result.andThen_ok, Sem.run_pure, Sem.run_ite, run_program]
        rw [if_pos ⟨c1, hlt⟩]; simp [hsz]
      · rw [add_add, k3 _ (by simp only [List.length_append]; omega)]
        rw [List.getElem?_append_right (by omega), List.getElem?_append_left (by omega)]
        congr 1; omega
    · simp [Tr.ev] at h
  · rename_i k' st win
    simp only [ev_bind, Option.bind_eq_some_iff] at h
    obtain ⟨o, ho, h⟩ := h
    split at h
    · rename_i hc
      obtain ⟨e', ie, hu, hie, hsz⟩ := sl_under hT hc
      replace h := ev_iff h
      obtain ⟨c2, h⟩ := h
      simp only [decide_eq_true_eq] at c2
      have hj : j < o.xs.length := by omega
      simp only [Tr.ev, Option.some.injEq] at h
      subst h
      obtain ⟨o0, ys, Ad, capd, hk, hg, hh, hz, hw, hl, hown⟩ := view_info hi hx ho
      -- the value that is indexed
      have hval : ∃ a0 cap', v = .slice (some (a0.add (winLo win * o.r.size))) o.xs.length cap' ∧ Ad = some a0 := by
        cases Ad with
        | none =>
          have h8 := (hz rfl).1
          rw [h8] at hl
          cases win with
          | none => simp only [winLen] at hl; omega
          | some p => obtain ⟨lo, m'⟩ := p; simp only [winLen] at hl; omega
        | some a0 =>
          cases win with
          | none =>
            have hw' : v = .slice (some a0) ys.length capd := hw
            exact ⟨a0, capd, by rw [hw', hl]; simp [Addr.add, winLo, winLen], rfl⟩
          | some p =>
            obtain ⟨lo, m'⟩ := p
            obtain ⟨A0, n0, cap0, A', cap', q, e0, e1, h1, h2, h3, h4, h5⟩ := hw
            injection e0 with f1 f2 f3
            subst f1
            have := h5 a0 rfl
            subst this
            simp only [winLen] at hl
            have hq : q = lo := h3 (by omega)
            subst hq
            exact ⟨a0, cap', by rw [e1, hl]; rfl, rfl⟩
      obtain ⟨a0, cap', rfl, rfl⟩ := hval
      refine ⟨.pointer (some ((a0.add (winLo win * o.r.size)).add (j * o.r.size))), ?_, ?_⟩
      · have hlt : (j : Int) < (List.length o.xs : Int) := by omega
        simp only [Instr.indexAt, run_underlying hu, asIntOf, sizeOf, typeInfo, hie, Sem.run_bind, Result.andThen_ok, Sem.run_pure, Sem.run_ite, run_program]
        rw [if_pos ⟨c1, hlt⟩]; simp [hsz]
      · refine ⟨o0, _, hk, ?_, rfl, st, _, _, rfl, hg⟩
        rw [add_add, ← Nat.add_mul]
        exact adr_snoc st _ hown hg hh
    · simp [Tr.ev] at h
  · simp [Tr.ev] at h

#print axioms slice_ok
#print axioms index_ok
end
end Go.V
