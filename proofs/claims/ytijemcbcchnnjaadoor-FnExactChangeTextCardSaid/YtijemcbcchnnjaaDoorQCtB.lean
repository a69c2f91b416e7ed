import Derived.Test.YtijemcbcchnnjaaDoorQCtA
import Derived.Laws.StructEq
import Derived.Laws.IdiomCopy
import Derived.Great.BuildSlice
import Derived.Laws.MakeOwn
import Derived.Laws.AppendOwn
import Derived.Deep.Upon
import Derived.Lib.AppendZerosOnto
import Derived.Laws.IdiomStrings
import Derived.Laws.BytesArg
import Derived.Laws.Tables
import Derived.Laws.Small
import Derived.Laws.Strings
import Derived.Lib.SliceRun
import Derived.Calls
namespace Go.V
open Go.RowKit
section
variable {P : Program} {ti : TypeId → TI} {w : World}
theorem isStr_eq {t : TI} (h : t.isStr = true) : t = .cell .str := by
  unfold TI.isStr at h; split at h
  · rfl
  · cases h
theorem isSlOf_eq {t : TI} {n : Nat} (h : t.isSlOf n = true) : ∃ e ts bytes, t = .slice e ts bytes ∧ ts.length = n := by
  unfold TI.isSlOf at h; split at h
  · exact ⟨_, _, _, rfl, by simpa using h⟩
  · cases h
theorem isSl_eq {t : TI} (h : t.isSl = true) : ∃ e ts bytes, t = .slice e ts bytes := by
  unfold TI.isSl at h; split at h
  · exact ⟨_, _, _, rfl⟩
  · cases h
theorem str_under (hT : TabOk P ti) {t : TypeId} (h : (ti t).isStr = true) : P.underlying t = some .string := by
  obtain ⟨⟨d, hd, he⟩, _⟩ := hT.cell (isStr_eq h)
  rw [hd]; cases d <;> first | rfl | (simp [descIs] at he; done)
theorem rowTy_size : ∀ (ts : List Ty), (∀ t ∈ ts, t.size = 1) → (rowTy ts).size = ts.length
  | [], _ => rfl
  | [t], h => by simpa [rowTy] using h t (by simp)
  | t :: u :: ts, h => by
    have := rowTy_size (u :: ts) fun x hx => h x (by simp [hx])
    simp only [rowTy, Ty.size, h t (by simp), this, List.length_cons]; omega
theorem sl_under (hT : TabOk P ti) {t : TypeId} {n : Nat} (h : (ti t).isSlOf n = true) : ∃ e i, P.underlying t = some (.slice e) ∧ P.info? e = some i ∧ i.size = n := by
  obtain ⟨e, ts, bytes, he, hn⟩ := isSlOf_eq h
  obtain ⟨h1, _, _, _, i, z, h2, h3, _⟩ := hT.slice he
  exact ⟨e, i, h1, h2, by rw [h3, hn]⟩
theorem sl_under' (hT : TabOk P ti) {t : TypeId} (h : (ti t).isSl = true) : ∃ e i, P.underlying t = some (.slice e) ∧ P.info? e = some i := by
  obtain ⟨e, ts, bytes, he⟩ := isSl_eq h
  obtain ⟨h1, _, _, _, i, z, h2, _⟩ := hT.slice he
  exact ⟨e, i, h1, h2⟩
theorem bound_ok {N : Nat} {S : St} {c : Cc} {a : Act} {K : Nat → Prop} (hs : Slots N S c w K a) {x : Option Operand} {d : Nat} {n : Int} (h : (bound (x.map (opnd S)) d).ev S = some n) :
    (x = none ∧ n = d) ∨ ∃ y k, x = some y ∧ a.eval y = .int k n := by
  cases x with
  | none => simp only [Option.map_none, bound, Tr.ev, Option.some.injEq] at h; exact .inl ⟨rfl, h.symm⟩
  | some y =>
    simp only [Option.map_some] at h
    have hy := opnd_ok hs y
    unfold bound at h
    split at h
    · simp at *
    · rename_i k n' he
      injection he with he
      rw [he] at hy
      simp only [Tr.ev, Option.some.injEq] at h
      subst h
      have hy' : LeafOk S c w K (.v (.int k) n') (a.eval y) := hy
      exact .inr ⟨y, k, rfl, int_leaf hy'⟩
    · simp [Tr.ev] at h
theorem bounds_ok {N : Nat} {S : St} {c : Cc} {a : Act} {K : Nat → Prop} (hs : Slots N S c w K a) {len : Nat} {lo hi mx : Option Operand} {f : Nat → Nat → Tr SV} {r : SV}
    (h : (boundsT len (lo.map (opnd S)) (hi.map (opnd S)) (mx.map (opnd S)) f).ev S = some r) (isS : Bool) (cap : Nat) (hcap : len ≤ cap) (hmx : isS = false → mx = none) :
    ∃ l n m, (f l n).ev S = some r ∧ l + n ≤ len ∧ l + n ≤ m ∧ m ≤ cap ∧ (mx = none → m = cap) ∧ (Instr.sliceBounds isS len cap (lo.map a.eval) (hi.map a.eval) (mx.map a.eval)).run P w = .ok (l, l + n, m) w := by
  simp only [boundsT, ev_bind, Option.bind_eq_some_iff] at h
  obtain ⟨l, hl, hh, hhh, m, hm, g0⟩ := h
  obtain ⟨c1, g1⟩ := ev_iff g0
  obtain ⟨c2, g2⟩ := ev_iff g1
  obtain ⟨c3, g3⟩ := ev_iff g2
  obtain ⟨c4, g4⟩ := ev_iff g3
  obtain ⟨c5, g5⟩ := ev_iff g4
  simp only [decide_eq_true_eq] at c2 c3 c4 c5
  have hlo := bound_ok hs hl
  have hhi := bound_ok hs hhh
  have hmm := bound_ok hs hm
  obtain ⟨l', rfl⟩ := Int.eq_ofNat_of_zero_le c2
  obtain ⟨h', rfl⟩ := Int.eq_ofNat_of_zero_le (show (0 : Int) ≤ hh by omega)
  obtain ⟨m', rfl⟩ := Int.eq_ofNat_of_zero_le (show (0 : Int) ≤ m by omega)
  simp only [Int.toNat_natCast] at g5
  have c3' : l' ≤ h' := by omega
  have c4' : h' ≤ m' := by omega
  have c5' : m' ≤ len := by omega
  have e : l' + (h' - l') = h' := by omega
  have s1 : ∀ (x : Operand) (k : IntKind) (i y : Nat) (code : BoundsCode), a.eval x = .int k (i : Int) → i ≤ y → (Instr.sliceBound (a.eval x) y code).run P w = .ok i w := by
    intro x k i y code hx hiy
    rw [hx]
    simp only [Instr.sliceBound, asIntOf, Sem.run_bind, Sem.run_pure, Result.andThen_ok, Sem.run_ite]
    rw [if_pos ⟨by omega, by omega⟩]; simp
  rcases hmm with ⟨rfl, hm0⟩ | ⟨my, mk, rfl, hme⟩
  · refine ⟨l', h' - l', cap, g5, by omega, by omega, Nat.le_refl _, fun _ => rfl, ?_⟩
    rw [e]
    rcases hhi with ⟨rfl, hh0⟩ | ⟨hy, hk, rfl, hhe⟩
    · obtain rfl : h' = len := by omega
      rcases hlo with ⟨rfl, hl0⟩ | ⟨ly, lk, rfl, hle⟩
      · obtain rfl : l' = 0 := by omega
        simp [Instr.sliceBounds]
      · simp [Instr.sliceBounds, s1 ly lk l' _ _ hle c3']
    · rcases hlo with ⟨rfl, hl0⟩ | ⟨ly, lk, rfl, hle⟩
      · obtain rfl : l' = 0 := by omega
        cases isS <;> simp [Instr.sliceBounds, s1 hy hk h' _ _ hhe (show h' ≤ cap by omega)]
      · cases isS <;> simp [Instr.sliceBounds, s1 hy hk h' _ _ hhe (show h' ≤ cap by omega), s1 ly lk l' _ _ hle c3']
  · rcases hhi with ⟨rfl, hh0⟩ | ⟨hy, hk, rfl, hhe⟩
    · simp at c1
    · refine ⟨l', h' - l', m', g5, by omega, by omega, by omega, fun hx => (by cases hx), ?_⟩
      rw [e]
      cases isS with
      | false => cases hmx rfl
      | true =>
        rcases hlo with ⟨rfl, hl0⟩ | ⟨ly, lk, rfl, hle⟩
        · obtain rfl : l' = 0 := by omega
          simp [Instr.sliceBounds, s1 my mk m' _ _ hme (show m' ≤ cap by omega), s1 hy hk h' _ _ hhe c4']
        · simp [Instr.sliceBounds, s1 my mk m' _ _ hme (show m' ≤ cap by omega), s1 hy hk h' _ _ hhe c4', s1 ly lk l' _ _ hle c3']
theorem extract_str (s : List UInt8) (l n : Nat) (_h : l + n ≤ s.length) : (⟨s.toArray⟩ : ByteArray).extract l (l + n) = ⟨((s.drop l).take n).toArray⟩ := by
  apply ByteArray.ext
  simp only [ByteArray.data_extract]
  apply Array.ext'
  simp [List.extract_eq_take_drop]
theorem slice_ok {b : Base} {N : Nat} {S : St} {c : Cc} {a : Act} (hT : TabOk P ti) (hi : Inv b S w c) (hs : Slots N S c w (Kok b S c) a) {t : TypeId} {x : Leaf} {v : Value} {lo hi' mx : Option Operand} {r : SV}
    (hx : LeafOk S c w (Kok b S c) x v) (h : (sliceT (ti t) x (lo.map (opnd S)) (hi'.map (opnd S)) (mx.map (opnd S))).ev S = some r) :
    ∃ u, (Instr.sliceAt t v (lo.map a.eval) (hi'.map a.eval) (mx.map a.eval)).run P w = .ok u w ∧ SVOk S c w (Kok b S c) r u := by
  unfold sliceT at h
  split at h
  · rename_i s
    split at h
    · rename_i hc
      simp only [Bool.and_eq_true, Option.isNone_iff_eq_none, Option.map_eq_none_iff] at hc
      obtain ⟨hc, rfl⟩ := hc
      obtain rfl := str_leaf hx
      have hu := str_under hT hc
      obtain ⟨l, n, m, h1, h2, h3, h4, h5, h6⟩ := bounds_ok (P := P) hs h false s.length (Nat.le_refl _) (fun _ => rfl)
      simp only [Tr.ev, Option.some.injEq] at h1
      subst h1
      simp only [Option.map_none] at h6
      refine ⟨.string ⟨((s.drop l).take n).toArray⟩, ?_, sv_leaf mk_str⟩
      simp only [Instr.sliceAt, Instr.slice, Sem.run_bind, run_underlying hu, Result.andThen_ok, Option.map_none, Option.isSome_none, Bool.false_eq_true, if_false]
      have hsz : (ByteArray.mk s.toArray).size = s.length := by simp [ByteArray.size]
      simp [hsz, h6, extract_str s l n h2]
    · simp [Tr.ev] at h
  · rename_i e r' xs
    split at h
    · rename_i hc
      obtain ⟨e', i, hu, hie, hsz⟩ := sl_under hT hc
      simp only [LeafOk, Rp] at hx
      obtain ⟨_, A, cap, ws, hv, hcap, hr, hxs⟩ := hx
      injection hv with hv
      subst hv
      obtain ⟨l, n, m, h1, h2, h3, h4, h5, h6⟩ := bounds_ok (P := P) hs h true cap hcap (fun hx => (by cases hx))
      simp only [Tr.ev, Option.some.injEq] at h1
      subst h1
      refine ⟨.slice (if m = l then A else A.map (·.add (l * r'.size))) n (m - l), ?_, ?_⟩
      · simp only [Instr.sliceAt, Instr.slice, Sem.run_bind, run_underlying hu, Result.andThen_ok, h6, sizeOf, typeInfo, Sem.run_pure]
        simp [hie, hsz, Nat.add_sub_cancel_left]
      · have hlen : ((xs.drop l).take n).length = n := by rw [List.length_take, List.length_drop]; omega
        have hsplit : xs = xs.take l ++ ((xs.drop l).take n ++ (xs.drop l).drop n) := by rw [List.take_append_drop, List.take_append_drop]
        rw [hsplit] at hr
        obtain ⟨v1, v23, F1, F23, e1, eF, r1, r23⟩ := RpL.split hr
        obtain ⟨v2, v3, F2, F3, rfl, rfl, r2, r3⟩ := RpL.split r23
        have l1 := RpL.len (fun x vs F h => Rp.len r' x h) r1
        have hF2 : F2 = [] := by
          have := congrArg List.length eF
          simp only [List.length_nil, List.length_append] at this
          exact List.eq_nil_of_length_eq_zero (by omega)
        subst hF2
        simp only [SVOk, S1Ok, LeafOk, Rp]
        refine ⟨trivial, _, _, v2, by rw [hlen], by rw [hlen]; omega, r2, ?_⟩
        rcases Nat.eq_zero_or_pos n with hz | hz
        · left; exact List.eq_nil_of_length_eq_zero (by rw [hlen, hz])
        · right
          rcases hxs with rfl | ⟨ad, rfl, k1, k2, k3⟩
          · simp at h2; omega
          · refine ⟨ad.add (l * r'.size), by rw [if_neg (by omega)]; rfl, by rw [add_block]; exact k1, by rw [add_block]; exact k2, fun j hj => ?_⟩
            rw [add_add, k3 _ (by rw [e1]; simp only [List.length_append]; rw [l1, List.length_take, Nat.min_eq_left (by omega)]; omega), e1]
            have : l * r'.size = v1.length := by rw [l1, List.length_take, Nat.min_eq_left (by omega)]
            rw [this, List.getElem?_append_right (by omega), List.getElem?_append_left (by omega)]
            congr 1; omega
    · simp [Tr.ev] at h
  · rename_i k st win
    simp only [ev_bind, Option.bind_eq_some_iff] at h
    obtain ⟨o, ho, h⟩ := h
    split at h
    · rename_i hc
      obtain ⟨e', i, hu, hie, hsz⟩ := sl_under hT hc
      obtain ⟨hne, F', hp, hsub, hnd⟩ := view_own hi hx ho
      obtain ⟨A, cap, ws, F2, rfl, hr, _, hnone, hxs⟩ := own_read hp
      have hcap : o.xs.length ≤ cap := by
        simp only [Rp] at hp
        rcases hp with ⟨h1, _⟩ | ⟨g, off, c1, cs, fr, F0, h1, _, _, _, _, h2, _⟩
        · rw [h1]; simp
        · injection h1 with h1 _; injection h1 with _ _ h1; omega
      obtain ⟨l, n, m, h1, h2, h3, h4, h5, h6⟩ := bounds_ok (P := P) hs h true cap hcap (fun hx => (by cases hx))
      simp only [Tr.ev, Option.some.injEq] at h1
      subst h1
      refine ⟨.slice (if m = l then A else A.map (·.add (l * o.r.size))) n (m - l), ?_, ?_⟩
      · simp only [Instr.sliceAt, Instr.slice, Sem.run_bind, run_underlying hu, Result.andThen_ok, h6, sizeOf, typeInfo, Sem.run_pure]
        simp [hie, hsz, Nat.add_sub_cancel_left]
      · obtain ⟨o0, ys, Ad, capd, hk, hg, hh, hz, hw, hl, _⟩ := view_info hi hx ho
        refine ⟨o0, _, o.r, ys, _, hk, hg, hh, ?_⟩
        refine win_cut (n := o.xs.length) ⟨rfl, hz⟩ hw rfl h2 h3 h4 _ rfl ?_ ?_
        · intro p hp'; subst hp'; exact hl
        · intro hp'; subst hp'; exact hl
    · simp [Tr.ev] at h
  · split at h
    · rename_i hc
      obtain ⟨e', i, hu, hie⟩ := sl_under' hT hc
      obtain rfl : v = .slice none 0 0 := hx
      obtain ⟨l, n, m, h1, h2, h3, h4, h5, h6⟩ := bounds_ok (P := P) hs h true 0 (Nat.le_refl _) (fun hx => (by cases hx))
      simp only [Tr.ev, Option.some.injEq] at h1
      subst h1
      obtain rfl : l = 0 := by omega
      obtain rfl : n = 0 := by omega
      obtain rfl : m = 0 := by omega
      refine ⟨.slice none 0 0, ?_, rfl⟩
      simp only [Instr.sliceAt, Instr.slice, Sem.run_bind, run_underlying hu, Result.andThen_ok, h6, sizeOf, typeInfo, Sem.run_pure]
      simp [hie]
    · simp [Tr.ev] at h
  · simp [Tr.ev] at h
theorem index_ok {b : Base} {S : St} {c : Cc} (hT : TabOk P ti) (hi : Inv b S w c) {t : TypeId} {x : Leaf} {v : Value} {k : IntKind} {i : Int} {r : SV}
    (hx : LeafOk S c w (Kok b S c) x v) (h : (indexT (ti t) x i).ev S = some r) :
    ∃ u, (Instr.indexAt t v (.int k i)).run P w = .ok u w ∧ SVOk S c w (Kok b S c) r u := by
  unfold indexT at h
  replace h := ev_iff h
  obtain ⟨c1, h⟩ := h
  simp only [decide_eq_true_eq] at c1
  obtain ⟨j, rfl⟩ := Int.eq_ofNat_of_zero_le c1
  simp only [Int.toNat_natCast] at h
  split at h
  · rename_i e r' xs
    split at h
    · rename_i hc
      obtain ⟨e', ie, hu, hie, hsz⟩ := sl_under hT hc
      simp only [Tr.ev, Option.bind_eq_some_iff, Option.some.injEq] at h
      obtain ⟨row, hrow, rfl⟩ := h
      have hj : j < xs.length := (List.getElem?_eq_some_iff.1 hrow).1
      simp only [LeafOk, Rp] at hx
      obtain ⟨_, A, cap, ws, hv, hcap, hr, hxs⟩ := hx
      injection hv with hv
      subst hv
      rcases hxs with rfl | ⟨ad, rfl, k1, k2, k3⟩
      · simp at hj
      obtain ⟨v1, u, v2, F1, G, F2, rfl, l1, hF, hp, _, _⟩ := RpL.get (fun x vs F h => Rp.len r' x h) hr hrow
      have hG : G = [] := by
        have := congrArg List.length hF
        simp only [List.length_nil, List.length_append] at this
        exact List.eq_nil_of_length_eq_zero (by omega)
      subst hG
      refine ⟨.pointer (some (ad.add (j * r'.size))), ?_, ⟨ad.add (j * r'.size), u, by simp [Addr.add], hp, by rw [add_block]; exact k1, by rw [add_block]; exact k2, fun m hm => ?_⟩⟩
      · have hlt : (j : Int) < (List.length xs : Int) := by omega
        simp only [Instr.indexAt, run_underlying hu, asIntOf, sizeOf, typeInfo, hie, Sem.run_bind, Result.andThen_ok, Sem.run_pure, Sem.run_ite, run_program]
        rw [if_pos ⟨c1, hlt⟩]; simp [hsz]
      · rw [add_add, k3 _ (by simp only [List.length_append]; omega)]
        rw [List.getElem?_append_right (by omega), List.getElem?_append_left (by omega)]
        congr 1; omega
    · simp [Tr.ev] at h
  · rename_i k' st win
    simp only [ev_bind, Option.bind_eq_some_iff] at h
    obtain ⟨o, ho, h⟩ := h
    split at h
    · rename_i hc
      obtain ⟨e', ie, hu, hie, hsz⟩ := sl_under hT hc
      replace h := ev_iff h
      obtain ⟨c2, h⟩ := h
      simp only [decide_eq_true_eq] at c2
      have hj : j < o.xs.length := by omega
      simp only [Tr.ev, Option.some.injEq] at h
      subst h
      obtain ⟨o0, ys, Ad, capd, hk, hg, hh, hz, hw, hl, hown⟩ := view_info hi hx ho
      have hval : ∃ a0 cap', v = .slice (some (a0.add (winLo win * o.r.size))) o.xs.length cap' ∧ Ad = some a0 := by
        cases Ad with
        | none =>
          have h8 := (hz rfl).1
          rw [h8] at hl
          cases win with
          | none => simp only [winLen] at hl; omega
          | some p => obtain ⟨lo, m'⟩ := p; simp only [winLen] at hl; omega
        | some a0 =>
          cases win with
          | none =>
            have hw' : v = .slice (some a0) ys.length capd := hw
            exact ⟨a0, capd, by rw [hw', hl]; simp [Addr.add, winLo, winLen], rfl⟩
          | some p =>
            obtain ⟨lo, m'⟩ := p
            obtain ⟨A0, n0, cap0, A', cap', q, e0, e1, h1, h2, h3, h4, h5⟩ := hw
            injection e0 with f1 f2 f3
            subst f1
            have := h5 a0 rfl
            subst this
            simp only [winLen] at hl
            have hq : q = lo := h3 (by omega)
            subst hq
            exact ⟨a0, cap', by rw [e1, hl]; rfl, rfl⟩
      obtain ⟨a0, cap', rfl, rfl⟩ := hval
      refine ⟨.pointer (some ((a0.add (winLo win * o.r.size)).add (j * o.r.size))), ?_, ?_⟩
      · have hlt : (j : Int) < (List.length o.xs : Int) := by omega
        simp only [Instr.indexAt, run_underlying hu, asIntOf, sizeOf, typeInfo, hie, Sem.run_bind, Result.andThen_ok, Sem.run_pure, Sem.run_ite, run_program]
        rw [if_pos ⟨c1, hlt⟩]; simp [hsz]
      · refine ⟨o0, _, hk, ?_, rfl, st, _, _, rfl, hg⟩
        rw [add_add, ← Nat.add_mul]
        exact adr_snoc st _ hown hg hh
    · simp [Tr.ev] at h
  · simp [Tr.ev] at h
end
end Go.V

namespace Go.V
open Go.RowKit
section
variable {P : Program} {ti : TypeId → TI}
theorem size_of (hT : TabOk P ti) {t : TypeId} {ts : List Ty} (h : (ti t).cells = some ts) : ∃ i, P.info? t = some i ∧ i.size = ts.length ∧ (∃ d, P.underlying t = some d ∧ isAggD d = (ti t).isAgg) ∧
    ((ti t).isAgg = false → ∃ u, ts = [u]) ∧ ∃ z, i.zero = some z ∧ z.cells.toList = ts.map zeroV ∧ ∀ u ∈ ts, u.size = 1 ∧ ∀ a b, u ≠ .pair a b := by
  cases ht : ti t with
  | cell u =>
    rw [ht] at h
    simp only [TI.cells, Option.some.injEq] at h
    subst h
    obtain ⟨⟨d, hd, hdd⟩, i, hi, h1, h2, h3⟩ := hT.cell ht
    refine ⟨i, hi, h1, ⟨d, hd, ?_⟩, fun _ => ⟨u, rfl⟩, _, h2, ?_, ?_⟩
    · cases u <;> cases d <;> first | rfl | (simp [descIs] at hdd; done)
    · cases u <;> first | rfl | (simp [Ty.size] at h3; done) | (cases d <;> simp [descIs] at hdd)
    · intro v hv
      simp only [List.mem_singleton] at hv
      subst hv
      refine ⟨h3, ?_⟩
      cases v <;> cases d <;> first | (simp [descIs] at hdd; done) | simp
  | slice e ts' bytes =>
    rw [ht] at h
    simp only [TI.cells, Option.some.injEq] at h
    subst h
    obtain ⟨h1, ⟨i, hi, h2, h3⟩, _⟩ := hT.slice ht
    exact ⟨i, hi, h2, ⟨_, h1, rfl⟩, fun _ => ⟨_, rfl⟩, _, h3, rfl, by simp [Ty.size]⟩
  | struct fs row eq =>
    rw [ht] at h
    simp only [TI.cells, Option.some.injEq] at h
    subst h
    obtain ⟨fields, h1, _, _, i, hi, h2, h3, h4⟩ := hT.struct ht
    exact ⟨i, hi, h2, ⟨_, h1, rfl⟩, fun h => (by cases h), _, h3, by simp [Value.cells], h4⟩
  | ptr e => rw [ht] at h; cases h
  | other => rw [ht] at h; cases h
theorem run_size {t : TypeId} {i : TypeInfo} (h : P.info? t = some i) (w : World) : (sizeOf t).run P w = .ok i.size w := by simp [sizeOf, typeInfo, h]
theorem run_zero {t : TypeId} {i : TypeInfo} {z : Value} (h : P.info? t = some i) (hz : i.zero = some z) (w : World) : (zeroValue t).run P w = .ok z w := by simp [zeroValue, typeInfo, h, hz]
theorem run_isAgg {t : TypeId} {d : TypeDesc} (h : P.underlying t = some d) (w : World) : (isAgg t).run P w = .ok (isAggD d) w := by
  unfold isAgg
  simp only [Sem.run_bind, run_underlying h, Result.andThen_ok]
  cases d <;> rfl
theorem zeroLeaf_ok {S : St} {c : Cc} {w : World} {K : Nat → Prop} : ∀ (ts : List Ty), (∀ u ∈ ts, u.size = 1 ∧ ∀ a b, u ≠ .pair a b) → All2 (LeafOk S c w K) (ts.map zeroLeaf) (ts.map zeroV)
  | [], _ => .nil
  | t :: ts, h => by
    refine .cons ?_ (zeroLeaf_ok ts fun u hu => h u (by simp [hu]))
    have := h t (by simp)
    cases t with
    | pair a b => exact absurd rfl (this.2 a b)
    | unit => simp [Ty.size] at this
    | int k => simp [zeroLeaf, zeroV, LeafOk, Rp, Ty.zero]
    | bool => simp [zeroLeaf, zeroV, LeafOk, Rp, Ty.zero]
    | str => simp [zeroLeaf, zeroV, LeafOk, Rp, Ty.zero]
    | sl o e r => simp [zeroLeaf, zeroV, LeafOk]
    | pt t => simp [zeroLeaf, zeroV, LeafOk, Rp, Ty.zero]
theorem newMem_did {b : Base} {S : St} {c : Cc} {w : World} (hi : Inv b S w c) (d : Nat) (hdn : d < b.n1) (row : List Leaf) (vs : List Value) (e : TypeId) (hrow : All2 (LeafOk S c w (Kok b S c)) row vs) :
    Did b S c w ⟨.s (.pl d 0), [.m d], [.ms d row]⟩ (.pointer (some ⟨w.heap.size, 0, none⟩)) { w with heap := w.heap.push (.cells vs.toArray e) } := by
  obtain ⟨c', h1, h2, h3⟩ := hi.newMem d hdn row vs e rfl hrow
  exact ⟨c', h2, h3, row.length, by simp [St.ups, St.up], by rw [h1]⟩
theorem run_newVar (t : TypeId) (v : Value) (w : World) : (newVar t v).run P w = .ok ⟨w.heap.size, 0, none⟩ { w with heap := w.heap.push (.cells v.cells t) } := by
  simp [newVar, newRow]
theorem alloc_ok {b : Base} {S : St} {c : Cc} {w : World} (hT : TabOk P ti) (hi : Inv b S w c) {t : TypeId} {ts : List Ty} (h : (ti t).cells = some ts) (d : Nat) (hdn : d < b.n1) :
    ∃ v w', (Instr.alloc t true (.tuple #[])).run P w = .ok v w' ∧ Did b S c w ⟨.s (.pl d 0), [.m d], [.ms d (ts.map zeroLeaf)]⟩ v w' := by
  obtain ⟨i, h1, _, _, _, z, h2, h3, h4⟩ := size_of hT h
  refine ⟨_, _, ?_, newMem_did hi d hdn _ (ts.map zeroV) t (zeroLeaf_ok ts h4)⟩
  simp only [Instr.alloc, Sem.run_bind, run_zero h1 h2, Result.andThen_ok, run_newVar, Sem.run_pure]
  rw [← h3]
theorem box_ok {b : Base} {S : St} {c : Cc} {w : World} (hi : Inv b S w c) {t : TypeId} {x : SV} {v : Value} {ls : List Leaf} (hx : SVOk S c w (Kok b S c) x v) (hl : leaves x = some ls) (d : Nat) (hdn : d < b.n1) :
    ∃ u w', (Instr.box t v).run P w = .ok u w' ∧ Did b S c w ⟨.s (.pl d 0), [.m d], [.ms d ls]⟩ u w' := by
  obtain ⟨vs, h1, h2, h3⟩ := leaves_ok hi hx hl
  refine ⟨_, _, ?_, newMem_did hi d hdn ls vs t h2⟩
  simp only [Instr.box, Sem.run_bind, run_newVar, Result.andThen_ok, Sem.run_pure, h1]
theorem box_ptr_ok {b : Base} {S : St} {c : Cc} {w : World} (hi : Inv b S w c) {t : TypeId} {u : Ty} {y : u.D} {v : Value} (hv : SVOk S c w (Kok b S c) (.s (.rp u y 0)) v) (d : Nat) (hdn : d < b.n1) :
    ∃ r w', (Instr.box t v).run P w = .ok r w' ∧ Did b S c w ⟨.s (.pl d 0), [.m d], [.ms d [.v (.pt u) (some y)]]⟩ r w' := by
  obtain ⟨ad, vs, rfl, h1, h2, h3, h4⟩ := hv
  refine ⟨_, _, ?_, newMem_did hi d hdn _ [.pointer (some (ad.add 0))] t (.cons ?_ .nil)⟩
  · simp only [Instr.box, Sem.run_bind, run_newVar, Result.andThen_ok, Sem.run_pure]
    rfl
  · simp only [LeafOk, Rp]
    exact ⟨trivial, ad, vs, by simp [Addr.add], h1, h2, h3, h4⟩
theorem cellAt_leaf : ∀ (t : Ty) (x : t.D) (j : Nat) {c}, cellAt t x j = some c → (∀ a b, c.1 ≠ .pair a b) ∧ c.1 ≠ .unit
  | .pair a b, (x, y), j, c, h => by
    simp only [cellAt] at h
    split at h
    · exact cellAt_leaf a x j h
    · exact cellAt_leaf b y _ h
  | .unit, _, _, _, h => by simp [cellAt] at h
  | .int _, _, 0, _, h => by simp only [cellAt, Option.some.injEq] at h; subst h; simp
  | .bool, _, 0, _, h => by simp only [cellAt, Option.some.injEq] at h; subst h; simp
  | .str, _, 0, _, h => by simp only [cellAt, Option.some.injEq] at h; subst h; simp
  | .pt _, _, 0, _, h => by simp only [cellAt, Option.some.injEq] at h; subst h; simp
  | .sl _ _ _, _, 0, _, h => by simp only [cellAt, Option.some.injEq] at h; subst h; simp
  | .int _, _, _ + 1, _, h => by simp [cellAt] at h
  | .bool, _, _ + 1, _, h => by simp [cellAt] at h
  | .str, _, _ + 1, _, h => by simp [cellAt] at h
  | .pt _, _, _ + 1, _, h => by simp [cellAt] at h
  | .sl _ _ _, _, _ + 1, _, h => by simp [cellAt] at h
theorem getT_leaf : ∀ (st : Steps) (t : Ty) (x : t.D) {c : (u : Ty) × u.D}, st ≠ [] → (getT t x st).run = some c → (∀ a b, c.1 ≠ .pair a b) ∧ c.1 ≠ .unit
  | [], _, _, _, hne, _ => absurd rfl hne
  | (i, j) :: ps, t, x, c, _, h => by
    match t, x, h with
    | .sl true e r, xs, h =>
      obtain ⟨row, d, hrow, hd, hrest⟩ := getT_run_cons h
      cases ps with
      | nil => simp only [getT, Tr.run, Option.some.injEq] at hrest; subst hrest; exact cellAt_leaf r row j hd
      | cons p ps => exact getT_leaf (p :: ps) d.1 d.2 (by simp) hrest
    | .sl false _ _, _, hg => simp [getT, Tr.run] at hg
    | .int _, _, hg => simp [getT, Tr.run] at hg
    | .bool, _, hg => simp [getT, Tr.run] at hg
    | .str, _, hg => simp [getT, Tr.run] at hg
    | .pt _, _, hg => simp [getT, Tr.run] at hg
    | .unit, _, hg => simp [getT, Tr.run] at hg
    | .pair _ _, _, hg => simp [getT, Tr.run] at hg
theorem ldCell_ok {b : Base} {S : St} {c : Cc} {w : World} (hi : Inv b S w c) {a : S1} {v : Value} {n : Nat} {l : Leaf} (ha : S1Ok S c w (Kok b S c) a v) (h : (ldCell a n).ev S = some l) :
    ∃ ad u, v = .pointer (some ad) ∧ w.cell? (ad.add n) = some u ∧ LeafOk S c w (Kok b S c) l u := by
  cases a with
  | one l' => simp [ldCell, Tr.ev] at h
  | ag ls => simp [ldCell, Tr.ev] at h
  | fv f cs => simp [ldCell, Tr.ev] at h
  | pl k off =>
    obtain ⟨m, hm, rfl⟩ := ha
    simp only [ldCell, Tr.ev, hm] at h
    split at h
    · rename_i hlt
      simp only [Tr.ev] at h
      obtain ⟨cs, e, fr, h1, h2, h3, h4⟩ := hi.ms k m hm
      have hlt' : off + n < cs.size := by omega
      have hcell : cs[off + n]? = some cs[off + n] := Array.getElem?_eq_getElem hlt'
      refine ⟨_, _, rfl, by rw [add_blk, cell_blk h1]; exact hcell, ?_⟩
      have := h4 _ _ hcell
      split at h
      · simp [Tr.ev] at h
      · simp only [Tr.ev, Option.some.injEq] at h; subst h; exact this
    · simp [Tr.ev] at h
  | el k st =>
    obtain ⟨o, ad, ho, had, rfl, pre, ⟨i, j⟩, d, rfl, hd⟩ := ha
    simp only [ldCell, Tr.ev, ho, ev_bind, Option.bind_eq_some_iff] at h
    obtain ⟨c0, hc0, h⟩ := h
    rw [ev_get] at hc0
    simp only [Option.some.injEq] at h
    subst h
    have hne : bump (pre ++ [(i, j)]) n ≠ [] := by rw [bump_snoc]; simp
    obtain ⟨h', F', h1, h2, h3, _, h4⟩ := Rp.reach _ _ _ (hi.ow k o ho) hc0
    obtain ⟨a', h5, h6, _⟩ := h4 hne
    have := adr_bump _ n had
    rw [this] at h5
    injection h5 with h5
    subst h5
    refine ⟨ad, h', rfl, h6, ?_⟩
    have hleaf := getT_leaf _ _ _ hne hc0
    obtain ⟨t0, x0⟩ := c0
    cases t0 with
    | pair a b => exact absurd rfl (hleaf.1 a b)
    | unit => exact absurd rfl hleaf.2
    | int k => simp only [leafOf, LeafOk, Rp] at h2 ⊢; exact ⟨h2.1, trivial⟩
    | bool => simp only [leafOf, LeafOk, Rp] at h2 ⊢; exact ⟨h2.1, trivial⟩
    | str => simp only [leafOf, LeafOk, Rp] at h2 ⊢; exact ⟨h2.1, trivial⟩
    | sl o' e r =>
      cases o' with
      | true => exact ⟨o, e, r, x0, h', ho, hc0, h1, rfl⟩
      | false =>
        simp only [leafOf, LeafOk]
        have : F' = [] := by simp only [Rp] at h2; exact h2.1
        subst this; exact h2
    | pt t =>
      simp only [leafOf, LeafOk]
      have : F' = [] := by simp only [Rp] at h2; exact h2.1
      subst this; exact h2
  | rp t x off =>
    obtain ⟨ad, vs, rfl, h1, h2, h3, h4⟩ := ha
    simp only [ldCell] at h
    split at h
    · rename_i c0 hc0
      simp only [Tr.ev, Option.some.injEq] at h
      subst h
      obtain ⟨pre, u, post, Fa, G, Fb, rfl, hl, hF, hu, _⟩ := Rp.cell t x _ h1 hc0
      have hG : G = [] := by
        have := congrArg List.length hF
        simp only [List.length_nil, List.length_append] at this
        exact List.eq_nil_of_length_eq_zero (by omega)
      subst hG
      refine ⟨_, u, rfl, ?_, hu⟩
      rw [add_add, h4 _ (by simp only [List.length_append, List.length_cons]; omega)]
      rw [List.getElem?_append_right (by omega), hl, Nat.sub_self]; rfl
    · simp [Tr.ev] at h
theorem ldCells_ok {b : Base} {S : St} {c : Cc} {w : World} (hi : Inv b S w c) {a : S1} {v : Value} (ha : S1Ok S c w (Kok b S c) a v) : ∀ (n i : Nat) {ls : List Leaf}, (ldCells a n i).ev S = some ls →
    (0 < n → ∃ ad, v = .pointer (some ad)) ∧ ∃ us : List Value, us.length = n ∧ All2 (LeafOk S c w (Kok b S c)) ls us ∧ ∀ ad, v = .pointer (some ad) → ∀ j u, us[j]? = some u → w.cell? (ad.add (i + j)) = some u
  | 0, i, ls, h => by
    simp only [ldCells, Tr.ev, Option.some.injEq] at h
    subst h
    exact ⟨by omega, [], rfl, .nil, by simp⟩
  | n + 1, i, ls, h => by
    simp only [ldCells, ev_bind, Option.bind_eq_some_iff, Tr.ev, Option.some.injEq] at h
    obtain ⟨l, hl, ls', hls, rfl⟩ := h
    obtain ⟨ad, u, rfl, h1, h2⟩ := ldCell_ok hi ha hl
    obtain ⟨_, us, h3, h4, h5⟩ := ldCells_ok hi ha n (i + 1) hls
    refine ⟨fun _ => ⟨ad, rfl⟩, u :: us, by simp [h3], .cons h2 h4, ?_⟩
    intro ad' e j x hx
    injection e with e; injection e with e
    subst e
    cases j with
    | zero => simp only [List.getElem?_cons_zero, Option.some.injEq] at hx; subst hx; exact h1
    | succ j =>
      have := h5 ad rfl j x (by simpa using hx)
      rwa [show i + (j + 1) = i + 1 + j by omega]
theorem load_ok {b : Base} {S : St} {c : Cc} {w : World} (hT : TabOk P ti) (hi : Inv b S w c) {t : TypeId} {a : S1} {v : Value} {ts : List Ty} (ha : S1Ok S c w (Kok b S c) a v) (ht : (ti t).cells = some ts) {x : SV}
    (h : (if (ti t).isAgg then (ldCells a ts.length 0).bind fun ls => Tr.ret (SV.s (.ag ls)) else (ldCell a 0).bind fun l => Tr.ret (SV.s (.one l))).ev S = some x) (hpos : 0 < ts.length) :
    ∃ u, (Instr.loadAt t v).run P w = .ok u w ∧ SVOk S c w (Kok b S c) x u := by
  obtain ⟨i, h1, h2, ⟨d, h3, h4⟩, h5, _⟩ := size_of hT ht
  split at h
  · rename_i hag
    simp only [ev_bind, Option.bind_eq_some_iff, Tr.ev, Option.some.injEq] at h
    obtain ⟨ls, hls, rfl⟩ := h
    obtain ⟨h6, us, h7, h8, h9⟩ := ldCells_ok hi ha _ _ hls
    obtain ⟨ad, rfl⟩ := h6 hpos
    refine ⟨.agg us.toArray, ?_, us, rfl, h8⟩
    have hl := run_loadCells_list (P := P) w ad us (fun j u hu => by simpa using h9 ad rfl j u hu)
    simp only [Instr.loadAt, Instr.sureAddr, Sem.run_bind, Sem.run_pure, Result.andThen_ok, loadVar, run_isAgg h3, h4, hag, if_true, run_size h1, h2, Sem.run_ite]
    rw [h7] at hl
    rw [hl]; rfl
  · rename_i hag
    simp only [ev_bind, Option.bind_eq_some_iff, Tr.ev, Option.some.injEq] at h
    obtain ⟨l, hl, rfl⟩ := h
    obtain ⟨ad, u, rfl, h6, h7⟩ := ldCell_ok hi ha hl
    refine ⟨u, ?_, h7⟩
    have h6' : w.cell? ad = some u := by simpa [Addr.add] using h6
    have hag' : (ti t).isAgg = false := by simpa using hag
    simp only [Instr.loadAt, Instr.sureAddr, Sem.run_bind, Sem.run_pure, Result.andThen_ok, loadVar, run_isAgg h3, h4, hag', Sem.run_ite]
    simp [h6']
theorem load_ptr_ok {b : Base} {S : St} {c : Cc} {w : World} (hT : TabOk P ti) (hi : Inv b S w c) {t e : TypeId} {a : S1} {v : Value} (ha : S1Ok S c w (Kok b S c) a v) (ht : ti t = .ptr e) {u : Ty} {y : u.D}
    (h : (ldCell a 0).ev S = some (.v (.pt u) (some y))) : ∃ r, (Instr.loadAt t v).run P w = .ok r w ∧ SVOk S c w (Kok b S c) (.s (.rp u y 0)) r := by
  have h3 := hT.ptr ht
  obtain ⟨ad, r, rfl, h6, h7⟩ := ldCell_ok hi ha h
  have h6' : w.cell? ad = some r := by simpa [Addr.add] using h6
  refine ⟨r, ?_, ?_⟩
  · simp only [Instr.loadAt, Instr.sureAddr, Sem.run_bind, Sem.run_pure, Result.andThen_ok, loadVar, run_isAgg h3, isAggD, Sem.run_ite]
    simp [h6']
  · simp only [LeafOk, Rp] at h7
    obtain ⟨_, ad', ws, e1, k1, k2, k3, k4⟩ := h7
    injection e1 with e1
    subst e1
    exact ⟨ad', ws, by simp [Addr.add], k1, k2, k3, k4⟩
theorem part_one {t : TypeId} {d : TypeDesc} (hd : P.underlying t = some d) (hag : isAggD d = false) (cs : Array Value) (off : Nat) {v : Value} (hv : cs[off]? = some v) (w : World) : (part t cs off).run P w = .ok v w := by
  simp only [part, Sem.run_bind, run_isAgg hd, Result.andThen_ok, hag, Bool.false_eq_true, if_false, hv, Sem.run_pure]
theorem eqFields_cons {w : World} {d : TypeDesc} {f : Field} {fs : List Field} {cs ds : Array Value} {u v : Value} {b r : Bool} (hn : (!(f.name == "_")) = true) (hd : P.underlying f.type = some d) (hag : isAggD d = false) (hu : cs[f.offset]? = some u) (hv : ds[f.offset]? = some v)
    (h1 : (Op.equalIn 9999 f.type u v).run P w = .ok b w) (h2 : (Op.eqFields 9999 cs ds fs).run P w = .ok r w) : (Op.eqFields 9999 cs ds (f :: fs)).run P w = .ok (b && r) w := by
  have hn' : f.name ≠ "_" := by simpa using hn
  simp only [Op.eqFields, hn', ne_eq, not_false_eq_true, if_true, Sem.run_bind, part_one hd hag _ _ hu, part_one hd hag _ _ hv, Result.andThen_ok, h1]
  cases b
  · simp
  · simp [h2]
theorem aggEq_ok {w : World} {S : St} {c : Cc} {K : Nat → Prop} : ∀ (row : List Ty) (fields : List Field) (fs : List (Nat × Nat × Bool)) (i : Nat) (xs ys : List Leaf) (us vs pre pre' : List Value) {r : Bool}, eqAre P row fields = true → fieldsAre P fs fields = true → offsAre fs i = true →
    pre.length = i → pre'.length = i → All2 (LeafOk S c w K) xs us → All2 (LeafOk S c w K) ys vs → aggEq row xs ys = some r → (Op.eqFields 9999 (pre ++ us).toArray (pre' ++ vs).toArray fields).run P w = .ok r w
  | [], fields, fs, i, xs, ys, us, vs, pre, pre', r, h1, h2, h3, hp, hp', k1, k2, hr => by
    cases fields with
    | cons f fields => simp [eqAre] at h1
    | nil =>
      cases k1 <;> cases k2 <;> simp [aggEq] at hr
      subst hr; rfl
  | t :: row, [], fs, i, xs, ys, us, vs, pre, pre', r, h1, h2, h3, hp, hp', k1, k2, hr => by simp [eqAre] at h1
  | t :: row, f :: fields, [], i, xs, ys, us, vs, pre, pre', r, h1, h2, h3, hp, hp', k1, k2, hr => by simp [fieldsAre] at h2
  | t :: row, f :: fields, (o, n, ag) :: fs, i, xs, ys, us, vs, pre, pre', r, h1, h2, h3, hp, hp', k1, k2, hr => by
    simp only [eqAre, Bool.and_eq_true] at h1
    obtain ⟨⟨hn, hd⟩, h1⟩ := h1
    split at hd
    · rename_i d hd'
      simp only [fieldsAre, Bool.and_eq_true, beq_iff_eq] at h2
      obtain ⟨⟨⟨⟨ho, _⟩, _⟩, _⟩, h2⟩ := h2
      simp only [offsAre, Bool.and_eq_true, beq_iff_eq] at h3
      obtain ⟨⟨⟨hoi, _⟩, _⟩, h3⟩ := h3
      cases k1 with
      | nil => cases t <;> simp [aggEq] at hr
      | cons a1 a2 =>
        rename_i x u xs us
        cases k2 with
        | nil => cases t <;> cases x <;> simp [aggEq] at hr
        | cons b1 b2 =>
          rename_i y v ys vs
          have rec_ := fun {r'} hr' => aggEq_ok row fields fs (i + 1) xs ys us vs (pre ++ [u]) (pre' ++ [v]) (r := r') h1 h2 h3 (by simp [hp]) (by simp [hp']) a2 b2 hr'
          simp only [List.append_assoc, List.singleton_append] at rec_
          have hu : (pre ++ u :: us).toArray[f.offset]? = some u := by rw [ho, hoi, ← hp]; simp
          have hv : (pre' ++ v :: vs).toArray[f.offset]? = some v := by rw [ho, hoi, ← hp']; simp
          unfold aggEq at hr
          split at hr
          · rename_i e _ _; cases e
          · rename_i e1 e2 e3
            injection e1 with e1 e1'; injection e2 with e2 e2'; injection e3 with e3 e3'
            subst e1 e2 e3 e1' e2' e3'
            split at hr
            · rename_i hk; subst hk
              rw [Option.map_eq_some_iff] at hr
              obtain ⟨r', hr', rfl⟩ := hr
              obtain rfl := int_leaf a1
              obtain rfl := int_leaf b1
              cases d <;> simp [descIs] at hd
              exact eqFields_cons hn hd' rfl hu hv (equalIn_int 9998 f.type _ _ _ _ hd') (rec_ hr')
            · cases hr
          · rename_i e1 e2 e3
            injection e1 with e1 e1'; injection e2 with e2 e2'; injection e3 with e3 e3'
            subst e1 e2 e3 e1' e2' e3'
            rw [Option.map_eq_some_iff] at hr
            obtain ⟨r', hr', rfl⟩ := hr
            obtain rfl := bool_leaf a1
            obtain rfl := bool_leaf b1
            cases d <;> simp [descIs] at hd
            exact eqFields_cons hn hd' rfl hu hv (equalIn_bool 9998 f.type _ _ hd') (rec_ hr')
          · rename_i e1 e2 e3
            injection e1 with e1 e1'; injection e2 with e2 e2'; injection e3 with e3 e3'
            subst e1 e2 e3 e1' e2' e3'
            rw [Option.map_eq_some_iff] at hr
            obtain ⟨r', hr', rfl⟩ := hr
            have q1 := str_leaf a1
            have q2 := str_leaf b1
            cases d <;> simp [descIs] at hd
            subst q1 q2
            refine eqFields_cons hn hd' rfl hu hv ?_ (rec_ hr')
            rw [run_equalIn_string _ _ _ _ _ hd', ByteArray.toList_eq, ByteArray.toList_eq]
          · cases hr
    · cases hd
theorem agg_eql {w : World} (t : TypeId) (us vs : List Value) (fields : Array Field) (ht : P.underlying t = some (.struct fields)) (hp : P.stoodInHeld t = false) {r : Bool} (h : (Op.eqFields 9999 us.toArray vs.toArray fields.toList).run P w = .ok r w) :
    (binOp .eql t (.agg us.toArray) (.agg vs.toArray)).run P w = .ok (.bool r) w ∧ (binOp .neq t (.agg us.toArray) (.agg vs.toArray)).run P w = .ok (.bool (!r)) w := by
  have hf : P.fieldsOf t = fields := by simp [Program.fieldsOf, ht]
  have he : (Op.equalIn 10000 t (.agg us.toArray) (.agg vs.toArray)).run P w = .ok r w := by
    rw [run_equalIn_agg w 9999 t _ _ (by rw [hf]; exact ht) hp, hf]; exact h
  rw [run_eql_struct, run_neq_struct, he]
  exact ⟨rfl, rfl⟩
end
end Go.V

namespace Go.V
open Go.RowKit
theorem Stay.trans0 {S S1 S2 : St} {c c1 c2 : Cc} {w w1 w2 : World} {K K1 K2 : Nat → Prop} {ks : List Kl} (h : Stay S S1 c c1 w w1 K K1 []) (k : Stay S1 S2 c1 c2 w1 w2 K1 K2 ks) : Stay S S2 c c2 w w2 K K2 ks := by
  refine ⟨fun k' st win v hk hl => k.vw k' st win v hk (h.vw k' st win v rfl hl), fun k' st v hk hl => k.el k' st v hk (h.el k' st v rfl hl), fun k' off v hk hl => k.pl k' off v hk (h.pl k' off v rfl hl), ?_⟩
  refine ⟨Nat.le_trans h.kk.1 k.kk.1, fun g hg hlt => ?_⟩
  obtain ⟨h1, h2⟩ := h.kk.2 g hg hlt
  obtain ⟨h3, h4⟩ := k.kk.2 g h2 (Nat.lt_of_lt_of_le hlt h.kk.1)
  exact ⟨h3.trans h1, h4⟩
theorem Stay.leaf0 {S S1 : St} {c c1 : Cc} {w w1 : World} {K K1 : Nat → Prop} (h : Stay S S1 c c1 w w1 K K1 []) {l : Leaf} {v : Value} (hl : LeafOk S c w K l v) : LeafOk S1 c1 w1 K1 l v := by
  have := h.leaf hl
  rwa [Leaf.kp_nil] at this
theorem Stay.refl (S : St) (c : Cc) (w : World) (K : Nat → Prop) : Stay S S c c w w K K [] := ⟨fun _ _ _ _ _ h => h, fun _ _ _ _ h => h, fun _ _ _ _ h => h, KSame.refl _ _⟩
theorem memStore {b : Base} {c : Cc} (k n : Nat) : ∀ (ls : List Leaf) (vs : List Value) (off : Nat) (S : St) (w : World), Inv b S w c → S.ms k = some n → off + ls.length ≤ n → All2 (LeafOk S c w (Kok b S c)) ls vs →
    Inv b (S.ups (stPls k ls off)) (w.setCells (c.mb k) off vs) c ∧ Stay S (S.ups (stPls k ls off)) c c w (w.setCells (c.mb k) off vs) (Kok b S c) (Kok b (S.ups (stPls k ls off)) c) []
  | [], _, off, S, w, hi, _, _, .nil => ⟨hi, Stay.refl _ _ _ _⟩
  | l :: ls, _, off, S, w, hi, hk, hle, .cons (b := v) (bs := vs) h1 h2 => by
    simp only [List.length_cons] at hle
    obtain ⟨h3, h4⟩ := hi.setMem k off n l v hk (by omega) h1 rfl rfl
    have ih := memStore k n ls vs (off + 1) (S.up (.mc k off l)) (w.setCell ⟨c.mb k, off, none⟩ v) h3 hk (by omega) (h2.mono fun l v h => h4.leaf0 h)
    exact ⟨ih.1, h4.trans0 ih.2⟩
theorem cells_there {b : Base} {S : St} {c : Cc} {w : World} (hi : Inv b S w c) {k n : Nat} (hk : S.ms k = some n) {j : Nat} (hj : j < n) : (w.cell? ⟨c.mb k, j, none⟩).isSome = true ∧ w.frozen? ⟨c.mb k, j, none⟩ = false := by
  obtain ⟨cs, e, fr, h1, h2, h3, _⟩ := hi.ms k n hk
  refine ⟨?_, frozen_blk h1 h3 (by omega)⟩
  rw [cell_blk h1, Array.getElem?_eq_getElem (by omega)]; rfl
section
variable {P : Program} {ti : TypeId → TI}
theorem run_storeAt {t : TypeId} {i : TypeInfo} (hi : P.info? t = some i) {v : Value} {vs : List Value} (hv : v.cells = vs.toArray) (hn : i.size = vs.length) (ad : Addr) (w w' : World) (h : (storeCells ad vs).run P w = .ok () w') :
    (Instr.storeAt t (.pointer (some ad)) v).run P w = .ok () w' := by
  simp only [Instr.storeAt, Instr.sureAddr, Sem.run_bind, Sem.run_pure, Result.andThen_ok, storeVar, run_size hi, Sem.run_ite]
  rw [if_neg (by rw [hv, hn]; simp), hv]
  exact h
theorem stPl_ok {b : Base} {S : St} {c : Cc} {w : World} (hT : TabOk P ti) (hi : Inv b S w c) {t : TypeId} {k off : Nat} {v u : Value} {ts : List Ty} {x : SV} {ls : List Leaf} {r : List Kl × List U}
    (ha : S1Ok S c w (Kok b S c) (.pl k off) v) (ht : (ti t).cells = some ts) (hx : SVOk S c w (Kok b S c) x u) (hl : leaves x = some ls) (hn : ls.length = ts.length) (h : (stCells (.pl k off) ls).ev S = some r) :
    ∃ w', (Instr.storeAt t v u).run P w = .ok () w' ∧ Did b S c w ⟨.no, r.1, r.2⟩ undef w' := by
  obtain ⟨n, hk, rfl⟩ := ha
  simp only [stCells, Tr.ev, hk] at h
  split at h
  · rename_i hle
    simp only [Tr.ev, Option.some.injEq] at h
    subst h
    obtain ⟨i, h1, h2, _⟩ := size_of hT ht
    obtain ⟨vs, h3, h4, h5⟩ := leaves_ok hi hx hl
    obtain ⟨h6, h7⟩ := memStore k n ls vs off S w hi hk hle h4
    have hlen := h4.len
    have hrun := run_storeCells_cells (P := P) (c.mb k) off vs 0 w (fun j hj => (cells_there hi hk (by omega)).1) (fun j hj => (cells_there hi hk (by omega)).2) h5
    exact ⟨_, run_storeAt h1 h3 (by omega) _ w _ hrun, c, h6, h7, trivial⟩
  · simp [Tr.ev] at h
end
theorem bump_bump : ∀ (st : Steps) (a b : Nat), bump (bump st a) b = bump st (a + b)
  | [], _, _ => rfl
  | [(i, j)], a, b => by simp only [bump]; congr 2; omega
  | p :: q :: ps, a, b => by
    have hb : bump (p :: q :: ps) a = p :: bump (q :: ps) a := rfl
    obtain ⟨q', ps', hq⟩ : ∃ q' ps', bump (q :: ps) a = q' :: ps' := by
      cases ps with
      | nil => obtain ⟨x, y⟩ := q; exact ⟨_, _, rfl⟩
      | cons q2 ps => exact ⟨_, _, rfl⟩
    rw [hb, hq]
    show p :: bump (q' :: ps') b = p :: bump (q :: ps) (a + b)
    rw [← hq, bump_bump (q :: ps) a b]
theorem absorb_ok {b : Base} {S : St} {c : Cc} {w : World} (hi : Inv b S w c) {t : Ty} {l : Leaf} {v : Value} {z : t.D × List Nat} (hl : LeafOk S c w (Kok b S c) l v) (h : (absorb t l).ev S = some z) :
    (∀ k, k ∈ z.2 → S.ow k ≠ none) ∧ unlike z.2 = true ∧ ∃ G, Rp w (Kok b S c) t z.1 [v] G ∧ G.Nodup ∧ ∀ g, g ∈ G → ∃ k, k ∈ z.2 ∧ g ∈ c.F k := by
  unfold absorb at h
  split at h
  · rename_i u x
    split at h
    · rename_i hu
      subst hu
      simp only [Tr.ev, Option.some.injEq] at h
      subst h
      exact ⟨by simp, rfl, [], hl, by simp, by simp⟩
    · simp [Tr.ev] at h
  · split at h
    · rename_i o e r
      simp only [Tr.ev, Option.some.injEq] at h
      subst h
      obtain rfl : v = .slice none 0 0 := hl
      refine ⟨by simp, rfl, [], ?_, by simp, by simp⟩
      cases o with
      | true => simp only [Rp]; exact .inl ⟨trivial, trivial, trivial⟩
      | false => simp only [Rp]; exact ⟨trivial, none, 0, [], rfl, Nat.le_refl _, ⟨rfl, rfl⟩, .inl trivial⟩
    · simp [Tr.ev] at h
  · rename_i k win
    simp only [ev_bind, Option.bind_eq_some_iff] at h
    obtain ⟨o, ho, h⟩ := h
    split at h
    · rename_i hu
      subst hu
      simp only [Tr.ev, Option.some.injEq] at h
      subst h
      obtain ⟨h1, F', h2, h3, h4⟩ := view_own hi hl ho
      exact ⟨by simpa using h1, by simp [unlike], F', h2, h4, fun g hg => ⟨k, by simp, h3 g hg⟩⟩
    · simp [Tr.ev] at h
  · simp [Tr.ev] at h
theorem unlike_cons {k : Nat} {ks : List Nat} (h : unlike (k :: ks) = true) : k ∉ ks ∧ unlike ks = true := by
  simp only [unlike, Bool.and_eq_true, Bool.not_eq_true'] at h
  exact ⟨by simpa using h.1, h.2⟩
theorem unlike_append : ∀ {a b : List Nat}, unlike (a ++ b) = true → unlike a = true ∧ unlike b = true ∧ ∀ k, k ∈ a → k ∉ b
  | [], b, h => ⟨rfl, h, by simp⟩
  | k :: a, b, h => by
    obtain ⟨h1, h2⟩ := unlike_cons (ks := a ++ b) h
    obtain ⟨h3, h4, h5⟩ := unlike_append h2
    refine ⟨?_, h4, ?_⟩
    · simp only [unlike, Bool.and_eq_true, Bool.not_eq_true', h3, and_true]
      simp only [List.mem_append] at h1
      simp; exact fun h => h1 (.inl h)
    · intro x hx
      rcases List.mem_cons.1 hx with rfl | hx
      · exact fun hb => h1 (by simp [hb])
      · exact h5 x hx
theorem Step.setCell (w : World) (a : Addr) (v : Value) : Step w (w.setCell a v) (fun g => g = a.block) :=
  ⟨rfl, rfl, rfl, by simp [World.setCell], fun g _ hg => Below.heap_setCell _ _ _ _ hg⟩
section
variable {P : Program} {ti : TypeId → TI}
abbrev InKeys (c : Cc) (κ : Nat) (ks : List Nat) (g : Nat) : Prop := g ∈ c.F κ ∨ ∃ k, k ∈ ks ∧ g ∈ c.F k
theorem elStore {b : Base} {S : St} {c : Cc} {w : World} (hi : Inv b S w c) (κ : Nat) (o0 : Own) (hκ : S.ow κ = some o0) (st : Steps) (hst : st ≠ []) (hst' : ∀ n, bump st n ≠ []) (ad : Addr) :
    ∀ (ls : List Leaf) (vs : List Value) (n : Nat) (xs : List o0.r.D) (done : List Nat) (w1 : World) (F1 : List Nat) (r : Own × List Nat),
      xs.length = o0.xs.length → Rp w1 (Kok b S c) (.sl true o0.e o0.r) xs [c.hv κ] F1 → F1.Nodup → (∀ g, g ∈ F1 → InKeys c κ done g) → (∀ k, k ∈ done → S.ow k ≠ none) →
      Step w w1 (InKeys c κ done) → w1.heap.size = w.heap.size → (∀ m, n ≤ m → adr w1 (c.hv κ) (.sl true o0.e o0.r) (bump st m) = some (ad.add m)) →
      All2 (LeafOk S c w (Kok b S c)) ls vs → (∀ v, v ∈ vs → v.oneCell' = true) → (stEls ⟨o0.e, o0.r, xs⟩ st ls n).ev S = some r → κ ∉ done ++ r.2 → unlike (done ++ r.2) = true →
      ∃ (xs' : List o0.r.D) (w' : World) (F' : List Nat), (storeCells ad vs n).run P w1 = .ok () w' ∧ r.1 = ⟨o0.e, o0.r, xs'⟩ ∧ xs'.length = o0.xs.length ∧ Rp w' (Kok b S c) (.sl true o0.e o0.r) xs' [c.hv κ] F' ∧ F'.Nodup ∧
        (∀ g, g ∈ F' → InKeys c κ (done ++ r.2) g) ∧ (∀ k, k ∈ done ++ r.2 → S.ow k ≠ none) ∧ Step w w' (InKeys c κ (done ++ r.2)) ∧ w'.heap.size = w.heap.size
  | [], _, n, xs, done, w1, F1, r, hlen, hp, hnd, hF, hd, hs, hsz, _, .nil, _, h, _, _ => by
    simp only [stEls, Tr.ev, Option.some.injEq] at h
    subst h
    simp only [List.append_nil]
    exact ⟨xs, w1, F1, rfl, rfl, hlen, hp, hnd, hF, hd, hs, hsz⟩
  | l :: ls, _, n, xs, done, w1, F1, r, hlen, hp, hnd, hF, hd, hs, hsz, hadr, .cons (b := v) (bs := vs) h1 h2, hone, h, hκd, hun => by
    simp only [stEls, ev_bind, Option.bind_eq_some_iff, Tr.ev, Option.some.injEq] at h
    obtain ⟨c0, hc0, z, hz, ys, hys, r2, hr2, rfl⟩ := h
    rw [ev_get] at hc0
    rw [ev_set] at hys
    obtain ⟨k1, k2, G, k3, k4, k5⟩ := absorb_ok hi h1 hz
    simp only [← List.append_assoc] at hun hκd
    obtain ⟨hu1, _, _⟩ := unlike_append hun
    obtain ⟨_, _, hu2⟩ := unlike_append hu1
    obtain ⟨a, h', Fa, G0, Fb, p1, p2, p3, rfl, p5, p6, p7, hput⟩ := Rp.put (bump st n) _ _ (hst' n) hp hnd hc0 hys
    rw [hadr n (Nat.le_refl _)] at p1
    injection p1 with p1
    subst p1
    have hblk : (ad.add n).block = ad.block := add_block _ _
    have hone1 : v.oneCell' = true := hone v (by simp)
    have hrun : (store (ad.add n) v).run P w1 = .ok () (w1.setCell (ad.add n) v) := by
      rw [run_store P w1 _ v _ hone1, p2]; simp [p7]
    have hstep := Step.setCell w1 (ad.add n) v
    have hin : ∀ g, g = (ad.add n).block → InKeys c κ done g := fun g hg => hF g (by rw [hg]; exact List.mem_append_left _ p5)
    have hGapart : ∀ g, g ∈ G → ¬ InKeys c κ done g := by
      intro g hg hx
      obtain ⟨k, hk, hgk⟩ := k5 g hg
      have hko : S.ow k ≠ none := k1 k hk
      have hkκ : k ≠ κ := by rintro rfl; exact hκd (by simp [hk])
      rcases hx with hx | ⟨k', hk', hx⟩
      · exact hi.oo k κ hkκ hko (by rw [hκ]; simp) g hgk hx
      · have hkk : k ≠ k' := by rintro rfl; exact hu2 k hk' hk
        exact hi.oo k k' hkk hko (hd k' hk') g hgk hx
    have hGsame : Same w w1 G := fun g hg => by
      obtain ⟨k, hk, hgk⟩ := k5 g hg
      exact hs.same g (hi.fr g (.inr ⟨k, k1 k hk, hgk⟩)).1 (hGapart g hg)
    have hT : ∀ g, InKeys c κ done g → Owned S c g := by
      rintro g (hg | ⟨k, hk, hg⟩)
      · exact .inr ⟨κ, by rw [hκ]; simp, hg⟩
      · exact .inr ⟨k, hd k hk, hg⟩
    have kk1 : KSame w w1 (Kok b S c) (Kok b S c) := ksame hs hT (fun g hg => .inl hg)
    have kk2 : KSame w1 (w1.setCell (ad.add n) v) (Kok b S c) (Kok b S c) := ⟨hstep.size, fun g hg hlt => ⟨hstep.same g hlt fun e => hg.2 (hT g (hin g e)), hg⟩⟩
    have hz1 : Rp w1 (Kok b S c) c0.1 z.1 [v] G := Rp.frame kk1 _ _ k3 hGsame
    have hz2 : Rp (w1.setCell (ad.add n) v) (Kok b S c) c0.1 z.1 [v] G := Rp.frame kk2 _ _ hz1 fun g hg => Below.heap_setCell _ _ _ _ fun e => hGapart g hg (hin g e)
    obtain ⟨hnew, hadr2⟩ := hput _ _ v G hz2 kk2 rfl (fun g _ hg => Below.heap_setCell _ _ _ _ hg)
    have hset : ys.length = xs.length := by
      obtain ⟨⟨i, j⟩, ps, hb⟩ : ∃ p ps, bump st n = p :: ps := by
        cases hbb : bump st n with
        | nil => exact absurd hbb (hst' n)
        | cons p ps => exact ⟨p, ps, rfl⟩
      rw [hb] at hys
      simp only [setT, run_get, Option.bind_eq_some_iff] at hys
      obtain ⟨row, _, hys⟩ := hys
      split at hys
      · simp only [run_bind, Option.bind_eq_some_iff] at hys
        obtain ⟨yy, _, hys⟩ := hys
        split at hys
        · simp only [Tr.run, Option.some.injEq] at hys; rw [← hys]; simp
        · simp [Tr.run] at hys
      · simp [Tr.run] at hys
    have hFnd : (Fa ++ (G ++ Fb)).Nodup := by
      rw [List.nodup_append] at hnd ⊢
      obtain ⟨n1, n2, n3⟩ := hnd
      rw [List.nodup_append] at n2 ⊢
      refine ⟨n1, ⟨k4, n2.2.1, ?_⟩, ?_⟩
      · rintro x hx y hy rfl
        exact hGapart x hx (hF x (by simp [hy]))
      · rintro x hx y hy rfl
        rcases List.mem_append.1 hy with hy | hy
        · exact hGapart x hy (hF x (by simp [hx]))
        · exact n3 x hx x (by simp [hy]) rfl
    have ih := elStore hi κ o0 hκ st hst hst' ad ls vs (n + 1) ys (done ++ z.2) (w1.setCell (ad.add n) v) (Fa ++ (G ++ Fb)) r2 (hset.trans hlen) hnew hFnd
      (by
        intro g hg
        rcases List.mem_append.1 hg with hg | hg
        · rcases hF g (by simp [hg]) with h | ⟨k, h, h'⟩
          · exact .inl h
          · exact .inr ⟨k, by simp [h], h'⟩
        · rcases List.mem_append.1 hg with hg | hg
          · obtain ⟨k, h, h'⟩ := k5 g hg; exact .inr ⟨k, by simp [h], h'⟩
          · rcases hF g (by simp [hg]) with h | ⟨k, h, h'⟩
            · exact .inl h
            · exact .inr ⟨k, by simp [h], h'⟩)
      (by intro k hk; rcases List.mem_append.1 hk with hk | hk; exact hd k hk; exact k1 k hk)
      ((hs.trans (hstep.mono hin)).mono (by rintro g (h | ⟨k, h, h'⟩); exact .inl h; exact .inr ⟨k, by simp [h], h'⟩))
      (by rw [← hsz]; simp [World.setCell])
      (by
        intro m hm
        have := hadr2 (m - n)
        rw [bump_bump, show n + (m - n) = m by omega] at this
        rw [this]; exact hadr m (by omega))
      h2 (fun v hv => hone v (by simp [hv])) hr2 hκd hun
    obtain ⟨xs', w', F', q1, q2, q3, q4, q5, q6, q7, q8, q9⟩ := ih
    refine ⟨xs', w', F', ?_, q2, q3, q4, q5, by simpa [List.append_assoc] using q6, by simpa [List.append_assoc] using q7, by simpa [List.append_assoc] using q8, q9⟩
    simp only [storeCells, Sem.run_bind, hrun, Result.andThen_ok]
    exact q1
theorem goneU_ow (ks : List Nat) : ∀ (S : St), (S.ups (goneU ks)).ms = S.ms ∧ (S.ups (goneU ks)).mc = S.mc ∧ ∀ k, (S.ups (goneU ks)).ow k = if k ∈ ks then none else S.ow k := by
  induction ks with
  | nil => intro S; exact ⟨rfl, rfl, fun k => by simp [goneU, St.ups]⟩
  | cons k0 ks ih =>
    intro S
    obtain ⟨h1, h2, h3⟩ := ih (S.up (.ow k0 none))
    refine ⟨h1, h2, fun k => ?_⟩
    show ((S.up (.ow k0 none)).ups (goneU ks)).ow k = _
    rw [h3]
    by_cases hk : k ∈ ks
    · simp [hk]
    · rw [if_neg hk]
      show (if k = k0 then none else S.ow k) = _
      by_cases hk0 : k = k0
      · simp [hk0]
      · simp [hk0, hk]
theorem ups_append (us vs : List U) : ∀ S : St, S.ups (us ++ vs) = (S.ups us).ups vs := by
  induction us with
  | nil => intro S; rfl
  | cons u us ih => intro S; exact ih _
theorem selfOf_some {k : Nat} {st : Steps} {ls : List Leaf} {w : Nat × Nat} (h : selfOf k st ls = some w) : ls = [.vw k st (some (w.1, w.2))] := by
  unfold selfOf at h
  split at h
  · split at h
    · rename_i hk
      obtain ⟨rfl, rfl⟩ := hk
      injection h with h; subst h; rfl
    · cases h
  · cases h
theorem stSelf_ok {b : Base} {S : St} {c : Cc} {w : World} (hT : TabOk P ti) (hi : Inv b S w c) {t : TypeId} {κ : Nat} {st : Steps} {v u : Value} {ts : List Ty} {x : SV} {lo n : Nat} {r : List Kl × List U}
    (ha : S1Ok S c w (Kok b S c) (.el κ st) v) (ht : (ti t).cells = some ts) (hx : SVOk S c w (Kok b S c) x u) (hl : leaves x = some [.vw κ st (some (lo, n))]) (hn : ts.length = 1) (h : (stSelf κ st lo n).ev S = some r) :
    ∃ w', (Instr.storeAt t v u).run P w = .ok () w' ∧ Did b S c w ⟨.no, r.1, r.2⟩ undef w' := by
  obtain ⟨o0, ad, hκ, had, rfl, pre, ⟨i, j⟩, d, rfl, hd⟩ := ha
  generalize hst : pre ++ [(i, j)] = st at *
  have hne : st ≠ [] := by rw [← hst]; simp
  simp only [stSelf, Tr.ev, hκ, ev_bind, Option.bind_eq_some_iff] at h
  obtain ⟨c0, hc0, h⟩ := h
  split at h
  · rename_i e r' ys
    simp only [ev_bind, Option.bind_eq_some_iff, Tr.ev, Option.some.injEq] at h
    obtain ⟨zs, hzs, h⟩ := h
    subst h
    rw [ev_get] at hc0
    rw [ev_set] at hzs
    obtain ⟨ie, i1, i2, _⟩ := size_of hT ht
    obtain ⟨vs, h3, h4, h5⟩ := leaves_ok hi hx hl
    match vs, h4 with
    | [v1], .cons h4 .nil =>
      obtain ⟨o1, e1, r1, ys1, hd1, ho1, hg1, hh1, hw1⟩ := h4
      obtain rfl : o0 = o1 := by rw [hκ] at ho1; injection ho1
      rw [hc0] at hg1
      injection hg1 with hg1
      injection hg1 with ha1 hb1
      injection ha1 with _ he1 hr1
      subst he1 hr1
      obtain rfl := eq_of_heq hb1
      have hown := hi.ow κ o0 hκ
      have hnd := hi.nd κ (by rw [hκ]; simp)
      obtain ⟨a, h', Fa, G0, Fb, p1, p2, p3, p4, p5, p6, p7, hput⟩ := Rp.put st _ _ hne hown hnd hc0 hzs
      rw [had] at p1
      injection p1 with p1
      subst p1
      have hhd : hd1 = h' := by
        obtain ⟨p, ps, rfl⟩ := List.exists_cons_of_ne_nil hne
        simp only [hdr, had] at hh1
        rw [p2] at hh1
        injection hh1 with hh1
        exact hh1.symm
      subst hhd
      rw [p4] at hnd
      have hndG : G0.Nodup := (List.nodup_append.1 (List.nodup_append.1 hnd).2.1).1
      obtain ⟨F2, q1, q2, q3⟩ := own_win p6 hndG hw1
      have hone1 : v1.oneCell' = true := h5 v1 (by simp)
      have hrun : (storeCells ad [v1] 0).run P w = .ok () (w.setCell ad v1) := by
        have h0 : ad.add 0 = ad := rfl
        simp only [storeCells, Sem.run_bind, h0]
        rw [run_store P w _ v1 _ hone1, p2]; simp [p7]
      have hstep := Step.setCell w ad v1
      have hin : ∀ g, g = ad.block → g ∈ c.F κ := fun g hg => by rw [p4, hg]; exact List.mem_append_left _ p5
      have kk : KSame w (w.setCell ad v1) (Kok b S c) (Kok b S c) := ⟨hstep.size, fun g hg hlt => ⟨hstep.same g hlt fun e => hg.2 (.inr ⟨κ, by rw [hκ]; simp, hin g e⟩), hg⟩⟩
      have hG2 : ∀ g, g ∈ F2 → g ≠ ad.block := by
        rintro g hg rfl
        exact (List.nodup_append.1 hnd).2.2 ad.block p5 ad.block (List.mem_append_left _ (q2 _ hg)) rfl
      have hz : Rp (w.setCell ad v1) (Kok b S c) (.sl true e r') ((List.drop lo ys).take n) [v1] F2 := Rp.frame kk _ _ q1 fun g hg => Below.heap_setCell _ _ _ _ (hG2 g hg)
      obtain ⟨hnew, _⟩ := hput _ _ v1 F2 hz kk rfl (fun g _ hg => Below.heap_setCell _ _ _ _ hg)
      have hlen : zs.length = o0.xs.length := by
        obtain ⟨⟨i', j'⟩, ps, rfl⟩ := List.exists_cons_of_ne_nil hne
        simp only [setT, run_get, Option.bind_eq_some_iff] at hzs
        obtain ⟨row, _, hzs⟩ := hzs
        split at hzs
        · simp only [run_bind, Option.bind_eq_some_iff] at hzs
          obtain ⟨yy, _, hzs⟩ := hzs
          split at hzs
          · simp only [Tr.run, Option.some.injEq] at hzs; rw [← hzs]; simp
          · simp [Tr.run] at hzs
        · simp [Tr.run] at hzs
      have hsub : ∀ g, g ∈ Fa ++ (F2 ++ Fb) → g ∈ c.F κ := by
        intro g hg
        rw [p4]
        simp only [List.mem_append] at hg ⊢
        rcases hg with hg | hg | hg
        · exact .inl hg
        · exact .inr (.inl (q2 g hg))
        · exact .inr (.inr hg)
      have hFnd : (Fa ++ (F2 ++ Fb)).Nodup := by
        rw [List.nodup_append] at hnd ⊢
        obtain ⟨n1, n2, n3⟩ := hnd
        rw [List.nodup_append] at n2 ⊢
        refine ⟨n1, ⟨q3, n2.2.1, fun x hx y hy => n2.2.2 x (q2 x hx) y hy⟩, fun x hx y hy => n3 x hx y ?_⟩
        rcases List.mem_append.1 hy with hy | hy
        · exact List.mem_append_left _ (q2 y hy)
        · exact List.mem_append_right _ hy
      refine ⟨_, run_storeAt i1 h3 (by rw [i2, hn]; rfl) ad w _ hrun, ?_⟩
      generalize hS : (S.kp [.deep κ]).ups [.ow κ (some ⟨o0.e, o0.r, zs⟩)] = S'
      obtain ⟨c', _, _, _, e4, e5, _⟩ := hi.setOwn (S' := S') (w' := w.setCell ad v1) κ ⟨o0.e, o0.r, zs⟩ [] [.deep κ] (c.hv κ) (Fa ++ (F2 ++ Fb))
        (by intro k; rw [← hS]; show (if k = κ then _ else (S.kp _).ow k) = _; rw [kp_ow]; simp)
        (by rw [← hS]; exact kp_ms S _) (by intro k i; rw [← hS]; exact kp_mc S [.deep κ] k i) (fun k hk => by cases hk)
        (fun o ho => by
          obtain rfl : o0 = o := by rw [hκ] at ho; injection ho
          exact .inr ⟨by simp, rfl, zs, rfl, hlen⟩)
        (hstep.mono fun g hg => ⟨κ, .inl rfl, by rw [hκ]; simp, hin g hg⟩)
        (fun g hg => ⟨by
          have := (hi.fr g (.inr ⟨κ, by rw [hκ]; simp, hsub g hg⟩)).1
          simpa [World.setCell] using this, .inl ⟨κ, .inl rfl, by rw [hκ]; simp, hsub g hg⟩⟩) hFnd
        (fun K' hK _ => Rp.frame ⟨Nat.le_refl _, fun g hg hlt => ⟨rfl, (hK.2 g hg (by simpa [World.setCell] using hlt)).2⟩⟩ _ _ hnew fun g _ => rfl)
      subst hS
      exact ⟨c', e4, e5, trivial⟩
  · simp [Tr.ev] at h
theorem stEl_ok {b : Base} {S : St} {c : Cc} {w : World} (hT : TabOk P ti) (hi : Inv b S w c) {t : TypeId} {κ : Nat} {st : Steps} {v u : Value} {ts : List Ty} {x : SV} {ls : List Leaf} {r : List Kl × List U}
    (ha : S1Ok S c w (Kok b S c) (.el κ st) v) (ht : (ti t).cells = some ts) (hx : SVOk S c w (Kok b S c) x u) (hl : leaves x = some ls) (hn : ls.length = ts.length) (h : (stCells (.el κ st) ls).ev S = some r) :
    ∃ w', (Instr.storeAt t v u).run P w = .ok () w' ∧ Did b S c w ⟨.no, r.1, r.2⟩ undef w' := by
  simp only [stCells] at h
  split at h
  · rename_i ww hself
    obtain ⟨lo, n⟩ := ww
    exact stSelf_ok hT hi ha ht hx (selfOf_some hself ▸ hl) (by rw [selfOf_some hself] at hn; exact hn.symm) h
  obtain ⟨o0, ad, hκ, had, rfl, pre, ⟨i, j⟩, d, rfl, hd⟩ := ha
  simp only [Tr.ev, hκ, ev_bind, Option.bind_eq_some_iff] at h
  obtain ⟨r0, hr0, h⟩ := h
  split at h
  · simp [Tr.ev] at h
  · rename_i hc
    simp only [Bool.or_eq_true, Bool.not_eq_true', not_or, Bool.not_eq_false] at hc
    obtain ⟨hc1, hc2⟩ := hc
    have hκr : κ ∉ r0.2 := by simpa using hc1
    simp only [Tr.ev, Option.some.injEq] at h
    subst h
    obtain ⟨ie, i1, i2, _⟩ := size_of hT ht
    obtain ⟨vs, h3, h4, h5⟩ := leaves_ok hi hx hl
    have hbump : ∀ n, bump (pre ++ [(i, j)]) n ≠ [] := fun n => by rw [bump_snoc]; simp
    obtain ⟨xs', w', F', q1, q2, q3, q4, q5, q6, q7, q8, q9⟩ := elStore (P := P) hi κ o0 hκ (pre ++ [(i, j)]) (by simp) hbump ad ls vs 0 o0.xs [] w (c.F κ) r0 rfl (hi.ow κ o0 hκ) (hi.nd κ (by rw [hκ]; simp))
      (fun g hg => .inl hg) (by simp) (Step.refl _ _) rfl (fun m _ => adr_bump _ m had) h4 h5 hr0 (by simpa using hκr) (by simpa using hc2)
    simp only [List.nil_append] at q6 q7 q8
    refine ⟨w', run_storeAt i1 h3 (by rw [i2, ← hn, h4.len]) ad w w' q1, ?_⟩
    generalize hS : (S.kp (.deep κ :: gone r0.2)).ups (.ow κ (some r0.1) :: goneU r0.2) = S'
    have hg := goneU_ow r0.2 ((S.kp (.deep κ :: gone r0.2)).up (.ow κ (some r0.1)))
    have how : ∀ k, S'.ow k = if k = κ then some r0.1 else if k ∈ r0.2 then none else S.ow k := by
      intro k
      rw [← hS]
      show (((S.kp (.deep κ :: gone r0.2)).up (.ow κ (some r0.1))).ups (goneU r0.2)).ow k = _
      rw [hg.2.2]
      by_cases hk : k = κ
      · subst hk; rw [if_neg hκr, if_pos rfl]; show (if k = k then some r0.1 else _) = _; rw [if_pos rfl]
      · rw [if_neg hk]
        by_cases hk2 : k ∈ r0.2
        · rw [if_pos hk2, if_pos hk2]
        · rw [if_neg hk2, if_neg hk2]; show (if k = κ then some r0.1 else (S.kp _).ow k) = _; rw [if_neg hk, kp_ow]
    have hms : S'.ms = S.ms := by
      rw [← hS]; exact hg.1.trans (kp_ms S _)
    have hmc : ∀ k i, S'.mc k i = (S.mc k i).kp (.deep κ :: gone r0.2) := by
      intro k i; rw [← hS]
      have : ((S.kp (.deep κ :: gone r0.2)).ups (.ow κ (some r0.1) :: goneU r0.2)).mc = (S.kp (.deep κ :: gone r0.2)).mc := hg.2.1
      rw [this, kp_mc]
    obtain ⟨c', _, _, _, e4, e5, _⟩ := hi.setOwn (S' := S') (w' := w') κ r0.1 r0.2 (.deep κ :: gone r0.2) (c.hv κ) F' how hms hmc (fun k hk => by simp [gone, hk])
      (fun o ho => by
        obtain rfl : o0 = o := by rw [hκ] at ho; injection ho
        exact .inr ⟨by simp, rfl, xs', q2, q3⟩)
      (q8.mono (by rintro g (h | ⟨k, h, h'⟩); exact ⟨κ, .inl rfl, by rw [hκ]; simp, h⟩; exact ⟨k, .inr h, q7 k h, h'⟩))
      (fun g hg => by
        have : ∃ k, (k = κ ∨ k ∈ r0.2) ∧ S.ow k ≠ none ∧ g ∈ c.F k := by
          rcases q6 g hg with h | ⟨k, h, h'⟩
          · exact ⟨κ, .inl rfl, by rw [hκ]; simp, h⟩
          · exact ⟨k, .inr h, q7 k h, h'⟩
        obtain ⟨k, k1, k2, k3⟩ := this
        exact ⟨by rw [q9]; exact (hi.fr g (.inr ⟨k, k2, k3⟩)).1, .inl ⟨k, k1, k2, k3⟩⟩) q5
      (fun K' hK _ => by
        rw [q2]
        have hKin : ∀ g, Kok b S c g → g < w'.heap.size → K' g := fun g hg hlt => (hK.2 g hg (by rw [← q9]; exact hlt)).2
        exact Rp.frame ⟨Nat.le_refl _, fun g hg hlt => ⟨rfl, hKin g hg hlt⟩⟩ _ _ q4 fun g _ => rfl)
    subst hS
    exact ⟨c', e4, e5, trivial⟩
end
end Go.V

namespace Go.V
open Go.RowKit
def Held (c : Cc) (ks : List Nat) (G : List Nat) : Prop := ∀ g, g ∈ G → ∃ k, k ∈ ks ∧ g ∈ c.F k
def Ows (S : St) (ks : List Nat) : Prop := ∀ k, k ∈ ks → S.ow k ≠ none
section
variable {b : Base} {S : St} {c : Cc} {w : World}
theorem held_append {ks ls : List Nat} {G H : List Nat} (hi : Inv b S w c) (hg : Held c ks G) (hh : Held c ls H) (ho : Ows S ks) (ho' : Ows S ls) (hu : unlike (ks ++ ls) = true) (n1 : G.Nodup) (n2 : H.Nodup) :
    Held c (ks ++ ls) (G ++ H) ∧ (G ++ H).Nodup := by
  obtain ⟨_, _, h3⟩ := unlike_append hu
  refine ⟨?_, List.nodup_append.2 ⟨n1, n2, ?_⟩⟩
  · intro g hx
    rcases List.mem_append.1 hx with hx | hx
    · obtain ⟨k, h, h'⟩ := hg g hx; exact ⟨k, by simp [h], h'⟩
    · obtain ⟨k, h, h'⟩ := hh g hx; exact ⟨k, by simp [h], h'⟩
  · rintro g hx g' hx' rfl
    obtain ⟨k, h, h'⟩ := hg g hx
    obtain ⟨l, q, q'⟩ := hh g hx'
    have hne : k ≠ l := by rintro rfl; exact h3 k h q
    exact hi.oo k l hne (ho k h) (ho' l q) g h' q'
theorem ows_append {ks ls : List Nat} (h : Ows S ks) (h' : Ows S ls) : Ows S (ks ++ ls) := fun k hk => (List.mem_append.1 hk).elim (h k) (h' k)
theorem ownOut_did (hi : Inv b S w c) (key : Nat) (o : Own) (gs : List Nat) (hgs : Ows S gs) {w' : World} {h' : Value} {F' : List Nat} (hst : Step w w' (fun g => ∃ k, k ∈ gs ∧ g ∈ c.F k))
    (hF : ∀ g, g ∈ F' → g < w'.heap.size ∧ ((∃ k, k ∈ gs ∧ g ∈ c.F k) ∨ w.heap.size ≤ g)) (hnd : F'.Nodup)
    (hR : ∀ K', KSame w w' (Kok b S c) K' → (∀ g, w.heap.size ≤ g → g ∉ F' → K' g) → Rp w' K' (.sl true o.e o.r) o.xs [h'] F') : Did b S c w (ownOut key o gs) h' w' := by
  unfold Did
  show ∃ c', Inv b ((S.kp (.all key :: gone gs)).ups (goneU gs ++ [.ow key (some o)])) w' c' ∧ Stay S ((S.kp (.all key :: gone gs)).ups (goneU gs ++ [.ow key (some o)])) c c' w w' (Kok b S c) (Kok b ((S.kp (.all key :: gone gs)).ups (goneU gs ++ [.ow key (some o)])) c') (.all key :: gone gs) ∧
    SVOk ((S.kp (.all key :: gone gs)).ups (goneU gs ++ [.ow key (some o)])) c' w' (Kok b ((S.kp (.all key :: gone gs)).ups (goneU gs ++ [.ow key (some o)])) c') (.s (.one (.vw key [] none))) h'
  generalize hS : (S.kp (.all key :: gone gs)).ups (goneU gs ++ [.ow key (some o)]) = S'
  have hg := goneU_ow gs (S.kp (.all key :: gone gs))
  rw [ups_append] at hS
  have how : ∀ k, S'.ow k = if k = key then some o else if k ∈ gs then none else S.ow k := by
    intro k; rw [← hS]
    show (if k = key then some o else ((S.kp (.all key :: gone gs)).ups (goneU gs)).ow k) = _
    rw [hg.2.2, kp_ow]
  have hms : S'.ms = S.ms := by
    rw [← hS]; show ((S.kp (.all key :: gone gs)).ups (goneU gs)).ms = _; rw [hg.1, kp_ms]
  have hmc : ∀ k i, S'.mc k i = (S.mc k i).kp (.all key :: gone gs) := by
    intro k i; rw [← hS]; show ((S.kp (.all key :: gone gs)).ups (goneU gs)).mc k i = _; rw [hg.2.1, kp_mc]
  obtain ⟨c', _, e2, _, e4, e5, _⟩ := hi.setOwn (S' := S') (w' := w') key o gs (.all key :: gone gs) h' F' how hms hmc (fun k hk => by simp [gone, hk]) (fun _ _ => .inl (by simp))
    (hst.mono (by rintro g ⟨k, h, h'⟩; exact ⟨k, .inr h, hgs k h, h'⟩))
    (fun g hg => ⟨(hF g hg).1, (hF g hg).2.imp (by rintro ⟨k, h, h'⟩; exact ⟨k, .inr h, hgs k h, h'⟩) id⟩) hnd hR
  refine ⟨c', e4, e5, o, o.e, o.r, o.xs, h', by rw [how, if_pos rfl], rfl, by rw [e2]; rfl, rfl⟩
theorem absorbRow_0 (ls : List Leaf) : absorbRow [] ls = match ls with | [] => .ret ((), []) | _ :: _ => .fail := by cases ls <;> rfl
theorem absorbRow_1 (t : Ty) (l : Leaf) : absorbRow [t] [l] = absorb t l := rfl
theorem absorbRow_2 (t u : Ty) (ts : List Ty) (l : Leaf) (ls : List Leaf) : absorbRow (t :: u :: ts) (l :: ls) = (absorb t l).bind fun x => (absorbRow (u :: ts) ls).bind fun y => .ret ((x.1, y.1), x.2 ++ y.2) := rfl
theorem absorbRow_3 (t : Ty) (ts : List Ty) : absorbRow (t :: ts) [] = .fail := by cases ts <;> rfl
theorem absorbRow_4 (t : Ty) (l u : Leaf) (ls : List Leaf) : absorbRow [t] (l :: u :: ls) = .fail := rfl
theorem absorbRow_ok (hi : Inv b S w c) : ∀ (ts : List Ty) (ls : List Leaf) (vs : List Value) (z : (rowTy ts).D × List Nat), All2 (LeafOk S c w (Kok b S c)) ls vs → (absorbRow ts ls).ev S = some z → unlike z.2 = true →
    Ows S z.2 ∧ ∃ G, Rp w (Kok b S c) (rowTy ts) z.1 vs G ∧ G.Nodup ∧ Held c z.2 G := by
  intro ts
  induction ts with
  | nil =>
    intro ls vs z ha h _
    cases ls with
    | nil =>
      cases ha
      rw [absorbRow_0] at h
      replace h : some (((), []) : Unit × List Nat) = some z := h
      injection h with h
      subst h
      exact ⟨fun k hk => (by cases hk), [], by simp [rowTy, Rp], by simp, fun g hg => (by cases hg)⟩
    | cons l ls => rw [absorbRow_0] at h; cases h
  | cons t ts ih =>
    intro ls vs z ha h hu
    cases ts with
    | nil =>
      cases ls with
      | nil => rw [absorbRow_3] at h; cases h
      | cons l ls =>
        cases ls with
        | cons l2 ls => rw [absorbRow_4] at h; cases h
        | nil =>
          cases ha with
          | cons h1 h2 =>
            cases h2
            rw [absorbRow_1] at h
            obtain ⟨k1, _, G, k3, k4, k5⟩ := absorb_ok (t := t) (z := z) hi h1 h
            exact ⟨k1, G, k3, k4, k5⟩
    | cons u ts =>
      cases ls with
      | nil => rw [absorbRow_3] at h; cases h
      | cons l ls =>
        cases ha with
        | cons h1 h2 =>
          rw [absorbRow_2] at h
          obtain ⟨z1, hz1, h⟩ := Option.bind_eq_some_iff.1 ((ev_bind S _ _).symm.trans h)
          obtain ⟨z2, hz2, h⟩ := Option.bind_eq_some_iff.1 ((ev_bind S _ _).symm.trans h)
          injection h with h
          subst h
          simp only at hu
          obtain ⟨u1, u2, _⟩ := unlike_append hu
          obtain ⟨k1, _, G, k3, k4, k5⟩ := absorb_ok hi h1 hz1
          obtain ⟨m1, H, m3, m4, m5⟩ := ih ls _ z2 h2 hz2 u2
          obtain ⟨q1, q2⟩ := held_append hi k5 m5 k1 m1 hu k4 m4
          refine ⟨ows_append k1 m1, G ++ H, ?_, q2, q1⟩
          show Rp w (Kok b S c) (.pair t (rowTy (u :: ts))) (z1.1, z2.1) _ _
          rw [Rp]
          exact ⟨[_], _, G, H, rfl, rfl, k3, m3⟩
theorem absorbRow_len {S : St} : ∀ (ts : List Ty) (ls : List Leaf) (z : (rowTy ts).D × List Nat), (absorbRow ts ls).ev S = some z → ls.length = ts.length := by
  intro ts
  induction ts with
  | nil =>
    intro ls z h
    cases ls with
    | nil => rfl
    | cons l ls => rw [absorbRow_0] at h; cases h
  | cons t ts ih =>
    intro ls z h
    cases ts with
    | nil =>
      cases ls with
      | nil => rw [absorbRow_3] at h; cases h
      | cons l ls =>
        cases ls with
        | cons l2 ls => rw [absorbRow_4] at h; cases h
        | nil => rfl
    | cons u ts =>
      cases ls with
      | nil => rw [absorbRow_3] at h; cases h
      | cons l ls =>
        rw [absorbRow_2] at h
        obtain ⟨z1, hz1, h⟩ := Option.bind_eq_some_iff.1 ((ev_bind S _ _).symm.trans h)
        obtain ⟨z2, hz2, h⟩ := Option.bind_eq_some_iff.1 ((ev_bind S _ _).symm.trans h)
        have := ih ls z2 hz2
        simp only [List.length_cons] at this ⊢; omega
theorem rowsT_ok (hi : Inv b S w c) (ts : List Ty) : ∀ (ps : List (Nat × SV)) (us : List Value) (n : Nat) {z : List (rowTy ts).D × List Nat}, All2 (fun p u => SVOk S c w (Kok b S c) p.2 u) ps us → (rowsT ts ps n).ev S = some z → unlike z.2 = true →
    Ows S z.2 ∧ z.1.length = ps.length ∧ ps.map (·.1) = List.range' n ps.length ∧ (∀ u, u ∈ us → u.cells.size = ts.length) ∧ ∃ G, RpL (Rp w (Kok b S c) (rowTy ts)) z.1 (us.flatMap fun u => u.cells.toList) G ∧ G.Nodup ∧ Held c z.2 G
  | [], _, n, z, .nil, h, _ => by
    simp only [rowsT, Tr.ev, Option.some.injEq] at h
    subst h
    refine ⟨fun k hk => (by cases hk), rfl, rfl, by simp, [], ?_, by simp, fun g hg => (by cases hg)⟩
    exact ⟨rfl, rfl⟩
  | (i, x) :: ps, _, n, z, .cons (b := v) (bs := vs) h1 h2, h, hu => by
    simp only [rowsT] at h
    split at h
    · rename_i hin
      subst hin
      split at h
      · rename_i ls hls
        simp only [ev_bind, Option.bind_eq_some_iff, Tr.ev, Option.some.injEq] at h
        obtain ⟨z1, hz1, z2, hz2, rfl⟩ := h
        simp only at hu
        obtain ⟨u1, u2, _⟩ := unlike_append hu
        obtain ⟨cs, e1, e2, _⟩ := leaves_ok hi h1 hls
        obtain ⟨k1, G, k3, k4, k5⟩ := absorbRow_ok hi ts ls cs z1 e2 hz1 u1
        obtain ⟨m1, m2, m3, m4, H, m5, m6, m7⟩ := rowsT_ok hi ts ps vs (i + 1) h2 hz2 u2
        obtain ⟨q1, q2⟩ := held_append hi k5 m7 k1 m1 hu k4 m6
        have hlen := absorbRow_len ts ls z1 hz1
        refine ⟨ows_append k1 m1, by simp [m2], ?_, ?_, G ++ H, ?_, q2, q1⟩
        · simp only [List.map_cons, List.length_cons, List.range'_succ, m3]
        · intro u hu
          rcases List.mem_cons.1 hu with rfl | hu
          · rw [e1, List.size_toArray, ← e2.len, hlen]
          · exact m4 u hu
        · refine ⟨cs, _, G, H, ?_, rfl, k3, m5⟩
          simp [e1]
      · simp [Tr.ev] at h
    · simp [Tr.ev] at h
theorem zero_row {K : Nat → Prop} : ∀ (ts : List Ty), (∀ t ∈ ts, t.size = 1 ∧ ∀ a b, t ≠ .pair a b) → Rp w K (rowTy ts) (rowTy ts).zero (ts.map zeroV) []
  | [], _ => by simp [rowTy, Rp]
  | [t], h => zero1 t (h t (by simp))
  | t :: u :: ts, h => by
    simp only [rowTy, Rp, Ty.zero]
    exact ⟨[zeroV t], (u :: ts).map zeroV, [], [], rfl, rfl, zero1 t (h t (by simp)), zero_row (u :: ts) fun x hx => h x (by simp [hx])⟩
where
  zero1 (t : Ty) (h : t.size = 1 ∧ ∀ a b, t ≠ .pair a b) : Rp w K t t.zero [zeroV t] [] := by
    cases t with
    | pair a b => exact absurd rfl (h.2 a b)
    | unit => simp [Ty.size] at h
    | int k => simp [zeroV, Rp, Ty.zero]
    | bool => simp [zeroV, Rp, Ty.zero]
    | str => simp [zeroV, Rp, Ty.zero]
    | pt t => simp [zeroV, Rp, Ty.zero]
    | sl o e r =>
      cases o with
      | true => simp only [Rp, Ty.zero, zeroV]; exact .inl ⟨trivial, trivial, trivial⟩
      | false => simp only [Rp, Ty.zero, zeroV]; exact ⟨trivial, none, 0, [], rfl, Nat.le_refl _, ⟨rfl, rfl⟩, .inl trivial⟩
theorem made_rows (z : Array Value) (hz : 0 < z.size) : ∀ m, (List.range (m * z.size)).map (fun i => z[i % z.size]!) = (List.replicate m z.toList).flatten
  | 0 => by simp
  | m + 1 => by
    have h1 : (m + 1) * z.size = z.size + m * z.size := by rw [Nat.succ_mul]; omega
    rw [h1, List.range_add, List.map_append, List.map_map, List.replicate_succ, List.flatten_cons, ← made_rows z hz m]
    congr 1
    · apply List.ext_getElem?
      intro j
      by_cases hj : j < z.size
      · simp [hj, Nat.mod_eq_of_lt hj]
      · simp [hj]
    · apply List.map_congr_left
      intro j _
      simp
theorem made_take (z : Array Value) (hz : 0 < z.size) (m n : Nat) (h : m ≤ n) : (madeCells z (n * z.size)).toList.take (m * z.size) = (List.replicate m z.toList).flatten := by
  have hmn : m * z.size ≤ n * z.size := Nat.mul_le_mul_right _ h
  rw [← made_rows z hz m, madeCells, Array.toList_map, Array.toList_range, ← List.map_take, List.take_range, Nat.min_eq_left hmn]
theorem zero_rows {K : Nat → Prop} {ts : List Ty} (h : ∀ t ∈ ts, t.size = 1 ∧ ∀ a b, t ≠ .pair a b) : ∀ m, RpL (Rp w K (rowTy ts)) (List.replicate m (rowTy ts).zero) (List.replicate m (ts.map zeroV)).flatten []
  | 0 => ⟨rfl, rfl⟩
  | m + 1 => ⟨ts.map zeroV, _, [], [], by simp [List.replicate_succ], rfl, zero_row ts h, zero_rows h m⟩
end
section
variable {P : Program} {ti : TypeId → TI} {b : Base} {S : St} {c : Cc} {w : World}
theorem Step.push (w : World) (o : Obj) : Step w { w with heap := w.heap.push o } (fun _ => False) :=
  ⟨rfl, rfl, rfl, by simp, fun g hg _ => by simp [Array.getElem?_push, show ¬ (g = w.heap.size) by omega]⟩
theorem push_new (w : World) (o : Obj) : (w.heap.push o)[w.heap.size]? = some o := by simp
theorem zip_range : ∀ (us : List Value) (n : Nat), (List.range' n us.length).zip us = (us.zipIdx n).map fun x => (x.2, x.1)
  | [], _ => rfl
  | u :: us, n => by simp [List.range'_succ, zip_range us (n + 1)]
theorem buildSlice_ok (hT : TabOk P ti) (hi : Inv b S w c) {hn : List (Nat × List Ty)} {t : TypeId} {d len : Nat} {ps : List (Nat × SV)} {us : List Value} {is : List (Nat × Value)} {out : Out} (hps : All2 (fun p u => SVOk S c w (Kok b S c) p.2 u) ps us)
    (his : is = (ps.map (·.1)).zip us) (h : (buildSliceT (ti t) hn d len ps).ev S = some out) : ∃ v w', (Instr.buildSlice t len is.toArray).run P w = .ok v w' ∧ Did b S c w out v w' := by
  unfold buildSliceT at h
  split at h
  · rename_i e ts0 bytes ht
    split at h
    rotate_left
    · simp [Tr.ev] at h
    rename_i hc0
    generalize litTys ts0 (hintOf hn d ts0) ps = ts at hc0 h
    simp only [Bool.and_eq_true, List.all_eq_true, beq_iff_eq] at hc0
    obtain ⟨hall1, hl0⟩ := hc0
    unfold buildRowsT at h
    simp only [ev_bind, Option.bind_eq_some_iff] at h
    obtain ⟨r, hr, h⟩ := h
    split at h
    · rename_i hc
      simp only [Bool.and_eq_true, decide_eq_true_eq] at hc
      obtain ⟨⟨hu, hl⟩, hsmall⟩ := hc
      simp only [Tr.ev, Option.some.injEq] at h
      subst h
      obtain ⟨h1, _, _, hpos, i, z, h2, h3, h4, h5, h6, h7⟩ := hT.slice ht
      rw [← hl0] at hpos h3
      obtain ⟨k1, k2, k3, k4, G, k5, k6, k7⟩ := rowsT_ok hi ts ps us 0 hps hr hu
      have hsz : (rowTy ts).size = ts.length := rowTy_size ts hall1
      have hzs : z.cells.size = ts.length := by
        have := congrArg List.length h6
        simpa [hl0] using this
      have hlus : us.length = len := by rw [← hps.len, hl]
      have hflat : (us.flatMap fun u => u.cells.toList).length = len * ts.length := by
        have := RpL.len (fun x vs F h => Rp.len (rowTy ts) x h) k5
        rw [this, k2, hl, hsz]
      rcases Nat.eq_zero_or_pos len with hz | hp
      · -- nothing in it
        have hus : us = [] := List.eq_nil_of_length_eq_zero (by omega)
        have hps0 : ps = [] := List.eq_nil_of_length_eq_zero (by omega)
        subst hus hps0 hz
        simp only [List.map_nil, List.zip_nil_left] at his
        subst his
        have hr1 : r.1 = [] := List.eq_nil_of_length_eq_zero (by rw [k2]; rfl)
        refine ⟨.slice (some ⟨w.heap.size, 0, none⟩) 0 0, { w with heap := w.heap.push (.cells #[] e) }, ?_, ?_⟩
        · simp [Instr.buildSlice, run_underlying h1, sizeOf, typeInfo, h2, Instr.fill, newRow, Array.range_zero']
        · refine ownOut_did hi (kd d 0) ⟨e, rowTy ts, r.1⟩ r.2 k1 (F' := [w.heap.size]) ((Step.push w _).mono fun _ h => h.elim) ?_ (by simp) ?_
          · intro g hg
            simp only [List.mem_singleton] at hg
            subst hg
            exact ⟨by simp, .inr (Nat.le_refl _)⟩
          · intro K' hK _
            simp only [Rp, hr1]
            exact .inr ⟨w.heap.size, 0, 0, #[], (0, 0), [], rfl, rfl, push_new w _, NFt.zero _ (fun _ => by simp), by simp, Nat.le_refl _, by simp [RpL]⟩
      · have hfill := Great.fill_whole (s := ts.length) hpos us ((Array.range (len * i.size)).map (z.cells[· % z.cells.size]!)) k4 (by simp [h3, hlus])
        have his' : is.toArray.toList = (us.zipIdx 0).map fun x => (x.2, x.1) := by
          rw [his, k3, ← zip_range us 0, hps.len]
        have hrun := run_buildSlice (P := P) w t e len is.toArray (us.flatMap fun u => u.cells.toList).toArray i z h1 h2 h5 (by rw [h3, ← hsz]; omega) (by rw [h3]; have := Nat.mul_pos hp hpos; omega)
          (by rw [his', h3]; rw [h3] at hfill; exact hfill)
        refine ⟨_, _, hrun, ?_⟩
        refine ownOut_did hi (kd d 0) ⟨e, rowTy ts, r.1⟩ r.2 k1 (F' := w.heap.size :: G) ((Step.push w _).mono fun _ h => h.elim) ?_ ?_ ?_
        · intro g hg
          rcases List.mem_cons.1 hg with rfl | hg
          · exact ⟨by simp, .inr (Nat.le_refl _)⟩
          · obtain ⟨k, q, q'⟩ := k7 g hg
            have := (hi.fr g (.inr ⟨k, k1 k q, q'⟩)).1
            exact ⟨by simp; omega, .inl ⟨k, q, q'⟩⟩
        · rw [List.nodup_cons]
          refine ⟨fun hg => ?_, k6⟩
          obtain ⟨k, q, q'⟩ := k7 _ hg
          have := (hi.fr _ (.inr ⟨k, k1 k q, q'⟩)).1
          omega
        · intro K' hK _
          simp only [Rp]
          refine .inr ⟨w.heap.size, 0, len, _, (0, 0), G, by rw [k2, hl], rfl, push_new w _, NFt.zero _ (fun _ => by rw [List.size_toArray, hflat, ← hsz]; omega), ?_, by rw [k2, hl]; exact Nat.le_refl _, ?_⟩
          · rw [hsz, List.size_toArray, hflat]; simp
          · rw [List.drop_zero, k2, hl, hsz, ← hflat, List.take_length]
            exact RpL.frame hK _ _ _ _ (fun g hg => by
              obtain ⟨k, q, q'⟩ := k7 g hg
              exact (Step.push w _).same g (hi.fr g (.inr ⟨k, k1 k q, q'⟩)).1 (fun h => h)) k5
    · simp [Tr.ev] at h
  · simp [Tr.ev] at h
theorem makeSlice_ok (hT : TabOk P ti) (hi : Inv b S w c) {t : TypeId} {d : Nat} {l m : SV} {u v : Value} {out : Out} (hl : SVOk S c w (Kok b S c) l u) (hm : SVOk S c w (Kok b S c) m v)
    (h : (makeSliceT (ti t) d l m).ev S = some out) : ∃ r w', (Instr.makeSlice t u v).run P w = .ok r w' ∧ Did b S c w out r w' := by
  unfold makeSliceT at h
  split at h
  · rename_i e ts bytes l m ht
    obtain rfl := int_leaf (leaf_sv hl)
    obtain rfl := int_leaf (leaf_sv hm)
    replace h := ev_iff h
    obtain ⟨c1, h⟩ := h
    replace h := ev_iff h
    obtain ⟨c2, h⟩ := h
    replace h := ev_iff h
    obtain ⟨c3, h⟩ := h
    simp only [decide_eq_true_eq, roomFor] at c1 c2 c3
    simp only [Tr.ev, Option.some.injEq] at h
    subst h
    obtain ⟨h1, _, hb, hpos, i, z, h2, h3, h4, h5, h6, h7⟩ := hT.slice ht
    have hsz : (rowTy ts).size = ts.length := rowTy_size ts fun t ht => (h7 t ht).1
    have hzs : z.cells.size = ts.length := by
      have := congrArg List.length h6
      simpa using this
    obtain ⟨l', rfl⟩ := Int.eq_ofNat_of_zero_le c1
    obtain ⟨m', rfl⟩ := Int.eq_ofNat_of_zero_le (Int.le_trans c1 c2)
    simp only [Int.toNat_natCast] at c3 ⊢
    have c2' : l' ≤ m' := Int.ofNat_le.1 c2
    have hm' : m' ≤ 140737488355328 := Nat.le_trans (Nat.le_mul_of_pos_right _ hb) c3
    have hrun := run_make (P := P) w t e i z h1 h2 h5 .i64 .i64 l' m' c1 c2 (by rw [h4, ← Int.natCast_mul, Nat.mul_comm]; omega) (by omega)
    refine ⟨_, _, hrun, ?_⟩
    refine ownOut_did hi (kd d 0) ⟨e, rowTy ts, List.replicate l' (rowTy ts).zero⟩ [] (fun k hk => by cases hk) (F' := [w.heap.size]) ((Step.push w _).mono fun _ h => h.elim) ?_ (by simp) ?_
    · intro g hg
      simp only [List.mem_singleton] at hg
      subst hg
      exact ⟨by simp, .inr (Nat.le_refl _)⟩
    · intro K' hK _
      simp only [Rp]
      refine .inr ⟨w.heap.size, 0, m', madeCells z.cells (m' * i.size), (0, 0), [], by simp, rfl, push_new w _, NFt.zero _ (fun hr1 => by have hs1 := congrArg Ty.size hr1; rw [hsz] at hs1; rw [size_madeCells, h3, hs1]; simp only [Ty.size]; omega), ?_, by simp; omega, ?_⟩
      · rw [hsz, size_madeCells, h3]; omega
      · rw [List.drop_zero, List.length_replicate, hsz, h3, ← hzs, made_take z.cells (by omega) l' m' (by omega), h6]
        exact zero_rows h7 l'
  · simp [Tr.ev] at h
end
end Go.V

namespace Go.V
open Go.RowKit
theorem Rp.ro {w : World} {K : Nat → Prop} : ∀ (t : Ty) (x : t.D) {vs F}, t.ro = true → Rp w K t x vs F → F = []
  | .int _, _, _, _, _, h => by simp only [Rp] at h; exact h.2
  | .bool, _, _, _, _, h => by simp only [Rp] at h; exact h.2
  | .str, _, _, _, _, h => by simp only [Rp] at h; exact h.2
  | .pt _, _, _, _, _, h => by simp only [Rp] at h; exact h.1
  | .unit, _, _, _, _, h => by simp only [Rp] at h; exact h.2
  | .pair a b, x, _, _, hr, h => by
    simp only [Rp] at h
    simp only [Ty.ro, Bool.and_eq_true] at hr
    obtain ⟨v1, v2, F1, F2, _, rfl, h1, h2⟩ := h
    rw [Rp.ro a _ hr.1 h1, Rp.ro b _ hr.2 h2]; rfl
  | .sl true _ _, _, _, _, hr, _ => by simp [Ty.ro] at hr
  | .sl false _ r, _, _, _, _, h => by simp only [Rp] at h; exact h.1
theorem RpL.ro {w : World} {K : Nat → Prop} {r : Ty} (hr : r.ro = true) : ∀ (xs : List r.D) {vs F}, RpL (Rp w K r) xs vs F → F = []
  | [], _, _, h => h.2
  | x :: xs, _, _, h => by
    obtain ⟨v1, v2, F1, F2, _, rfl, h1, h2⟩ := h
    rw [Rp.ro r x hr h1, RpL.ro hr xs h2]; rfl
theorem RpL.one {w : World} {K : Nat → Prop} {r : Ty} : ∀ (xs : List r.D) {vs F}, RpL (Rp w K r) xs vs F → ∀ u ∈ vs, u.oneCell' = true
  | [], _, _, h => by rw [h.1]; simp
  | x :: xs, _, _, h => by
    obtain ⟨v1, v2, F1, F2, rfl, _, h1, h2⟩ := h
    intro u hu
    rcases List.mem_append.1 hu with hu | hu
    · exact Rp.one r x h1 u hu
    · exact RpL.one xs h2 u hu
theorem bytes_rep {w : World} {K : Nat → Prop} : ∀ (s : List UInt8), RpL (Rp w K (.int .u8)) (bytesOf s) (byteCells ⟨s.toArray⟩) []
  | [] => ⟨rfl, rfl⟩
  | x :: s => by
    have ih := bytes_rep (w := w) (K := K) s
    simp only [byteCells, bytesOf, List.map_cons] at ih ⊢
    exact ⟨[_], _, [], [], rfl, rfl, by simp [Rp], ih⟩
section
variable {P : Program} {ti : TypeId → TI} {b : Base} {S : St} {c : Cc} {w : World}
theorem src_slice {size : Nat} {t2 e' : TypeId} {A : Option Addr} {n cap : Nat} {ws : List Value} (hk : P.underlying t2 = some (.slice e')) (hl : ws.length = n * size) (h1 : ∀ u ∈ ws, u.oneCell' = true)
    (hA : n = 0 ∨ ∃ ad, A = some ad ∧ ∀ j, j < ws.length → w.cell? (ad.add j) = ws[j]?) : Src P size t2 (.slice A n cap) n ws w := by
  cases A with
  | none =>
    rcases hA with rfl | ⟨ad, h, _⟩
    · obtain rfl : ws = [] := List.eq_nil_of_length_eq_zero (by omega)
      exact Src.ofNil w hk cap
    · cases h
  | some a =>
    refine Src.ofSlice w hk a n cap ws hl (fun j u hu => ?_) h1
    have hj := (List.getElem?_eq_some_iff.1 hu).1
    rcases hA with rfl | ⟨ad, h, h2⟩
    · omega
    · injection h with h; subst h; rw [h2 j hj]; exact hu
theorem more_ok (hT : TabOk P ti) (hi : Inv b S w c) {t2 e : TypeId} {r : Ty} {y : Leaf} {v : Value} {m : List r.D × List Nat} (hy : LeafOk S c w (Kok b S c) y v) (h : (moreT (ti t2) e r y).ev S = some m) :
    Ows S m.2 ∧ unlike m.2 = true ∧ ∃ news F, Src P r.size t2 v m.1.length news w ∧ RpL (Rp w (Kok b S c) r) m.1 news F ∧ F.Nodup ∧ Held c m.2 F := by
  have hn : Ows S [] ∧ unlike [] = true := ⟨fun k hk => (by cases hk), rfl⟩
  have hh : Held c [] [] := fun g hg => (by cases hg)
  unfold moreT at h
  split at h
  · rename_i s
    split at h
    · rename_i hc
      split at h
      · simp only [Tr.ev, Option.some.injEq] at h
        subst h
        obtain rfl := str_leaf hy
        refine ⟨hn.1, hn.2, byteCells ⟨s.toArray⟩, [], ?_, bytes_rep s, by simp, hh⟩
        have := Src.ofString (P := P) w (str_under hT hc) ⟨s.toArray⟩
        have hs : (ByteArray.mk s.toArray).size = (bytesOf s).length := by simp [ByteArray.size, bytesOf]
        rw [hs] at this
        exact this
      · simp [Tr.ev] at h
    · simp [Tr.ev] at h
  · split at h
    · rename_i hc
      obtain ⟨e', ie, hu, hie⟩ := sl_under' hT hc
      split at h
      · rename_i hro
        split at h
        · simp only [Tr.ev, Option.some.injEq] at h
          subst h
          obtain rfl : v = .slice none 0 0 := hy
          exact ⟨hn.1, hn.2, [], [], src_slice hu (by simp) (by simp) (.inl rfl), ⟨rfl, rfl⟩, by simp, hh⟩
        · simp only [ev_bind, Option.bind_eq_some_iff] at h
          obtain ⟨o, ho, h⟩ := h
          split at h
          · rename_i he
            obtain ⟨oe, or, oxs⟩ := o
            simp only [Ty.sl.injEq, true_and] at he
            obtain ⟨rfl, rfl⟩ := he
            simp only [Tr.ev, Option.some.injEq] at h
            subst h
            obtain ⟨A, cap, ws, F', rfl, hr, hx⟩ := data_read hi hy ho
            have hF := RpL.ro hro _ hr
            subst hF
            refine ⟨hn.1, hn.2, ws, [], src_slice hu (RpL.len (fun x vs F h => Rp.len or x h) hr) (RpL.one _ hr) ?_, hr, by simp, hh⟩
            rcases hx with hx | ⟨ad, h1, _, h2⟩
            · left; simp only at hx; rw [hx]; rfl
            · exact .inr ⟨ad, h1, h2⟩
          · simp [Tr.ev] at h
      · obtain ⟨k1, k2, G, k3, k4, k5⟩ := absorb_ok (t := .sl true e r) hi hy h
        refine ⟨k1, k2, ?_⟩
        simp only [Rp] at k3
        rcases k3 with ⟨h1, rfl, h2⟩ | ⟨g, off, cap, cs, fr, F0, h1, rfl, hg, hnf, hoff, hcp, hr⟩
        · injection h2 with h2
          subst h2
          rw [h1]
          exact ⟨[], [], src_slice hu (by simp) (by simp) (.inl rfl), ⟨rfl, rfl⟩, by simp, fun g hg => (by cases hg)⟩
        · injection h1 with h1
          subst h1
          refine ⟨_, F0, src_slice hu (RpL.len (fun x vs F h => Rp.len r x h) hr) (RpL.one _ hr) (.inr ⟨_, rfl, fun j hj => ?_⟩), hr, (List.nodup_cons.1 k4).2, fun g hg => k5 g (by simp [hg])⟩
          rw [add_blk, cell_blk hg]
          rw [List.length_take, List.length_drop, Array.length_toList] at hj
          rw [List.getElem?_take_of_lt (by omega), List.getElem?_drop, Array.getElem?_toList]
    · simp [Tr.ev] at h
theorem setCells_blk {g : Nat} {e : TypeId} {fr : Nat × Nat} : ∀ (vs : List Value) (o : Nat) (w : World) (cs : Array Value), w.heap[g]? = some (.cells cs e fr) → o + vs.length ≤ cs.size →
    ∃ cs', (w.setCells g o vs).heap[g]? = some (.cells cs' e fr) ∧ cs'.size = cs.size ∧ ∀ i, cs'[i]? = if o ≤ i ∧ i < o + vs.length then vs[i - o]? else cs[i]?
  | [], o, w, cs, h, _ => ⟨cs, h, rfl, fun i => by rw [if_neg (by simp only [List.length_nil]; omega)]⟩
  | v :: vs, o, w, cs, h, hle => by
    simp only [List.length_cons] at hle
    obtain ⟨cs', h1, h2, h3⟩ := setCells_blk vs (o + 1) (w.setCell ⟨g, o, none⟩ v) _ (setCell_blk h o v) (by simp; omega)
    refine ⟨cs', h1, by rw [h2]; simp, fun i => ?_⟩
    rw [h3, List.length_cons]
    by_cases hi : o + 1 ≤ i ∧ i < o + 1 + vs.length
    · rw [if_pos hi, if_pos (by omega), show i - o = (i - (o + 1)) + 1 by omega, List.getElem?_cons_succ]
    · rw [if_neg hi]
      by_cases hio : i = o
      · subst hio
        rw [if_pos (by omega), Array.getElem?_setIfInBounds_self_of_lt (by omega)]; simp
      · rw [if_neg (by omega), Array.getElem?_setIfInBounds_ne (Ne.symm hio)]
theorem setCells_step {g : Nat} : ∀ (vs : List Value) (o : Nat) (w : World), Step w (w.setCells g o vs) (fun x => x = g) ∧ (w.setCells g o vs).heap.size = w.heap.size
  | [], _, w => ⟨Step.refl _ _, rfl⟩
  | v :: vs, o, w => by
    obtain ⟨h1, h2⟩ := setCells_step (g := g) vs (o + 1) (w.setCell ⟨g, o, none⟩ v)
    have h3 : (w.setCell ⟨g, o, none⟩ v).heap.size = w.heap.size := by simp [World.setCell]
    have h4 : Step w (w.setCell ⟨g, o, none⟩ v) (fun x => x = g) := ⟨rfl, rfl, rfl, by omega, fun x _ hx => Below.heap_setCell _ _ _ _ hx⟩
    exact ⟨h4.trans h1, by rw [← h3]; exact h2⟩
theorem not_held (hi : Inv b S w c) {ks ls : List Nat} {g : Nat} {G : List Nat} (ho : Ows S ks) (ho' : Ows S ls) (hu : unlike (ks ++ ls) = true) (hg : Held c ks [g]) (hG : Held c ls G) : g ∉ G := by
  intro hx
  obtain ⟨k, h1, h2⟩ := hg g (by simp)
  obtain ⟨l, h3, h4⟩ := hG g hx
  obtain ⟨_, _, h5⟩ := unlike_append hu
  have hne : k ≠ l := by rintro rfl; exact h5 k h1 h3
  exact hi.oo k l hne (ho k h1) (ho' l h3) g h2 h4
theorem held_lt (hi : Inv b S w c) {ks : List Nat} {G : List Nat} (ho : Ows S ks) (hG : Held c ks G) {g : Nat} (hg : g ∈ G) : g < w.heap.size := by
  obtain ⟨k, h1, h2⟩ := hG g hg
  exact (hi.fr g (.inr ⟨k, ho k h1, h2⟩)).1
theorem cell_int (hT : TabOk P ti) {t : TypeId} {k : IntKind} (h : ti t = .cell (.int k)) : P.underlying t = some (.int k) := by
  obtain ⟨⟨d, hd, he⟩, _⟩ := hT.cell h
  rw [hd]
  cases d <;> simp [descIs] at he
  rw [he]
structure Src2 (P : Program) (i : TypeInfo) (z : Value) (t t2 ty e : TypeId) (v : Value) (n : Nat) (news : List Value) (w : World) : Prop where
  newsLen : news.length = n * i.size
  grow : ∀ (A : Option Addr) (sLen cap : Nat) (olds : List Value), sLen ≤ cap → (Builtin.firstCells i.size sLen (.slice A sLen cap)).run P w.drew = .ok olds.toArray w.drew → cap < sLen + n → sLen + n ≤ 140737488355328 → (sLen + n) * i.bytes ≤ 140737488355328 →
    (Builtin.append_ #[t, t2] ty #[.slice A sLen cap, v]).run P w = .ok (.slice (some ⟨w.heap.size, 0, none⟩) (sLen + n) (grownCap w (sLen + n) cap e)) (w.drew.alloc (.cells ((olds ++ news).toArray ++ Builtin.zeroCells z.cells (grownCap w (sLen + n) cap e - (sLen + n))) e))
  room : ∀ (g off sLen cap : Nat), sLen + n ≤ cap → sLen + n ≤ 140737488355328 → (sLen + n) * i.bytes ≤ 140737488355328 → (∀ j, j < news.length → (w.cell? ⟨g, off + sLen * i.size + j, none⟩).isSome = true) → (∀ j, j < news.length → w.frozen? ⟨g, off + sLen * i.size + j, none⟩ = false) →
    (Builtin.append_ #[t, t2] ty #[.slice (some ⟨g, off, none⟩) sLen cap, v]).run P w = .ok (.slice (some ⟨g, off, none⟩) (sLen + n) cap) (w.setCells g (off + sLen * i.size) news)
  nothing : n = 0 → (Builtin.append_ #[t, t2] ty #[.slice none 0 0, v]).run P w = .ok (.slice none 0 0) w
theorem Src2.of {i : TypeInfo} {z : Value} {t t2 ty e : TypeId} {v : Value} {n : Nat} {news : List Value} (h1 : P.underlying t = some (.slice e)) (h2 : P.info? e = some i) (h5 : i.zero = some z) (h : Src P i.size t2 v n news w) : Src2 P i z t t2 ty e v n news w where
  newsLen := h.newsLen
  grow A sLen cap olds _ hold hcap hb hby := run_append_grow_src (P := P) w t t2 ty e i z h1 h2 h5 A sLen cap olds hold v n news h hcap (by omega) (growslice_fits hcap hby)
  room g off sLen cap hr _ _ hc hf := run_append_room_src (P := P) w t t2 ty e i h1 h2 g off sLen cap v n news h hr hc hf
  nothing hn := by
    subst hn
    have : news = [] := List.eq_nil_of_length_eq_zero (by rw [h.newsLen]; simp)
    subst this
    exact run_append_nothing w t t2 ty e i h1 h2 none 0 0 (Nat.le_refl _) v h
theorem Src2.zeros {i : TypeInfo} {z : Value} {t t2 ty e : TypeId} {n : Nat} (h1 : P.underlying t = some (.slice e)) (ht2 : P.underlying t2 = some (.int .i64)) (h2 : P.info? e = some i) (h5 : i.zero = some z) (hs : 0 < i.size) (hz : z.cells.size = i.size)
    (h1z : ∀ u ∈ z.cells.toList, u.oneCell' = true) : Src2 P i z t t2 ty e (.int .i64 ((n : Nat) : Int)) n (Builtin.zeroCells z.cells n).toList w where
  newsLen := by rw [Array.length_toList, size_zeroCells, hz]
  grow A sLen cap olds hle hold hcap hb hby := by
    have hn : 0 < n := by omega
    have := Lib.run_append_grow_zeros w t t2 ty e i z .i64 .i64 h1 ht2 h2 h5 A sLen cap olds hold n hn hs hcap (by omega) (by have := Nat.mul_le_mul_right i.bytes (show n ≤ sLen + n by omega); omega) (growslice_fits hcap hby)
    rw [this]
    congr 3
    apply Array.ext'
    simp
  room g off sLen cap hr hb hby hc hf := by
    have hone : ∀ u ∈ (Builtin.zeroCells z.cells n).toList, u.oneCell' = true := by
      intro u hu
      simp only [Builtin.zeroCells, Array.toList_map, List.mem_map] at hu
      obtain ⟨j, hj, rfl⟩ := hu
      have hjl : j % z.cells.size < z.cells.size := Nat.mod_lt _ (by omega)
      rw [getElem!_pos z.cells (j % z.cells.size) hjl]
      exact h1z _ (by simp)
    have hst := run_storeCells_cells (P := P) g (off + sLen * i.size) (Builtin.zeroCells z.cells n).toList 0 w (by simpa using hc) (by simpa using hf) hone
    simp only [Nat.add_zero] at hst
    have hw : IntKind.i64.wrap ((n : Nat) : Int) = n := by rw [IntKind.wrap_i64]; omega
    have hneg : ¬ (((n : Nat) : Int) < 0) := by omega
    have hnb : n * i.bytes ≤ 140737488355328 := by have := Nat.mul_le_mul_right i.bytes (show n ≤ sLen + n by omega); omega
    have h48i : ¬ (281474976710656 < ((n : Nat) : Int) * (i.bytes : Int)) := by rw [← Int.natCast_mul]; omega
    by_cases h0 : n = 0
    · subst h0
      have e0 : (Builtin.zeroCells z.cells 0) = #[] := by simp [Builtin.zeroCells]
      rw [e0] at hst ⊢
      simp [Builtin.append_, run_underlying h1, run_underlying ht2, sizeOf, typeInfo, h2, asInt, asIntOf, Addr.add_lit, storeCells, World.setCells, show IntKind.i64.wrap (0 : Int) = 0 from rfl, Nat.le_of_add_right_le hr]
    · have hns : ¬ (n * i.size = 0) := Nat.mul_ne_zero h0 (by omega)
      simp [Builtin.append_, run_underlying h1, run_underlying ht2, sizeOf, typeInfo, zeroValue, h2, h5, asInt, asIntOf, hw, hneg, hns, h48i, hr, Addr.add_lit, hst]
  nothing hn := by
    subst hn
    simp [Builtin.append_, run_underlying h1, run_underlying ht2, sizeOf, typeInfo, h2, asInt, asIntOf, show IntKind.i64.wrap (0 : Int) = 0 from rfl]
theorem moreA_ok (hT : TabOk P ti) (hi : Inv b S w c) {t t2 ty e : TypeId} {ts : List Ty} {bytes : Nat} (ht : ti t = .slice e ts bytes) {r : Ty} (hsz : r.size = ts.length) {y : Leaf} {v : Value} {m : List r.D × List Nat} (hy : LeafOk S c w (Kok b S c) y v) (h : (moreA (ti t2) e (rowTy ts) r y).ev S = some m) :
    Ows S m.2 ∧ unlike m.2 = true ∧ ∃ news F, (∀ i z, P.info? e = some i → i.zero = some z → Src2 P i z t t2 ty e v m.1.length news w) ∧ RpL (Rp w (Kok b S c) r) m.1 news F ∧ F.Nodup ∧ Held c m.2 F := by
  obtain ⟨h1, _, hb, hpos, i, z, h2, h3, h4, h5, h6, h7⟩ := hT.slice ht
  unfold moreA at h
  split at h
  · rename_i hti
    split at h
    · rename_i n
      split at h
      · rename_i hr
        subst hr
        replace h := ev_iff h
        obtain ⟨c1, h⟩ := h
        simp only [Tr.ev, Option.some.injEq] at h
        subst h
        simp only [decide_eq_true_eq] at c1
        obtain ⟨k, rfl⟩ := Int.eq_ofNat_of_zero_le c1
        obtain rfl := int_leaf hy
        have ht2 : P.underlying t2 = some (.int .i64) := cell_int hT hti
        have hzs : z.cells.size = i.size := by
          have := congrArg List.length h6
          rw [h3]; simpa using this
        have hzl : (Builtin.zeroCells z.cells k).toList = (List.replicate k (ts.map zeroV)).flatten := by
          have hmade := made_rows z.cells (by omega) k
          rw [h6] at hmade
          rw [← hmade]
          simp [Builtin.zeroCells]
        refine ⟨fun k hk => (by cases hk), rfl, (Builtin.zeroCells z.cells k).toList, [], ?_, ?_, by simp, fun g hg => (by cases hg)⟩
        · intro i' z' hi' hz'
          obtain rfl : i = i' := by rw [h2] at hi'; injection hi'
          obtain rfl : z = z' := by rw [h5] at hz'; injection hz'
          simp only [Int.toNat_natCast, List.length_replicate]
          refine Src2.zeros h1 ht2 h2 h5 (by omega) hzs (fun u hu => ?_)
          rw [h6] at hu
          obtain ⟨t, _, rfl⟩ := List.mem_map.1 hu
          cases t <;> rfl
        · rw [hzl, Int.toNat_natCast]
          exact zero_rows h7 k
      · simp [Tr.ev] at h
    · simp [Tr.ev] at h
  · obtain ⟨q1, q2, news, F, q3, q4, q5, q6⟩ := more_ok hT hi hy h
    refine ⟨q1, q2, news, F, fun i' z' hi' hz' => ?_, q4, q5, q6⟩
    obtain rfl : i = i' := by rw [h2] at hi'; injection hi'
    exact Src2.of h1 hi' hz' (by rw [h3, ← hsz]; exact q3)
theorem append_ok (hT : TabOk P ti) (hi : Inv b S w c) {t t2 ty : TypeId} {d : Nat} {x y : Leaf} {u v : Value} {out : Out} (hx : LeafOk S c w (Kok b S c) x u) (hy : LeafOk S c w (Kok b S c) y v)
    (h : (appendT (ti t) (ti t2) d x y).ev S = some out) : ∃ r w', (Builtin.append_ #[t, t2] ty #[u, v]).run P w = .ok r w' ∧ Did b S c w out r w' := by
  unfold appendT at h
  split at h
  · rename_i e ts bytes ht
    simp only [ev_bind, Option.bind_eq_some_iff] at h
    obtain ⟨r, _, h⟩ := h
    split at h
    rotate_left
    · simp [Tr.ev] at h
    rename_i hsz
    simp only [ev_bind, Option.bind_eq_some_iff] at h
    obtain ⟨⟨xs, ks⟩, hb0, ⟨ys, ls⟩, hm0, h⟩ := h
    replace h := ev_iff h
    obtain ⟨c1, h⟩ := h
    split at h
    · rename_i hun
      simp only [Tr.ev, Option.some.injEq] at h
      subst h
      simp only [roomFor, decide_eq_true_eq] at c1 hun
      obtain ⟨h1, _, hb, hpos, i, z, h2, h3, h4, h5, h6, h7⟩ := hT.slice ht
      have hzs : z.cells.size = ts.length := by
        have := congrArg List.length h6
        simpa using this
      obtain ⟨k1, _, G, k3, k4, k5⟩ := absorb_ok hi hx hb0
      obtain ⟨m1, _, news, F2, m3', m4, m5, m6⟩ := moreA_ok (t := t) (ty := ty) hT hi ht hsz hy hm0
      have m3 := m3' i z h2 h5
      simp only at k1 k3 k5 m1 m3 m4 m6
      have hnl := m3.newsLen
      rw [← h4] at c1
      have h63 : xs.length + ys.length ≤ 140737488355328 := Nat.le_trans (Nat.le_mul_of_pos_right _ (by omega)) c1
      have same2 : ∀ {w' : World} {T : Nat → Prop}, Step w w' T → ∀ {F : List Nat}, (∀ g, g ∈ F → g < w.heap.size) → (∀ g, g ∈ F → ¬ T g) → Same w w' F := fun hs F h1 h2 g hg => hs.same g (h1 g hg) (h2 g hg)
      have ho : Ows S (ks ++ ls) := ows_append k1 m1
      have grow : ∀ (A : Option Addr) (cap : Nat) (olds : List Value) (F1 : List Nat), u = .slice A xs.length cap → xs.length ≤ cap → cap < xs.length + ys.length → (Builtin.firstCells i.size xs.length (.slice A xs.length cap)).run P w.drew = .ok olds.toArray w.drew →
          RpL (Rp w (Kok b S c) r) xs olds F1 → F1.Nodup → Held c ks F1 → ∃ r' w', (Builtin.append_ #[t, t2] ty #[u, v]).run P w = .ok r' w' ∧ Did b S c w (ownOut (kd d 0) ⟨e, r, xs ++ ys⟩ (ks ++ ls)) r' w' := by
        rintro A cap olds F1 rfl hle hcap hold hro hnd hhe
        have hrun := m3.grow A xs.length cap olds hle hold hcap h63 c1
        have hge := grownCap_ge w (xs.length + ys.length) cap e
        obtain ⟨q1, q2⟩ := held_append hi hhe m6 k1 m1 hun hnd m5
        have hol : olds.length = xs.length * r.size := RpL.len (fun x vs F h => Rp.len r x h) hro
        have hgm := grownCap_le_maxLen w (xs.length + ys.length) cap e (by unfold maxLen; omega)
        generalize grownCap w (xs.length + ys.length) cap e = gc at hrun hge hgm
        generalize hcs : (olds ++ news).toArray ++ Builtin.zeroCells z.cells (gc - (xs.length + ys.length)) = cs at hrun
        generalize hw : w.drew.alloc (.cells cs e) = w' at hrun
        have hst : Step w w' (fun _ => False) := by
          subst hw
          exact ⟨rfl, rfl, rfl, (by show w.heap.size ≤ (w.heap.push _).size; simp), fun g hg _ => (by show (w.heap.push _)[g]? = _; simp [Array.getElem?_push, show ¬ (g = w.heap.size) by omega])⟩
        have hnew : w'.heap[w.heap.size]? = some (.cells cs e) := by subst hw; exact push_new w _
        have hws : w.heap.size < w'.heap.size := by subst hw; show w.heap.size < (w.heap.push _).size; simp
        refine ⟨_, _, hrun, ?_⟩
        refine ownOut_did hi (kd d 0) ⟨e, r, xs ++ ys⟩ (ks ++ ls) ho (F' := w.heap.size :: (F1 ++ F2)) (hst.mono fun _ h => h.elim) ?_ ?_ ?_
        · intro g hg
          rcases List.mem_cons.1 hg with rfl | hg
          · exact ⟨hws, .inr (Nat.le_refl _)⟩
          · exact ⟨Nat.lt_trans (held_lt hi ho q1 hg) hws, .inl (q1 g hg)⟩
        · rw [List.nodup_cons]
          exact ⟨fun hg => by have := held_lt hi ho q1 hg; omega, q2⟩
        · intro K' hK _
          simp only [Rp]
          refine .inr ⟨w.heap.size, 0, gc, cs, (0, 0), F1 ++ F2, by rw [List.length_append], rfl, hnew, NFt.zero _ (fun hr1 => by have hs1 : r.size = 1 := (by rw [hr1]; rfl); rw [← hcs, Array.size_append, List.size_toArray, List.length_append, size_zeroCells, hol, hnl, hzs, h3, ← hsz, hs1]; unfold maxLen at hgm; omega), ?_, by rw [List.length_append]; exact hge, ?_⟩
          · rw [← hcs, Array.size_append, List.size_toArray, List.length_append, size_zeroCells, hol, hnl, hzs, h3, ← hsz, ← Nat.add_mul, ← Nat.add_mul, Nat.zero_add]
            exact Nat.mul_le_mul_right _ (by omega)
          · have htake : (cs.toList.drop 0).take ((xs ++ ys).length * r.size) = olds ++ news := by
              rw [← hcs, List.drop_zero, Array.toList_append, List.take_append_of_le_length (by simp [hol, hnl, h3, hsz, Nat.add_mul])]
              apply List.take_of_length_le
              simp [hol, hnl, h3, hsz, Nat.add_mul]
            rw [htake]
            exact RpL.append (RpL.frame hK _ _ _ _ (same2 hst (fun g hg => held_lt hi k1 hhe hg) (fun _ _ h => h)) hro) (RpL.frame hK _ _ _ _ (same2 hst (fun g hg => held_lt hi m1 m6 hg) (fun _ _ h => h)) m4)
      simp only [Rp] at k3
      rcases k3 with ⟨rfl, rfl, hu⟩ | ⟨g, off, cap, cs, fr, F0, hu, rfl, hg, hnf, hoff, hcp, hro⟩
      · injection hu with hu
        subst hu
        by_cases hk : ys.length = 0
        · obtain rfl : ys = [] := List.eq_nil_of_length_eq_zero hk
          obtain rfl : news = [] := List.eq_nil_of_length_eq_zero (by rw [hnl]; simp)
          refine ⟨_, _, m3.nothing rfl, ?_⟩
          refine ownOut_did hi (kd d 0) ⟨e, r, [] ++ []⟩ (ks ++ ls) ho (F' := []) (Step.refl _ _) (by simp) (by simp) ?_
          intro K' _ _
          simp only [Rp]
          exact .inl ⟨rfl, trivial, trivial⟩
        · exact grow none 0 [] [] rfl (Nat.le_refl _) (by simp; omega) (run_firstCells_none w.drew i.size 0 0 0) ⟨rfl, rfl⟩ (by simp) (fun g hg => (by cases hg))
      · injection hu with hu
        subst hu
        obtain ⟨n1, n2⟩ := List.nodup_cons.1 k4
        have hh0 : Held c ks F0 := fun x hx => k5 x (by simp [hx])
        have hhg : Held c ks [g] := fun x hx => k5 x (by simp only [List.mem_singleton] at hx; simp [hx])
        have hol : ((cs.toList.drop off).take (xs.length * r.size)).length = xs.length * r.size := RpL.len (fun x vs F h => Rp.len r x h) hro
        by_cases hcap : xs.length + ys.length ≤ cap
        · have hfit : off + xs.length * r.size + news.length ≤ cs.size := by
            rw [hnl, h3, ← hsz, Nat.add_assoc, ← Nat.add_mul]
            exact Nat.le_trans (Nat.add_le_add_left (Nat.mul_le_mul_right _ hcap) _) hoff
          have hrun := m3.room g off xs.length cap hcap h63 c1
            (fun j hj => by rw [h3, ← hsz, cell_blk hg, Array.getElem?_eq_getElem (by omega)]; rfl)
            (fun j hj => by rw [h3, ← hsz]; exact frozen_blk hg hnf.nf (by omega))
          rw [h3, ← hsz] at hrun
          obtain ⟨cs', s1, s2, s3⟩ := setCells_blk news (off + xs.length * r.size) w cs hg hfit
          obtain ⟨s4, s5⟩ := setCells_step (g := g) news (off + xs.length * r.size) w
          generalize w.setCells g (off + xs.length * r.size) news = w' at hrun s1 s4 s5
          obtain ⟨q1, q2⟩ := held_append hi k5 m6 k1 m1 hun k4 m5
          refine ⟨_, _, hrun, ?_⟩
          refine ownOut_did hi (kd d 0) ⟨e, r, xs ++ ys⟩ (ks ++ ls) ho (F' := g :: F0 ++ F2) (s4.mono ?_) ?_ q2 ?_
          · rintro x rfl
            exact q1 x (by simp)
          · intro x hx
            exact ⟨by rw [s5]; exact held_lt hi ho q1 hx, .inl (q1 x hx)⟩
          · intro K' hK _
            simp only [Rp]
            refine .inr ⟨g, off, cap, cs', fr, F0 ++ F2, by rw [List.length_append], rfl, s1, by rw [s2]; exact hnf, by rw [s2]; exact hoff, by rw [List.length_append]; exact hcap, ?_⟩
            have htake : (cs'.toList.drop off).take ((xs ++ ys).length * r.size) = (cs.toList.drop off).take (xs.length * r.size) ++ news := by
              have hn2 : news.length = ys.length * r.size := by rw [hnl, h3, hsz]
              apply List.ext_getElem?
              intro j
              rw [List.length_append, Nat.add_mul]
              by_cases hj : j < xs.length * r.size
              · rw [List.getElem?_append_left (by omega), List.getElem?_take_of_lt (by omega), List.getElem?_take_of_lt hj, List.getElem?_drop, List.getElem?_drop, Array.getElem?_toList, Array.getElem?_toList, s3, if_neg (by omega)]
              · rw [List.getElem?_append_right (by omega), hol]
                by_cases hj2 : j < xs.length * r.size + ys.length * r.size
                · rw [List.getElem?_take_of_lt hj2, List.getElem?_drop, Array.getElem?_toList, s3, if_pos (by omega)]
                  congr 1; omega
                · rw [List.getElem?_eq_none (by rw [List.length_take]; omega), List.getElem?_eq_none (by omega)]
            rw [htake]
            exact RpL.append (RpL.frame hK _ _ _ _ (same2 s4 (fun x hx => held_lt hi k1 hh0 hx) (fun x hx h => n1 (h ▸ hx))) hro)
              (RpL.frame hK _ _ _ _ (same2 s4 (fun x hx => held_lt hi m1 m6 hx) (fun x hx h => not_held hi k1 m1 hun hhg m6 (h ▸ hx))) m4)
        · refine grow (some ⟨g, off, none⟩) cap _ F0 rfl hcp (by omega) (run_firstCells_some w.drew i.size xs.length ⟨g, off, none⟩ _ cap ((cs.toList.drop off).take (xs.length * r.size)) (by rw [hol, h3, hsz]) (fun j u hu => ?_)) hro n2 hh0
          have hj := (List.getElem?_eq_some_iff.1 hu).1
          rw [hol] at hj
          rw [List.getElem?_take_of_lt hj, List.getElem?_drop, Array.getElem?_toList] at hu
          have hg' : w.drew.heap[g]? = some (.cells cs e fr) := hg
          rw [add_blk, cell_blk hg']; exact hu
    · simp [Tr.ev] at h
  · simp [Tr.ev] at h
theorem run_copy_gen {t t2 ty e : TypeId} {i : TypeInfo} (w w' : World) (hu : P.underlying t = some (.slice e)) (hinfo : P.info? e = some i) (base : Option Addr) (dLen dCap : Nat) (v : Value) (m : Nat)
    (hlen : (Builtin.lenOf v).run P w = .ok m w) (cs : List Value) (hcells : (Builtin.firstCells i.size (Nat.min m dLen) v).run P w = .ok cs.toArray w)
    (hst : (base = none ∧ w' = w) ∨ ∃ a, base = some a ∧ (storeCells a cs).run P w = .ok () w') :
    (Builtin.copy_ #[t, t2] ty #[.slice base dLen dCap, v]).run P w = .ok (goInt (Nat.min m dLen)) w' := by
  rcases hst with ⟨rfl, rfl⟩ | ⟨a, rfl, hst⟩
  · simp [Builtin.copy_, run_underlying hu, hlen, sizeOf, typeInfo, hinfo, hcells]
  · simp [Builtin.copy_, run_underlying hu, hlen, sizeOf, typeInfo, hinfo, hcells, hst]
theorem copy_ok (hT : TabOk P ti) (hi : Inv b S w c) {t t2 ty : TypeId} {x y : Leaf} {u v : Value} {out : Out} (hx : LeafOk S c w (Kok b S c) x u) (hy : LeafOk S c w (Kok b S c) y v)
    (h : (copyT (ti t) (ti t2) x y).ev S = some out) : ∃ r w', (Builtin.copy_ #[t, t2] ty #[u, v]).run P w = .ok r w' ∧ Did b S c w out r w' := by
  unfold copyT at h
  split at h
  · rename_i k
    obtain ⟨o, e0, r0, ys0, h0, hk, hg0, hh0, hw0⟩ := hx
    obtain rfl : u = h0 := hw0
    obtain rfl : c.hv k = u := by simp only [hdr] at hh0; injection hh0
    simp only [Tr.ev, hk] at h
    split at h
    · rename_i hc
      simp only [Bool.and_eq_true] at hc
      obtain ⟨⟨hc1, hc2⟩, hro⟩ := hc
      obtain ⟨e, i, hu, hinf, hsz⟩ := sl_under hT hc1
      have hown := hi.ow k o hk
      have hnd := hi.nd k (by rw [hk]; simp)
      obtain ⟨A0, cap0, hA0⟩ : ∃ A0 cap0, c.hv k = .slice A0 o.xs.length cap0 := by
        obtain ⟨A, cap, ws, F', h1, _⟩ := own_read hown
        exact ⟨A, cap, h1⟩
      have fin : ∀ (ps : List o.r.D) (ws : List Value) (A : Option Addr) (cap : Nat), v = .slice A ps.length cap → RpL (Rp w (Kok b S c) o.r) ps ws [] → (ps = [] ∨ ∃ ad, A = some ad ∧ ∀ j, j < ws.length → w.cell? (ad.add j) = ws[j]?) →
          ∃ r w', (Builtin.copy_ #[t, t2] ty #[c.hv k, v]).run P w = .ok r w' ∧
            Did b S c w ⟨.s (.one (.v (.int .i64) ((Nat.min ps.length o.xs.length : Nat) : Int))), [.deep k], [.ow k (some ⟨o.e, o.r, ps.take o.xs.length ++ o.xs.drop ps.length⟩)]⟩ r w' := by
        rintro ps ws A cap rfl hps hx
        have hwl : ws.length = ps.length * o.r.size := RpL.len (fun x vs F h => Rp.len o.r x h) hps
        have hcl : ((ws.take (Nat.min ps.length o.xs.length * o.r.size))).length = Nat.min ps.length o.xs.length * o.r.size := by
          rw [List.length_take, hwl]
          exact Nat.min_eq_left (Nat.mul_le_mul_right _ (Nat.min_le_left _ _))
        have hcells : (Builtin.firstCells i.size (Nat.min ps.length o.xs.length) (.slice A ps.length cap)).run P w = .ok (ws.take (Nat.min ps.length o.xs.length * o.r.size)).toArray w := by
          rw [hsz]
          cases A with
          | none =>
            rcases hx with rfl | ⟨ad, h1, _⟩
            · have : ws = [] := List.eq_nil_of_length_eq_zero (by rw [hwl]; simp)
              subst this
              simp [Builtin.firstCells]
            · cases h1
          | some a =>
            refine run_firstCells_some w o.r.size _ a _ _ _ hcl (fun j u hu => ?_)
            have hj := (List.getElem?_eq_some_iff.1 hu).1
            rw [hcl] at hj
            rcases hx with rfl | ⟨ad, h1, h2⟩
            · simp at hj
            · injection h1 with h1; subst h1
              have hjw : j < ws.length := by rw [hwl]; exact Nat.lt_of_lt_of_le hj (Nat.mul_le_mul_right _ (Nat.min_le_left _ _))
              rw [h2 j hjw]
              rw [List.getElem?_take_of_lt hj] at hu
              exact hu
        have hlenS : ∀ (xs' : List o.r.D), xs' = ps.take o.xs.length ++ o.xs.drop ps.length → xs'.length = o.xs.length := by
          rintro _ rfl; simp; omega
        generalize hnew : ps.take o.xs.length ++ o.xs.drop ps.length = new at *
        have hnl := hlenS new rfl
        have turn : ∀ (w' : World) (F' : List Nat), (Builtin.copy_ #[t, t2] ty #[c.hv k, .slice A ps.length cap]).run P w = .ok (goInt (Nat.min ps.length o.xs.length)) w' → Step w w' (fun g => g ∈ c.F k) → w'.heap.size = w.heap.size →
            (∀ g, g ∈ F' → g ∈ c.F k) → F'.Nodup → (∀ K', KSame w w' (Kok b S c) K' → Rp w' K' (.sl true o.e o.r) new [c.hv k] F') →
            ∃ r w', (Builtin.copy_ #[t, t2] ty #[c.hv k, .slice A ps.length cap]).run P w = .ok r w' ∧ Did b S c w ⟨.s (.one (.v (.int .i64) ((Nat.min ps.length o.xs.length : Nat) : Int))), [.deep k], [.ow k (some ⟨o.e, o.r, new⟩)]⟩ r w' := by
          intro w' F' hrun hst hws hF hFn hR
          refine ⟨_, _, hrun, ?_⟩
          generalize hS : (S.kp [.deep k]).ups [.ow k (some ⟨o.e, o.r, new⟩)] = S'
          obtain ⟨c', _, _, _, e4, e5, _⟩ := hi.setOwn (S' := S') (w' := w') k ⟨o.e, o.r, new⟩ [] [.deep k] (c.hv k) F'
            (by intro k'; rw [← hS]; show (if k' = k then _ else (S.kp _).ow k') = _; rw [kp_ow]; simp)
            (by rw [← hS]; exact kp_ms S _) (by intro k' i; rw [← hS]; exact kp_mc S [.deep k] k' i) (fun k hk => by cases hk)
            (fun o' ho => by
              obtain rfl : o = o' := by rw [hk] at ho; injection ho
              exact .inr ⟨by simp, rfl, new, rfl, hnl⟩)
            (hst.mono fun g hg => ⟨k, .inl rfl, by rw [hk]; simp, hg⟩)
            (fun g hg => ⟨by rw [hws]; exact (hi.fr g (.inr ⟨k, by rw [hk]; simp, hF g hg⟩)).1, .inl ⟨k, .inl rfl, by rw [hk]; simp, hF g hg⟩⟩) hFn
            (fun K' hK _ => hR K' hK)
          subst hS
          exact ⟨c', e4, e5, sv_leaf mk_int⟩
        simp only [Rp] at hown
        rcases hown with ⟨hx0, hF0, hv0⟩ | ⟨g, off, capo, cs, fr, F1, hv0, hF0, hg, hnf, hoff, hcp, hr⟩
        · injection hv0 with hv0
          have hnil : new = [] := List.eq_nil_of_length_eq_zero (by rw [hnl, hx0]; rfl)
          refine turn w [] ?_ (Step.refl _ _) rfl (by simp) (by simp) (fun K' _ => by rw [hnil]; simp only [Rp]; exact .inl ⟨trivial, trivial, by rw [hv0]⟩)
          rw [hv0]
          have e0 : o.xs.length = 0 := by rw [hx0]; rfl
          have := run_copy_gen (P := P) (t2 := t2) (ty := ty) w w hu hinf none 0 0 (.slice A ps.length cap) ps.length rfl _ (by rw [← e0]; exact hcells) (.inl ⟨rfl, rfl⟩)
          rw [e0]; exact this
        · injection hv0 with hv0
          have hF1 : F1 = [] := RpL.ro hro _ hr
          subst hF1
          have hol : ((cs.toList.drop off).take (o.xs.length * o.r.size)).length = o.xs.length * o.r.size := RpL.len (fun x vs F h => Rp.len o.r x h) hr
          have hmo : Nat.min ps.length o.xs.length * o.r.size ≤ o.xs.length * o.r.size := Nat.mul_le_mul_right _ (Nat.min_le_right _ _)
          have hoc : o.xs.length * o.r.size ≤ capo * o.r.size := Nat.mul_le_mul_right _ hcp
          generalize hmv : Nat.min ps.length o.xs.length = m at *
          have hcs1 : ∀ v ∈ ws.take (m * o.r.size), v.oneCell' = true := fun v hv => RpL.one _ hps v (List.mem_of_mem_take hv)
          have hst : (storeCells ⟨g, off, none⟩ (ws.take (m * o.r.size))).run P w = .ok () (w.setCells g off (ws.take (m * o.r.size))) := by
            have := run_storeCells_cells (P := P) g off (ws.take (m * o.r.size)) 0 w (fun j hj => by rw [cell_blk hg, Array.getElem?_eq_getElem (by rw [hcl] at hj; omega)]; rfl)
              (fun j hj => frozen_blk hg hnf.nf (by rw [hcl] at hj; omega)) hcs1
            exact this
          have hrun := run_copy_gen (P := P) (t2 := t2) (ty := ty) w (w.setCells g off (ws.take (m * o.r.size))) hu hinf (some ⟨g, off, none⟩) o.xs.length capo (.slice A ps.length cap) ps.length rfl _ (by rw [show Nat.min ps.length o.xs.length = m from hmv]; exact hcells) (.inr ⟨_, rfl, hst⟩)
          rw [show Nat.min ps.length o.xs.length = m from hmv, ← hv0] at hrun
          obtain ⟨cs', s1, s2, s3⟩ := setCells_blk (ws.take (m * o.r.size)) off w cs hg (by rw [hcl]; omega)
          obtain ⟨s4, s5⟩ := setCells_step (g := g) (ws.take (m * o.r.size)) off w
          generalize w.setCells g off (ws.take (m * o.r.size)) = w' at hrun s1 s4 s5
          refine turn w' [g] hrun (s4.mono fun x hx => by rw [hF0, hx]; simp) s5 (fun x hx => by rw [hF0]; exact hx) (by simp) (fun K' hK => ?_)
          simp only [Rp]
          refine .inr ⟨g, off, capo, cs', fr, [], by rw [hnl, hv0], rfl, s1, by rw [s2]; exact hnf, by rw [s2]; exact hoff, by rw [hnl]; exact hcp, ?_⟩
          have htk : (cs'.toList.drop off).take (new.length * o.r.size) = ws.take (m * o.r.size) ++ ((cs.toList.drop off).take (o.xs.length * o.r.size)).drop (m * o.r.size) := by
            rw [hnl]
            apply List.ext_getElem?
            intro j
            by_cases hj : j < m * o.r.size
            · rw [List.getElem?_append_left (by rw [hcl]; exact hj), List.getElem?_take_of_lt (by omega), List.getElem?_drop, Array.getElem?_toList, s3, if_pos (by rw [hcl]; omega)]
              congr 1; omega
            · rw [List.getElem?_append_right (by rw [hcl]; omega), hcl, List.getElem?_drop, show m * o.r.size + (j - m * o.r.size) = j by omega]
              by_cases hj2 : j < o.xs.length * o.r.size
              · rw [List.getElem?_take_of_lt hj2, List.getElem?_take_of_lt hj2, List.getElem?_drop, List.getElem?_drop, Array.getElem?_toList, Array.getElem?_toList, s3, if_neg (by rw [hcl]; omega)]
              · rw [List.getElem?_eq_none (by rw [List.length_take]; omega), List.getElem?_eq_none (by rw [List.length_take]; omega)]
          rw [htk, ← hnew]
          have hA : RpL (Rp w (Kok b S c) o.r) (ps.take o.xs.length) (ws.take (m * o.r.size)) [] := by
            have hsp : ps = ps.take o.xs.length ++ ps.drop o.xs.length := (List.take_append_drop _ _).symm
            rw [hsp] at hps
            obtain ⟨v1, v2, G1, G2, e1, e2, q1, q2⟩ := RpL.split hps
            have l1 : v1.length = (ps.take o.xs.length).length * o.r.size := RpL.len (fun x vs F h => Rp.len o.r x h) q1
            have l2 : (ps.take o.xs.length).length = m := by rw [List.length_take, ← hmv]; exact Nat.min_comm _ _
            rw [l2] at l1
            have : ws.take (m * o.r.size) = v1 := by rw [e1, ← l1]; exact List.take_left' rfl
            rw [this]
            obtain ⟨rfl, rfl⟩ := List.append_eq_nil_iff.1 e2.symm
            exact q1
          have hB : RpL (Rp w (Kok b S c) o.r) (o.xs.drop ps.length) (((cs.toList.drop off).take (o.xs.length * o.r.size)).drop (m * o.r.size)) [] := by
            have hsp : o.xs = o.xs.take ps.length ++ o.xs.drop ps.length := (List.take_append_drop _ _).symm
            generalize (cs.toList.drop off).take (o.xs.length * o.r.size) = ows at hr
            rw [hsp] at hr
            obtain ⟨v1, v2, G1, G2, e1, e2, q1, q2⟩ := RpL.split hr
            have l1 : v1.length = (o.xs.take ps.length).length * o.r.size := RpL.len (fun x vs F h => Rp.len o.r x h) q1
            have l2 : (o.xs.take ps.length).length = m := by rw [List.length_take, ← hmv]
            rw [l2] at l1
            have : ows.drop (m * o.r.size) = v2 := by rw [e1, ← l1]; exact List.drop_left' rfl
            rw [this]
            obtain ⟨rfl, rfl⟩ := List.append_eq_nil_iff.1 e2.symm
            exact q2
          exact (RpL.append (RpL.frame hK _ _ _ _ (fun g hg => by cases hg) hA) (RpL.frame hK _ _ _ _ (fun g hg => by cases hg) hB))
      split at h
      · simp only [Tr.ev, Option.some.injEq] at h
        subst h
        obtain rfl : v = .slice none 0 0 := hy
        refine ⟨goInt 0, w, ?_, Did.same hi (sv_leaf mk_int)⟩
        obtain hrun := run_copy_gen (P := P) (t2 := t2) (ty := ty) w w hu hinf A0 o.xs.length cap0 (.slice none 0 0) 0 rfl [] (by simp [Builtin.firstCells]) (by
          cases A0 with
          | none => exact .inl ⟨rfl, rfl⟩
          | some a => exact .inr ⟨a, rfl, rfl⟩)
        rw [hA0]
        simpa using hrun
      · simp only [ev_bind, Option.bind_eq_some_iff] at h
        obtain ⟨p, hp, h⟩ := h
        split at h
        · rename_i he
          obtain ⟨pe, pr, pxs⟩ := p
          simp only [Ty.sl.injEq, true_and] at he
          obtain ⟨rfl, rfl⟩ := he
          simp only [Tr.ev, Option.some.injEq] at h
          subst h
          obtain ⟨A, cap, ws, F', rfl, hr, hx⟩ := data_read hi hy hp
          have hF := RpL.ro hro _ hr
          subst hF
          exact fin pxs ws A cap rfl hr (hx.imp id fun ⟨ad, h1, _, h2⟩ => ⟨ad, h1, h2⟩)
        · simp [Tr.ev] at h
    · simp [Tr.ev] at h
  · simp [Tr.ev] at h
end
end Go.V

namespace Go.V
open Go.RowKit
section
variable {P : Program} {ti : TypeId → TI} {b : Base} {S : St} {c : Cc} {w : World}
theorem fields_at : ∀ {fs : List (Nat × Nat × Bool)} {gs : List Field} {f : Nat} {o n : Nat} {ag : Bool}, fieldsAre P fs gs = true → fs[f]? = some (o, n, ag) →
    ∃ g, gs[f]? = some g ∧ g.offset = o ∧ n ≠ 0 ∧ (∃ i, P.info? g.type = some i ∧ i.size = n) ∧ ∃ d, P.underlying g.type = some d ∧ isAggD d = ag
  | [], _, _, _, _, _, _, h => by simp at h
  | _ :: _, [], _, _, _, _, h, _ => by simp [fieldsAre] at h
  | (o', n', ag') :: fs, g :: gs, f, o, n, ag, h, hf => by
    simp only [fieldsAre, Bool.and_eq_true, beq_iff_eq, Bool.not_eq_true', beq_eq_false_iff_ne] at h
    obtain ⟨⟨⟨⟨h1, h2⟩, h3⟩, h4⟩, h5⟩ := h
    cases f with
    | zero =>
      simp only [List.getElem?_cons_zero, Option.some.injEq, Prod.mk.injEq] at hf
      obtain ⟨rfl, rfl, rfl⟩ := hf
      refine ⟨g, rfl, h1, h2, ?_, ?_⟩
      · split at h3
        · rename_i i hi; exact ⟨i, hi, by simpa using h3⟩
        · cases h3
      · split at h4
        · rename_i d hd; exact ⟨d, hd, by simpa using h4⟩
        · cases h4
    | succ f =>
      have := fields_at (f := f) h5 (by simpa using hf)
      simpa using this
theorem fields_places : ∀ {fs : List (Nat × Nat × Bool)} {gs : List Field}, fieldsAre P fs gs = true → gs.mapM (fun f => (P.info? f.type).map fun i => (f.offset, i.size)) = some (fs.map fun x => (x.1, x.2.1))
  | [], [], _ => rfl
  | [], _ :: _, h => by simp [fieldsAre] at h
  | _ :: _, [], h => by simp [fieldsAre] at h
  | (o', n', ag') :: fs, g :: gs, h => by
    simp only [fieldsAre, Bool.and_eq_true, beq_iff_eq, Bool.not_eq_true', beq_eq_false_iff_ne] at h
    obtain ⟨⟨⟨⟨h1, h2⟩, h3⟩, h4⟩, h5⟩ := h
    split at h3
    · rename_i i hi
      rw [beq_iff_eq] at h3
      simp [List.mapM_cons, hi, fields_places h5, h1, h3]
    · cases h3
theorem run_field' {t : TypeId} {fields : Array Field} {f : Nat} {g : Field} {d : TypeDesc} {i : TypeInfo} (h1 : P.underlying t = some (.struct fields)) (h2 : fields[f]? = some g) (h3 : P.underlying g.type = some d)
    (h4 : P.info? g.type = some i) (cs : Array Value) (v : Value) (hv : if isAggD d then v = .agg (cs.extract g.offset (g.offset + i.size)) else cs[g.offset]? = some v) :
    (Instr.field t (.agg cs) f).run P w = .ok v w := by
  simp only [Instr.field, Sem.run_bind, run_underlying h1, Result.andThen_ok, h2, asAgg, Sem.run_pure, part, run_isAgg h3]
  split at hv
  · rename_i ha
    subst hv
    simp [ha, run_size h4]
  · rename_i ha
    simp [ha, hv]
theorem field_ok (hT : TabOk P ti) {K : Nat → Prop} {t : TypeId} {fs : List (Nat × Nat × Bool)} {row : List Ty} {eq : Bool} {ls : List Leaf} {v : Value} {f o n : Nat} {ag : Bool} {r : SV}
    (ht : ti t = .struct fs row eq) (hf : fs[f]? = some (o, n, ag)) (hx : SVOk S c w K (.s (.ag ls)) v)
    (hr : if ag then r = .s (.ag ((ls.drop o).take n)) else ∃ l, ls[o]? = some l ∧ r = .s (.one l)) : ∃ u, (Instr.field t v f).run P w = .ok u w ∧ SVOk S c w K r u := by
  obtain ⟨fields, h1, h2, _⟩ := hT.struct ht
  obtain ⟨g, h3, h4, h5, ⟨i, h6, h7⟩, d, h8, h9⟩ := fields_at h2 hf
  obtain ⟨vs, rfl, hall⟩ := hx
  rw [Array.getElem?_toList] at h3
  cases ag with
  | true =>
    simp only [if_true] at hr
    subst hr
    refine ⟨_, run_field' h1 h3 h8 h6 _ (.agg (vs.toArray.extract o (o + n))) (by rw [h9, h4, h7]; simp), (vs.drop o).take n, ?_, (hall.drop o).take n⟩
    congr 1
    apply Array.ext'
    simp [List.extract_eq_take_drop]
  | false =>
    obtain ⟨l, hl, rfl⟩ := hr
    obtain ⟨u, hu, hlu⟩ := hall.get hl
    exact ⟨u, run_field' h1 h3 h8 h6 _ u (by rw [h9, h4]; simpa using hu), hlu⟩
theorem fieldAt_ok (hT : TabOk P ti) {t : TypeId} {fs : List (Nat × Nat × Bool)} {row : List Ty} {eq : Bool} {f o n : Nat} {ag : Bool} (ht : ti t = .struct fs row eq) (hf : fs[f]? = some (o, n, ag)) (ad : Addr) :
    (Instr.fieldAt t (.pointer (some ad)) f).run P w = .ok (.pointer (some (ad.add o))) w := by
  obtain ⟨fields, h1, h2, _⟩ := hT.struct ht
  obtain ⟨g, h3, h4, h5, ⟨i, h6, h7⟩, d, h8, h9⟩ := fields_at h2 hf
  rw [Array.getElem?_toList] at h3
  simp only [Instr.fieldAt, Sem.run_bind, run_underlying h1, Result.andThen_ok, h3, Instr.sureAddr, Sem.run_pure, fieldPlace, run_size h6, h7, if_neg h5, h4]
theorem fieldAddr_ok (hT : TabOk P ti) {K : Nat → Prop} {t : TypeId} {fs : List (Nat × Nat × Bool)} {row : List Ty} {eq : Bool} {f o n : Nat} {ag : Bool} {a : S1} {v : Value} {r : SV} (ht : ti t = .struct fs row eq) (hf : fs[f]? = some (o, n, ag)) (ha : SVOk S c w K (.s a) v)
    (hr : (∃ k off, a = .pl k off ∧ r = .s (.pl k (off + o))) ∨ (∃ k st, a = .el k st ∧ r = .s (.el k (bump st o))) ∨ (∃ u x off, a = .rp u x off ∧ r = .s (.rp u x (off + o)))) :
    ∃ u, (Instr.fieldAt t v f).run P w = .ok u w ∧ SVOk S c w K r u := by
  rcases hr with ⟨k, off, rfl, rfl⟩ | ⟨k, st, rfl, rfl⟩ | ⟨u, x, off, rfl, rfl⟩
  · obtain ⟨m, hm, rfl⟩ := ha
    refine ⟨_, fieldAt_ok hT ht hf _, m, hm, by rw [add_blk]⟩
  · obtain ⟨o0, ad, ho, had, rfl, pre, p, d, rfl, hd⟩ := ha
    refine ⟨_, fieldAt_ok hT ht hf _, o0, _, ho, adr_bump _ o had, rfl, pre, (p.1, p.2 + o), d, ?_, hd⟩
    obtain ⟨i, j⟩ := p
    exact bump_snoc _ _ _ _
  · obtain ⟨ad, vs, rfl, h1, h2, h3, h4⟩ := ha
    refine ⟨_, fieldAt_ok hT ht hf _, ad, vs, ?_, h1, h2, h3, h4⟩
    rw [add_add]
theorem setMany_all {p : Leaf → Value → Prop} : ∀ (ls : List Leaf) (vs : List Value) (off k : Nat) (row : List Leaf) (cs : Array Value), All2 p ls vs → All2 p row cs.toList →
    All2 p (setMany row (off + k) ls) ((vs.zipIdx k).foldl (fun cs q => cs.setIfInBounds (off + q.2) q.1) cs).toList
  | [], _, _, _, _, _, .nil, h => h
  | l :: ls, _, off, k, row, cs, .cons (b := v) (bs := vs) h1 h2, h => by
    simp only [setMany, List.zipIdx_cons, List.foldl_cons]
    exact setMany_all ls vs off (k + 1) _ _ h2 (by rw [Array.toList_setIfInBounds]; exact h.set _ h1)
theorem buildT_ok (hi : Inv b S w c) (fs : List (Nat × Nat × Bool)) (place : Nat → Option (Nat × Nat)) (hp : ∀ f o n ag, fs[f]? = some (o, n, ag) → place f = some (o, n)) :
    ∀ (ps : List (Nat × SV)) (us : List Value) (row : List Leaf) (cs : Array Value) {ls : List Leaf}, All2 (fun p u => SVOk S c w (Kok b S c) p.2 u) ps us → All2 (LeafOk S c w (Kok b S c)) row cs.toList → buildT fs ps row = some ls →
      ∃ cs', Instr.fill place cs ((ps.map (·.1)).zip us) = some cs' ∧ All2 (LeafOk S c w (Kok b S c)) ls cs'.toList
  | [], _, row, cs, ls, .nil, h, hb => by
    simp only [buildT, Option.some.injEq] at hb
    subst hb
    exact ⟨cs, rfl, h⟩
  | (f, x) :: ps, _, row, cs, ls, .cons (b := u) (bs := us) h1 h2, h, hb => by
    simp only [buildT] at hb
    split at hb
    · rename_i off n ag lsx hf hlx
      split at hb
      · rename_i hn
        split at hb
        · rename_i hle
          obtain ⟨vs, e1, e2, _⟩ := leaves_ok hi h1 hlx
          have hvl : vs.length = n := by rw [← e2.len, hn]
          have hcl : row.length = cs.size := by rw [h.len]; simp
          have hall := setMany_all lsx vs off 0 row cs e2 h
          rw [Nat.add_zero] at hall
          obtain ⟨cs', q1, q2⟩ := buildT_ok hi fs place hp ps us _ _ h2 hall hb
          refine ⟨cs', ?_, q2⟩
          simp only [List.map_cons, List.zip_cons_cons, Instr.fill, hp f off n ag hf, e1, List.size_toArray]
          rw [if_neg (by simp; omega)]
          rw [← q1]
          congr 1
          rw [← Array.foldl_toList, Array.toList_zipIdx]
        · cases hb
      · cases hb
    · cases hb
theorem build_ok (hT : TabOk P ti) (hi : Inv b S w c) {t : TypeId} {fs : List (Nat × Nat × Bool)} {row : List Ty} {eq : Bool} {ps : List (Nat × SV)} {us : List Value} {is : List (Nat × Value)} {ls : List Leaf} (ht : ti t = .struct fs row eq)
    (hps : All2 (fun p u => SVOk S c w (Kok b S c) p.2 u) ps us) (his : is = (ps.map (·.1)).zip us) (h : buildT fs ps (row.map zeroLeaf) = some ls) :
    ∃ u, (Instr.build t is.toArray).run P w = .ok u w ∧ SVOk S c w (Kok b S c) (.s (.ag ls)) u := by
  obtain ⟨fields, h1, h2, _, i, h3, h4, h5, h6⟩ := hT.struct ht
  obtain ⟨cs', q1, q2⟩ := buildT_ok hi fs ((fs.map fun x => (x.1, x.2.1)).toArray[·]?) (fun f o n ag hf => by simp [hf]) ps us (row.map zeroLeaf) (row.map zeroV).toArray hps (by simpa using zeroLeaf_ok row h6) h
  refine ⟨.agg cs', run_build w t _ cs' ?_, cs'.toList, rfl, q2⟩
  simp only [Program.built, h3, h1, h5, fields_places h2, Value.cells]
  rw [his]
  exact q1
theorem text_fold (xs : List Int) : xs.foldl (fun r n => r.push (UInt8.ofNat n.toNat)) ByteArray.empty = ⟨(textOf xs).toArray⟩ := by
  have h : ∀ (xs : List Int) (r : ByteArray), xs.foldl (fun r n => r.push (UInt8.ofNat n.toNat)) r = ⟨r.data ++ (textOf xs).toArray⟩ := by
    intro xs
    induction xs with
    | nil => intro r; simp [textOf]
    | cons x xs ih =>
      intro r
      rw [List.foldl_cons, ih]
      simp [textOf, ByteArray.push]
  rw [h]; simp
theorem u8_cells {K : Nat → Prop} : ∀ (xs : List Int) {ws F}, RpL (Rp w K (.int .u8)) xs ws F → ws = xs.map (Value.int .u8)
  | [], _, _, h => h.1
  | x :: xs, _, _, ⟨v1, v2, F1, F2, e1, _, h1, h2⟩ => by
    simp only [Rp] at h1
    subst e1
    rw [h1.1, u8_cells xs h2]; rfl
theorem cell_str (hT : TabOk P ti) {t : TypeId} (h : ti t = .cell .str) : P.underlying t = some .string := by
  obtain ⟨⟨d, hd, he⟩, _⟩ := hT.cell h
  rw [hd]; cases d <;> first | rfl | (simp [descIs] at he; done)
theorem cell_bool (hT : TabOk P ti) {t : TypeId} (h : ti t = .cell .bool) : P.underlying t = some .bool := by
  obtain ⟨⟨d, hd, he⟩, _⟩ := hT.cell h
  rw [hd]; cases d <;> first | rfl | (simp [descIs] at he; done)
theorem conv_ok (hT : TabOk P ti) (hi : Inv b S w c) {s t : TypeId} {d : Nat} {x : Leaf} {v : Value} {out : Out} (hx : LeafOk S c w (Kok b S c) x v) (h : (convT ti (ti s) (ti t) d x).ev S = some out) :
    ∃ r w', (convert s t v).run P w = .ok r w' ∧ Did b S c w out r w' := by
  unfold convT at h
  split at h
  · rename_i k0 k k' n hs ht
    simp only [Tr.ev, Option.some.injEq] at h
    subst h
    obtain rfl := int_leaf hx
    refine ⟨.int k (k.wrap n), w, ?_, Did.same hi (sv_leaf mk_int)⟩
    simp [convert, run_underlying (cell_int hT hs), run_underlying (cell_int hT ht), Conv.intToInt]
  · rename_i s' hs ht
    simp only [Tr.ev, Option.some.injEq] at h
    subst h
    obtain rfl := str_leaf hx
    refine ⟨_, w, ?_, Did.same hi (sv_leaf mk_str)⟩
    simp [convert, run_underlying (cell_str hT hs), run_underlying (cell_str hT ht)]
  · rename_i e ts bytes s' hs ht
    split at h
    · rename_i he
      simp only [Tr.ev, Option.some.injEq] at h
      subst h
      obtain rfl := str_leaf hx
      obtain ⟨h1, _⟩ := hT.slice ht
      have hrun := run_bytes_of_string (P := P) w s t e ⟨s'.toArray⟩ (cell_str hT hs) h1 (cell_int hT he)
      have hge := grownCap_ge w (ByteArray.mk s'.toArray).size 0 e
      generalize grownCap w (ByteArray.mk s'.toArray).size 0 e = gc at hrun hge
      have hsz : (ByteArray.mk s'.toArray).size = s'.length := by simp [ByteArray.size]
      have hrow : bytesRow ⟨s'.toArray⟩ gc = (byteCells ⟨s'.toArray⟩).toArray ++ Array.replicate (gc - s'.length) (.int .u8 0) := by
        simp only [bytesRow, hsz, byteCells]
        congr 1
        apply Array.ext'
        simp
      have hbl : (byteCells ⟨s'.toArray⟩).length = s'.length := by rw [byteCells_length, hsz]
      rw [hrow, hsz] at hrun
      rw [hsz] at hge
      generalize hcs : (byteCells ⟨s'.toArray⟩).toArray ++ Array.replicate (gc - s'.length) (Value.int .u8 0) = cs at hrun
      have hcz : cs.size = gc := by rw [← hcs]; simp [hbl]; omega
      have hst : Step w (w.drew.alloc (.cells cs e (cs.size, cs.size + 1))) (fun _ => False) := by
        exact ⟨rfl, rfl, rfl, (by show w.heap.size ≤ (w.heap.push _).size; simp), fun g hg _ => (by show (w.heap.push _)[g]? = _; simp [Array.getElem?_push, show ¬ (g = w.heap.size) by omega])⟩
      refine ⟨_, _, hrun, ?_⟩
      refine ownOut_did hi (kd d 0) ⟨e, .int .u8, bytesOf s'⟩ [] (fun k hk => (by cases hk)) (F' := [w.heap.size]) (hst.mono fun _ h => h.elim) ?_ (by simp) ?_
      · intro g hg
        simp only [List.mem_singleton] at hg
        subst hg
        exact ⟨by show w.heap.size < (w.heap.push _).size; simp, .inr (Nat.le_refl _)⟩
      · intro K' _ _
        have hlen : (bytesOf s').length = s'.length := by simp [bytesOf]
        rw [Rp]
        refine .inr ⟨w.heap.size, 0, gc, cs, (cs.size, cs.size + 1), [], by rw [hlen], rfl, push_new w _, ⟨by intro i hi hx; omega, fun h => absurd rfl h, fun h => (by cases h)⟩, by simp [Ty.size, hcz], by rw [hlen]; exact hge, ?_⟩
        have : (cs.toList.drop 0).take ((bytesOf s').length * Ty.size (.int .u8)) = byteCells ⟨s'.toArray⟩ := by
          rw [← hcs, List.drop_zero, Array.toList_append, List.take_append_of_le_length (by simp [hbl, hlen, Ty.size])]
          apply List.take_of_length_le
          simp [hbl, hlen, Ty.size]
        rw [this]
        exact bytes_rep s'
    · simp [Tr.ev] at h
  · rename_i e ts bytes hs ht
    split at h
    · rename_i he
      simp only [Tr.ev, Option.some.injEq] at h
      subst h
      obtain rfl : v = .slice none 0 0 := hx
      obtain ⟨h1, _⟩ := hT.slice hs
      exact ⟨_, w, run_convert_bytes_nil w s e h1 (cell_int hT he) 0 0 t (cell_str hT ht), Did.same hi (sv_leaf (mk_str (n := [])))⟩
    · simp [Tr.ev] at h
  · rename_i hs ht _
    split at h
    · rename_i he
      simp only [ev_bind, Option.bind_eq_some_iff] at h
      obtain ⟨o, ho, h⟩ := h
      split at h
      · rename_i oe xs
        simp only [Tr.ev, Option.some.injEq] at h
        subst h
        obtain ⟨A, cap, ws, F', rfl, hr, hxs⟩ := data_read hi hx ho
        obtain ⟨h1, _⟩ := hT.slice hs
        have hws := u8_cells _ hr
        refine ⟨.string ⟨(textOf xs).toArray⟩, w, ?_, Did.same hi (sv_leaf mk_str)⟩
        cases A with
        | none =>
          rcases hxs with hxs | ⟨ad, h, _⟩
          · simp only at hxs
            subst hxs
            exact run_convert_bytes_nil w s _ h1 (cell_int hT he) _ cap t (cell_str hT ht)
          · cases h
        | some a =>
          rw [run_convert_bytes_string w s t _ (some a) _ cap h1 (cell_int hT he) (cell_str hT ht)]
          have hl : (loadCells a (List.length xs)).run P w = .ok (xs.map (Value.int .u8)).toArray w := by
            have := run_loadCells_list (P := P) w a (xs.map (Value.int .u8)) (fun j u hu => by
              have hj := (List.getElem?_eq_some_iff.1 hu).1
              rcases hxs with hxs | ⟨ad, h, _, h2⟩
              · simp only at hxs; subst hxs; simp at hj
              · injection h with h; subst h
                rw [h2 j (by rw [hws]; exact hj), hws]; exact hu)
            simpa using this
          rw [run_bytesToString w a _ cap xs hl, text_fold]
      · simp [Tr.ev] at h
    · simp [Tr.ev] at h
  · simp [Tr.ev] at h
theorem minmax_ok {K : Nat → Prop} {f : Builtin} {xs : List SV} {us : List Value} {r : SV} (ts : Array TypeId) (t : TypeId) (hx : All2 (SVOk S c w K) xs us) (h : (minmax f xs).ev S = some r) :
    (f = .min ∧ ∃ u, (Builtin.min_ ts t us.toArray).run P w = .ok u w ∧ SVOk S c w K r u) ∨ (f = .max ∧ ∃ u, (Builtin.max_ ts t us.toArray).run P w = .ok u w ∧ SVOk S c w K r u) := by
  unfold minmax at h
  split at h
  · rename_i k x k' y
    cases hx with
    | cons h1 h2 =>
      cases h2 with
      | cons h2 h3 =>
        cases h3
        obtain rfl := int_leaf (leaf_sv h1)
        obtain rfl := int_leaf (leaf_sv h2)
        split at h
        · rename_i hk
          subst hk
          split at h
          · simp only [Tr.ev, Option.some.injEq] at h
            subst h
            refine .inl ⟨rfl, .int k (if (y : Int) < x then y else x), ?_, sv_leaf mk_int⟩
            simp [Builtin.min_, Builtin.min2]
          · simp only [Tr.ev, Option.some.injEq] at h
            subst h
            refine .inr ⟨rfl, .int k (if (x : Int) < y then y else x), ?_, sv_leaf mk_int⟩
            simp [Builtin.max_, Builtin.max2]
          · simp [Tr.ev] at h
        · simp [Tr.ev] at h
  · simp [Tr.ev] at h
theorem index_str {K : Nat → Prop} {t : TypeId} {s : List UInt8} {k : IntKind} {i : Int} {u : UInt8} (ht : P.underlying t = some .string) (h0 : 0 ≤ i) (hu : s[i.toNat]? = some u) :
    (Instr.index t (.string ⟨s.toArray⟩) (.int k i)).run P w = .ok (.int .u8 (u.toNat : Nat)) w ∧ SVOk S c w K (.s (.one (.v (.int .u8) ((UInt8.toNat u : Nat) : Int)))) (.int .u8 (u.toNat : Nat)) := by
  refine ⟨?_, sv_leaf mk_int⟩
  have hlt : i.toNat < s.length := (List.getElem?_eq_some_iff.1 hu).1
  rw [run_index_string w t _ k i ht, dif_pos ⟨h0, by simp only [ByteArray.size, List.size_toArray]; omega⟩]
  have hs : s[i.toNat] = u := by
    have := List.getElem?_eq_getElem hlt
    rw [hu] at this
    injection this with this
    exact this.symm
  congr 2
  rw [← hs]
  rfl
end
end Go.V

namespace Go.V
open Go.RowKit
def Goes (P : Program) (o : Oper) (a : Act) (w : World) (post : Value → World → Prop) : Prop :=
  ∀ (next : Act → World → Prop) (Q : Exit → Act → World → Prop), (∀ v w', post v w' → next (a.put o.dst v) w') → o.wp P a w next Q
section
variable {P : Program} {E : Env} {b : Base} {S : St} {c : Cc} {w : World} {a : Act} {o : Oper} {post : Value → World → Prop}
theorem goes_value {s : Sem Value} (he : execOp a.eval o = (do pure (.value (← s)))) (hr : ∃ v w', s.run P w = .ok v w' ∧ post v w') : Goes P o a w post := by
  intro next Q h
  obtain ⟨v, w', h1, h2⟩ := hr
  unfold Oper.wp
  rw [he]
  simp only [Sem.run_bind, h1, Result.andThen_ok, Sem.run_pure]
  exact h v w' h2
theorem goes_unit {s : Sem Unit} (he : execOp a.eval o = (do s; pure .skip)) (hr : ∃ w', s.run P w = .ok () w' ∧ post undef w') : Goes P o a w post := by
  intro next Q h
  obtain ⟨w', h1, h2⟩ := hr
  unfold Oper.wp
  rw [he]
  simp only [Sem.run_bind, h1, Result.andThen_ok, Sem.run_pure]
  exact h undef w' h2
theorem goes_now {v : Value} (he : execOp a.eval o = pure (.value v)) (hr : post v w) : Goes P o a w post := by
  intro next Q h
  unfold Oper.wp
  rw [he, Sem.run_pure]
  exact h v w hr
theorem goes_some (hr : ∃ v w', (execOp a.eval o).run P w = .ok (.value v) w' ∧ post v w') : Goes P o a w post := by
  intro next Q h
  obtain ⟨v, w', h1, h2⟩ := hr
  unfold Oper.wp
  rw [h1]
  exact h v w' h2
theorem vbin_val {K : Nat → Prop} {op : BinOp} {x y l : Leaf} {u : Value} (hx : LeafOk S c w K x u) (h : (vbin op x y).ev S = some l) : u.oneCell' = true ∧ u ≠ .nilIface := by
  unfold vbin at h
  split at h
  · obtain rfl := int_leaf hx; exact ⟨rfl, by simp⟩
  · obtain rfl := bool_leaf hx; exact ⟨rfl, by simp⟩
  · obtain rfl := str_leaf hx; exact ⟨rfl, by simp⟩
  · simp [Tr.ev] at h
theorem parts_all {N : Nat} {K : Nat → Prop} (hs : Slots N S c w K a) : ∀ (ps : List (Nat × Operand)), All2 (fun (p : Nat × SV) u => SVOk S c w K p.2 u) (ps.map fun p => (p.1, opnd S p.2)) (ps.map fun p => a.eval p.2)
  | [] => .nil
  | p :: ps => .cons (opnd_ok hs p.2) (parts_all hs ps)
theorem parts_zip {S : St} {a : Act} : ∀ (ps : List (Nat × Operand)), ps.map (fun (p : Nat × Operand) => (p.1, a.eval p.2)) = ((ps.map fun p => (p.1, opnd S p.2)).map (·.1)).zip (ps.map fun p => a.eval p.2)
  | [] => rfl
  | p :: ps => by simp [parts_zip (S := S) (a := a) ps]
theorem parts_arr {a : Act} (ps : Array (Nat × Operand)) : (ps.map fun (i, x) => (i, a.eval x)) = (ps.toList.map fun p => (p.1, a.eval p.2)).toArray := by
  apply Array.ext'
  simp
theorem args_all {N : Nat} {K : Nat → Prop} (hs : Slots N S c w K a) : ∀ (ps : List Operand), All2 (SVOk S c w K) (ps.map (opnd S)) (ps.map a.eval)
  | [] => .nil
  | p :: ps => .cons (opnd_ok hs p) (args_all hs ps)
theorem builtin_goes {N : Nat} {f : Builtin} {args : Array Operand} {ts : Array TypeId} {dst : Option Tmp} {ty : TypeId} {pos : String} {aft : Array Edge} {gd : Option (Nat × Bool)} {s : Sem Value} (_ : Slots N S c w (Kok b S c) a)
    (he : ∀ consts, builtin f ts ty consts (args.map a.eval) = (do pure (.value (← s)))) (hr : ∃ v w', s.run P w = .ok v w' ∧ post v w') : Goes P ⟨dst, .call ⟨.builtin f, args, ts⟩, ty, pos, aft, gd⟩ a w post := by
  intro next Q h
  obtain ⟨v, w', h1, h2⟩ := hr
  unfold Oper.wp
  simp only [execOp, resolve, Sem.run_bind, Sem.run_pure, Result.andThen_ok, invoke, he, h1]
  exact h v w' h2
theorem pls_all {K : Nat → Prop} : ∀ {xs : List SV} {vs : List Value} {l : List (Nat × Nat)}, All2 (SVOk S c w K) xs vs → plsOf xs = some l → All2 (PlOk S c) l vs
  | [], _, l, .nil, h => by
    simp only [plsOf, Option.some.injEq] at h
    subst h; exact .nil
  | x :: xs, _, l, .cons (b := v) (bs := vs) h1 h2, h => by
    unfold plsOf at h
    split at h
    · rename_i e; cases e
    · rename_i k off xs' e
      injection e with e1 e2
      subst e1 e2
      split at h
      · rename_i l' hl'
        simp only [Option.some.injEq] at h
        subst h
        exact .cons h1 (pls_all h2 hl')
      · cases h
    · cases h
theorem nil_ok (hi : Inv b S w c) {x l : Leaf} {v : Value} (hx : LeafOk S c w (Kok b S c) x v) (h : (nilT x).ev S = some l) :
    ∃ A n cap, v = .slice A n cap ∧ LeafOk S c w (Kok b S c) l (.bool A.isNone) := by
  unfold nilT at h
  split at h
  · simp only [Tr.ev, Option.some.injEq] at h
    subst h
    exact ⟨none, 0, 0, hx, mk_bool⟩
  · rename_i o e r xs
    simp only [Tr.ev, Option.some.injEq] at h
    subst h
    have hd : (dataT (.v (.sl o e r) xs)).ev S = some ⟨e, r, xs⟩ := by cases o <;> rfl
    obtain ⟨A, cap, ws, F', rfl, hr, hz⟩ := data_read hi hx hd
    refine ⟨A, _, cap, rfl, _, rfl, fun hA => ?_⟩
    rcases hz with hz | ⟨ad, h1, _⟩
    · simp only at hz; rw [hz]; rfl
    · rw [h1] at hA; cases hA
  · rename_i k st win
    simp only [ev_bind, Option.bind_eq_some_iff, Tr.ev, Option.some.injEq] at h
    obtain ⟨o, ho, rfl⟩ := h
    obtain ⟨A, cap, ws, F', rfl, hr, hz⟩ := data_read hi hx (show (dataT (.vw k st win)).ev S = some o from ho)
    refine ⟨A, _, cap, rfl, _, rfl, fun hA => ?_⟩
    rcases hz with hz | ⟨ad, h1, _⟩
    · rw [hz]; rfl
    · rw [h1] at hA; cases hA
  · simp [Tr.ev] at h
theorem core_ok (hT : TabOk P E.ti) {N : Nat} (hi : Inv b S w c) (hs : Slots N S c w (Kok b S c) a) (o : Oper) {d : Nat} (hdn : d < b.n1) {out : Out}
    (hcall : ∀ fo f cs args ts out, o.op = .call ⟨.value fo, args, ts⟩ → opnd S fo = .s (.fv f cs) → args.size = ts.size → (callT E d f cs ((args.toList.map (opnd S)).zip ts.toList)).ev S = some out → Goes P o a w fun v w' => Did b S c w out v w')
    (h : (core E (opnd S) d o.op).ev S = some out) : Goes P o a w fun v w' => Did b S c w out v w' := by
  obtain ⟨dst, op, ty, pos, aft, gd⟩ := o
  simp only at h hcall
  unfold core at h
  split at h
  · rename_i x
    split at h
    · simp [Tr.ev] at h
    · simp [Tr.ev] at h
    · simp only [Tr.ev, Option.some.injEq] at h
      subst h
      exact goes_now rfl (Did.same hi (opnd_ok hs x))
  · rename_i x
    split at h
    · simp [Tr.ev] at h
    · simp [Tr.ev] at h
    · simp only [Tr.ev, Option.some.injEq] at h
      subst h
      exact goes_now rfl (Did.same hi (opnd_ok hs x))
  · rename_i cc x y
    split at h
    · rename_i cb hc
      have hb : a.eval cc = .bool cb := by
        have := opnd_ok hs cc
        rw [hc] at this
        exact bool_leaf (leaf_sv this)
      simp only [Tr.ev] at h
      refine goes_some ⟨if cb then a.eval x else a.eval y, w, ?_, ?_⟩
      · simp [execOp, hb, asBool]
      · split at h
        · rename_i hcb
          rw [if_pos hcb]
          split at h
          · simp [Tr.ev] at h
          · simp [Tr.ev] at h
          · simp only [Tr.ev, Option.some.injEq] at h
            subst h
            exact Did.same hi (opnd_ok hs x)
        · rename_i hcb
          rw [if_neg hcb]
          split at h
          · simp [Tr.ev] at h
          · simp [Tr.ev] at h
          · simp only [Tr.ev, Option.some.injEq] at h
            subst h
            exact Did.same hi (opnd_ok hs y)
    · simp [Tr.ev] at h
  · rename_i t
    split at h
    · rename_i ts ht
      simp only [Tr.ev, Option.some.injEq] at h
      subst h
      exact goes_value rfl (alloc_ok hT hi ht d hdn)
    · simp [Tr.ev] at h
  · rename_i t x
    split at h
    · rename_i ts ls ht hl
      split at h
      · simp only [Tr.ev, Option.some.injEq] at h
        subst h
        exact goes_value rfl (box_ok hi (opnd_ok hs x) hl d hdn)
      · simp [Tr.ev] at h
    · split at h
      · rename_i e u y ht hx
        simp only [Tr.ev, Option.some.injEq] at h
        subst h
        have hv := opnd_ok hs x
        rw [hx] at hv
        exact goes_value rfl (box_ptr_ok hi hv d hdn)
      · simp [Tr.ev] at h
  · rename_i t ps
    split at h
    · rename_i fs row eq ht
      split at h
      · rename_i ls hl
        simp only [Tr.ev, Option.some.injEq] at h
        subst h
        obtain ⟨u, h1, h2⟩ := build_ok (P := P) hT hi ht (parts_all hs ps.toList) (parts_zip ps.toList) hl
        rw [← parts_arr] at h1
        exact goes_value rfl ⟨u, w, h1, Did.same hi h2⟩
      · simp [Tr.ev] at h
    · simp [Tr.ev] at h
  · rename_i t len ps
    obtain ⟨u, w', h1, h2⟩ := buildSlice_ok (P := P) hT hi (parts_all hs ps.toList) (parts_zip ps.toList) h
    rw [← parts_arr] at h1
    exact goes_value rfl ⟨u, w', h1, h2⟩
  · rename_i t x
    split at h
    · rename_i a1 ts hx ht
      split at h
      · simp [Tr.ev] at h
      · rename_i hne
        simp only [ev_bind, Option.bind_eq_some_iff] at h
        obtain ⟨r, hr, h⟩ := h
        simp only [Tr.ev, Option.some.injEq] at h
        subst h
        have hv := opnd_ok hs x
        rw [hx] at hv
        have hpos : 0 < ts.length := by
          cases ts with
          | nil => simp at hne
          | cons _ _ => simp
        obtain ⟨u, h1, h2⟩ := load_ok (P := P) hT hi hv ht hr hpos
        exact goes_value rfl ⟨u, w, h1, Did.same hi h2⟩
    · rename_i a1 hx hn
      split at h
      · rename_i e ht
        simp only [ev_bind, Option.bind_eq_some_iff] at h
        obtain ⟨l, hl, h⟩ := h
        split at h
        · rename_i u o'
          cases o' with
          | none => simp [Tr.ev] at h
          | some y =>
            simp only [Tr.ev, Option.bind_some, Option.some.injEq] at h
            subst h
            have hv := opnd_ok hs x
            rw [hx] at hv
            obtain ⟨r, h1, h2⟩ := load_ptr_ok (P := P) hT hi hv ht hl
            exact goes_value rfl ⟨r, w, h1, Did.same hi h2⟩
        · simp [Tr.ev] at h
      · simp [Tr.ev] at h
    · simp [Tr.ev] at h
  · rename_i t p x
    split at h
    · rename_i a1 ts ls hx ht hl
      split at h
      · rename_i hn
        simp only [ev_bind, Option.bind_eq_some_iff, Tr.ev, Option.some.injEq] at h
        obtain ⟨r, hr, h⟩ := h
        subst h
        have hv := opnd_ok hs p
        rw [hx] at hv
        match a1, hv, hr with
        | .pl k off, hv, hr => exact goes_unit rfl (stPl_ok hT hi hv ht (opnd_ok hs x) hl hn hr)
        | .el k st, hv, hr => exact goes_unit rfl (stEl_ok hT hi hv ht (opnd_ok hs x) hl hn hr)
        | .one _, _, hr => simp [stCells, Tr.ev] at hr
        | .ag _, _, hr => simp [stCells, Tr.ev] at hr
        | .rp _ _ _, _, hr => simp [stCells, Tr.ev] at hr
        | .fv _ _, _, hr => simp [stCells, Tr.ev] at hr
      · simp [Tr.ev] at h
    · simp [Tr.ev] at h
  · rename_i x
    have hx := opnd_ok hs x
    split at h
    all_goals first
      | (simp [Tr.ev] at h; done)
      | skip
    · rename_i k off he
      simp only [Tr.ev, Option.some.injEq] at h
      subst h
      rw [he] at hx
      have hx' := hx
      obtain ⟨m, hm, hv⟩ := hx'
      refine goes_now (v := a.eval x) ?_ (Did.same hi hx)
      simp only [execOp, hv]
    · rename_i k st he
      simp only [Tr.ev, Option.some.injEq] at h
      subst h
      rw [he] at hx
      have hx' := hx
      obtain ⟨o0, ad, ho, had, hv, _⟩ := hx'
      refine goes_now (v := a.eval x) ?_ (Did.same hi hx)
      simp only [execOp, hv]
    · rename_i u y off he
      simp only [Tr.ev, Option.some.injEq] at h
      subst h
      rw [he] at hx
      have hx' := hx
      obtain ⟨ad, vs, hv, _⟩ := hx'
      refine goes_now (v := a.eval x) ?_ (Did.same hi hx)
      simp only [execOp, hv]
  · rename_i op t x y z
    split at h
    · rename_i l1 hx hy
      split at h
      · split at h
        · rename_i hsl
          simp only [ev_bind, Option.bind_eq_some_iff, Tr.ev, Option.some.injEq] at h
          obtain ⟨l, hl, h⟩ := h
          subst h
          have h1 := opnd_ok hs x
          have h2 := opnd_ok hs y
          rw [hx] at h1
          rw [hy] at h2
          obtain ⟨A, n, cap, hv, hlf⟩ := nil_ok hi (leaf_sv h1) hl
          have hy0 : a.eval y = .slice none 0 0 := h2
          obtain ⟨e, _, hu, _⟩ := sl_under' hT hsl
          refine goes_value rfl ⟨.bool A.isNone, w, ?_, Did.same hi (sv_leaf hlf)⟩
          rw [hv, hy0, guard_one .eql t x y rfl (by simp)]
          simp only [Sem.run_bind, Sem.run_pure, Result.andThen_ok]
          exact Lib.run_eql_slice_nil w t e A n cap 0 0 hu
        · simp [Tr.ev] at h
      · simp [Tr.ev] at h
    · rename_i l1 l2 _ hx hy
      split at h
      · rename_i hb
        simp only [ev_bind, Option.bind_eq_some_iff, Tr.ev, Option.some.injEq] at h
        obtain ⟨l, hl, h⟩ := h
        subst h
        have h1 := opnd_ok hs x
        have h2 := opnd_ok hs y
        rw [hx] at h1
        rw [hy] at h2
        obtain ⟨r, h3, h4⟩ := vbin_ok (P := P) op t l1 l2 _ _ l (leaf_sv h1) (leaf_sv h2) hl (fun q hq => by
          subst hq
          cases ht : E.ti t with
          | cell u =>
            cases u with
            | bool => exact cell_bool hT ht
            | _ => rw [ht] at hb; simp [boolOk] at hb
          | _ => rw [ht] at hb; simp [boolOk] at hb)
        obtain ⟨g1, g2⟩ := vbin_val (leaf_sv h1) hl
        refine goes_value rfl ⟨r, w, ?_, Did.same hi (sv_leaf h4)⟩
        rw [guard_one op t x y g1 g2]
        simpa using h3
      · simp [Tr.ev] at h
    · rename_i xs ys hx hy
      have h1 := opnd_ok hs x
      have h2 := opnd_ok hs y
      rw [hx] at h1
      rw [hy] at h2
      obtain ⟨us, e1, k1⟩ := h1
      obtain ⟨vs, e2, k2⟩ := h2
      split at h
      · rename_i fs row ht
        obtain ⟨fields, f1, f2, f3, _⟩ := hT.struct ht
        obtain ⟨f4, f5, f6, f7⟩ := f3 rfl
        have hfo : P.fieldsOf t = fields := by simp [Program.fieldsOf, f1]
        split at h
        · rename_i r hr
          simp only [Tr.ev, Option.some.injEq] at h
          subst h
          have := agg_eql (w := w) t us vs fields f1 f6 (aggEq_ok (w := w) row fields.toList fs 0 xs ys us vs [] [] f4 f2 f5 rfl rfl k1 k2 hr)
          refine goes_value rfl ⟨.bool r, w, ?_, Did.same hi (sv_leaf mk_bool)⟩
          rw [e1, e2]
          simp only [Sem.run_bind, run_eqGuard_agg w _ _ _ _ _ _ f7, Result.andThen_ok, this.1]
        · rename_i r hr
          simp only [Tr.ev, Option.some.injEq] at h
          subst h
          have := agg_eql (w := w) t us vs fields f1 f6 (aggEq_ok (w := w) row fields.toList fs 0 xs ys us vs [] [] f4 f2 f5 rfl rfl k1 k2 hr)
          refine goes_value rfl ⟨.bool (!r), w, ?_, Did.same hi (sv_leaf mk_bool)⟩
          rw [e1, e2]
          simp only [Sem.run_bind, run_eqGuard_agg w _ _ _ _ _ _ f7, Result.andThen_ok, this.2]
        · simp [Tr.ev] at h
      · simp [Tr.ev] at h
    · simp [Tr.ev] at h
  · rename_i op t x
    split at h
    · rename_i l1 hx
      simp only [ev_bind, Option.bind_eq_some_iff, Tr.ev, Option.some.injEq] at h
      obtain ⟨l, hl, h⟩ := h
      subst h
      have h1 := opnd_ok hs x
      rw [hx] at h1
      obtain ⟨r, h3, h4⟩ := vun_ok (P := P) op l1 _ l (leaf_sv h1) hl
      exact goes_value rfl ⟨r, w, h3, Did.same hi (sv_leaf h4)⟩
    · simp [Tr.ev] at h
  · rename_i s t x
    split at h
    · rename_i l1 hx
      have h1 := opnd_ok hs x
      rw [hx] at h1
      exact goes_value rfl (conv_ok hT hi (leaf_sv h1) h)
    · simp [Tr.ev] at h
  · rename_i t l m
    exact goes_value rfl (makeSlice_ok hT hi (opnd_ok hs l) (opnd_ok hs m) h)
  · rename_i t x lo hi' mx
    split at h
    · rename_i l1 hx
      simp only [ev_bind, Option.bind_eq_some_iff, Tr.ev, Option.some.injEq] at h
      obtain ⟨r, hr, h⟩ := h
      subst h
      have h1 := opnd_ok hs x
      rw [hx] at h1
      obtain ⟨u, h2, h3⟩ := slice_ok (P := P) hT hi hs (leaf_sv h1) hr
      exact goes_value rfl ⟨u, w, h2, Did.same hi h3⟩
    · simp [Tr.ev] at h
  · rename_i t x f
    split at h
    · rename_i fs row eq ht
      have h1 := opnd_ok hs x
      split at h
      all_goals first
        | (simp [Tr.ev] at h; done)
        | skip
      · rename_i hf hx
        simp only [Tr.ev, Option.some.injEq] at h
        subst h
        rw [hx] at h1
        obtain ⟨u, h2, h3⟩ := fieldAddr_ok (P := P) hT ht hf h1 (.inl ⟨_, _, rfl, rfl⟩)
        exact goes_value rfl ⟨u, w, h2, Did.same hi h3⟩
      · rename_i hf hx
        simp only [Tr.ev, Option.some.injEq] at h
        subst h
        rw [hx] at h1
        obtain ⟨u, h2, h3⟩ := fieldAddr_ok (P := P) hT ht hf h1 (.inr (.inl ⟨_, _, rfl, rfl⟩))
        exact goes_value rfl ⟨u, w, h2, Did.same hi h3⟩
      · rename_i hf hx
        simp only [Tr.ev, Option.some.injEq] at h
        subst h
        rw [hx] at h1
        obtain ⟨u, h2, h3⟩ := fieldAddr_ok (P := P) hT ht hf h1 (.inr (.inr ⟨_, _, _, rfl, rfl⟩))
        exact goes_value rfl ⟨u, w, h2, Did.same hi h3⟩
    · simp [Tr.ev] at h
  · rename_i t x f
    split at h
    · rename_i fs row eq ls ht hx
      have h1 := opnd_ok hs x
      rw [hx] at h1
      split at h
      · rename_i o n hf
        simp only [Tr.ev, Option.some.injEq] at h
        subst h
        obtain ⟨u, h2, h3⟩ := field_ok (P := P) (w := w) hT ht hf h1 (r := .s (.ag ((ls.drop o).take n))) (by simp)
        exact goes_value rfl ⟨u, w, h2, Did.same hi h3⟩
      · rename_i o n hf
        split at h
        · rename_i l hl
          simp only [Tr.ev, Option.some.injEq] at h
          subst h
          obtain ⟨u, h2, h3⟩ := field_ok (P := P) (w := w) hT ht hf h1 (r := .s (.one l)) (by simpa using hl)
          exact goes_value rfl ⟨u, w, h2, Did.same hi h3⟩
        · simp [Tr.ev] at h
      · simp [Tr.ev] at h
    · simp [Tr.ev] at h
  · rename_i t x i
    split at h
    · rename_i l1 k n hx hn
      simp only [ev_bind, Option.bind_eq_some_iff, Tr.ev, Option.some.injEq] at h
      obtain ⟨r, hr, h⟩ := h
      subst h
      have h1 := opnd_ok hs x
      have h2 := opnd_ok hs i
      rw [hx] at h1
      rw [hn] at h2
      obtain ⟨u, h3, h4⟩ := index_ok (P := P) (k := k) hT hi (leaf_sv h1) hr
      refine goes_value (s := Instr.indexAt t (a.eval x) (a.eval i)) rfl ⟨u, w, ?_, Did.same hi h4⟩
      rw [int_leaf (leaf_sv h2)]; exact h3
    · simp [Tr.ev] at h
  · rename_i t x i
    split at h
    · rename_i s k n hx hn
      replace h := ev_iff h
      obtain ⟨c1, h⟩ := h
      replace h := ev_iff h
      obtain ⟨c2, h⟩ := h
      simp only [decide_eq_true_eq] at c2
      simp only [Tr.ev, Option.bind_eq_some_iff, Option.some.injEq] at h
      obtain ⟨u, hu, h⟩ := h
      subst h
      have h1 := opnd_ok hs x
      have h2 := opnd_ok hs i
      rw [hx] at h1
      rw [hn] at h2
      obtain ⟨h3, h4⟩ := index_str (P := P) (S := S) (c := c) (w := w) (K := Kok b S c) (k := k) (str_under hT c1) c2 hu
      refine goes_value (s := Instr.index t (a.eval x) (a.eval i)) rfl ⟨_, w, ?_, Did.same hi h4⟩
      rw [int_leaf (leaf_sv h2), str_leaf (leaf_sv h1)]; exact h3
    · simp [Tr.ev] at h
  · rename_i x i
    split at h
    · rename_i xs hx
      split at h
      · rename_i y hy
        simp only [Tr.ev, Option.some.injEq] at h
        subst h
        have h1 := opnd_ok hs x
        rw [hx] at h1
        obtain ⟨vs, hv, hall⟩ := h1
        obtain ⟨u, hu, h2⟩ := hall.get hy
        refine goes_value (s := Instr.extract (a.eval x) i) rfl ⟨u, w, ?_, Did.same hi h2⟩
        rw [hv]
        simp [Instr.extract, hu]
      · simp [Tr.ev] at h
    · simp [Tr.ev] at h
  · rename_i as ts
    split at h
    · rename_i x t has hts
      simp only [ev_bind, Option.bind_eq_some_iff, Tr.ev, Option.some.injEq] at h
      obtain ⟨n, hn, h⟩ := h
      subst h
      have hall := args_all hs as.toList
      rw [has] at hall
      generalize hus : as.toList.map a.eval = us at hall
      cases hall with
      | cons h1 h2 =>
        cases h2
        rename_i u
        have ha : as.map a.eval = #[u] := by apply Array.ext'; simp [hus]
        have ht : ts = #[t] := by apply Array.ext'; simp [hts]
        subst ht
        refine builtin_goes hs (s := Builtin.len_ #[t] ty (as.map a.eval)) (fun _ => rfl) ⟨goInt n, w, ?_, Did.same hi (sv_leaf mk_int)⟩
        rw [ha]
        rcases len_ok hi (leaf_sv h1) hn with ⟨s, rfl, hsz, hst⟩ | ⟨hsl, A, cap, rfl⟩
        · rw [run_len_string w t ty s (str_under hT hst), hsz]
        · obtain ⟨e, ie, hu, _⟩ := sl_under' hT hsl
          simp [Builtin.len_, run_underlying hu]
    · simp [Tr.ev] at h
  · rename_i as ts
    split at h
    · rename_i x y t t2 has hts
      have hall := args_all hs as.toList
      rw [has] at hall
      generalize hus : as.toList.map a.eval = us at hall
      cases hall with
      | cons h1 h2 =>
        cases h2 with
        | cons h2 h3 =>
          cases h3
          rename_i u v
          have ha : as.map a.eval = #[u, v] := by apply Array.ext'; simp [hus]
          have ht : ts = #[t, t2] := by apply Array.ext'; simp [hts]
          subst ht
          refine builtin_goes hs (s := Builtin.append_ #[t, t2] ty (as.map a.eval)) (fun _ => rfl) ?_
          rw [ha]
          exact append_ok hT hi (leaf_sv h1) (leaf_sv h2) h
    · simp [Tr.ev] at h
  · rename_i as ts
    split at h
    · rename_i x y t t2 has hts
      have hall := args_all hs as.toList
      rw [has] at hall
      generalize hus : as.toList.map a.eval = us at hall
      cases hall with
      | cons h1 h2 =>
        cases h2 with
        | cons h2 h3 =>
          cases h3
          rename_i u v
          have ha : as.map a.eval = #[u, v] := by apply Array.ext'; simp [hus]
          have ht : ts = #[t, t2] := by apply Array.ext'; simp [hts]
          subst ht
          refine builtin_goes hs (s := Builtin.copy_ #[t, t2] ty (as.map a.eval)) (fun _ => rfl) ?_
          rw [ha]
          exact copy_ok hT hi (leaf_sv h1) (leaf_sv h2) h
    · simp [Tr.ev] at h
  · rename_i as ts
    simp only [ev_bind, Option.bind_eq_some_iff, Tr.ev, Option.some.injEq] at h
    obtain ⟨r, hr, h⟩ := h
    subst h
    have ha : as.map a.eval = (as.toList.map a.eval).toArray := by apply Array.ext'; simp
    rcases minmax_ok (P := P) (w := w) ts ty (args_all hs as.toList) hr with ⟨_, u, h1, h2⟩ | ⟨h0, _⟩
    · refine builtin_goes hs (s := Builtin.min_ ts ty (as.map a.eval)) (fun _ => rfl) ⟨u, w, ?_, Did.same hi h2⟩
      rw [ha]; exact h1
    · cases h0
  · rename_i as ts
    simp only [ev_bind, Option.bind_eq_some_iff, Tr.ev, Option.some.injEq] at h
    obtain ⟨r, hr, h⟩ := h
    subst h
    have ha : as.map a.eval = (as.toList.map a.eval).toArray := by apply Array.ext'; simp
    rcases minmax_ok (P := P) (w := w) ts ty (args_all hs as.toList) hr with ⟨h0, _⟩ | ⟨_, u, h1, h2⟩
    · cases h0
    · refine builtin_goes hs (s := Builtin.max_ ts ty (as.map a.eval)) (fun _ => rfl) ⟨u, w, ?_, Did.same hi h2⟩
      rw [ha]; exact h1
  · rename_i fo as ts
    split at h
    · rename_i f cs hfo
      split at h
      · rename_i hsz
        exact hcall fo f cs as ts out rfl hfo hsz h
      · simp [Tr.ev] at h
    · simp [Tr.ev] at h
  · rename_i f first cs
    split at h
    · rename_i hf
      split at h
      · rename_i l hl
        simp only [Tr.ev, Option.some.injEq] at h
        subst h
        have hfirst : first = #[] := by simpa [Array.isEmpty_iff] using hf
        subst hfirst
        refine goes_value rfl ⟨_, w, rfl, Did.same hi ?_⟩
        refine ⟨cs.toList.map a.eval, by congr 1 <;> (apply Array.ext'; simp), ?_⟩
        have hall := args_all hs cs.toList
        revert hl hall
        generalize cs.toList.map (opnd S) = xs
        generalize cs.toList.map a.eval = vs
        intro hl hall
        exact pls_all hall hl
      · simp [Tr.ev] at h
    · simp [Tr.ev] at h
  · simp [Tr.ev] at h
end
end Go.V

namespace Go.V
open Go.RowKit
structure New where
  o : Own
  h : Value
  F : List Nat
theorem Inv.many {b : Base} {S S' : St} {c : Cc} {w w' : World} (hi : Inv b S w c) (news : Nat → Option New) (gs rws : List Nat) (ks : List Kl)
    (how : ∀ k, S'.ow k = match news k with | some n => some n.o | none => if k ∈ gs then none else S.ow k) (hms : S'.ms = S.ms) (hmc : ∀ k i, k ∉ rws → S'.mc k i = (S.mc k i).kp ks)
    (hgs : ∀ k o, S.ow k = some o → (k ∈ gs ∨ news k ≠ none) → .all k ∈ ks ∨ (.deep k ∈ ks ∧ ∃ n xs', news k = some n ∧ n.h = c.hv k ∧ n.o = ⟨o.e, o.r, xs'⟩ ∧ xs'.length = o.xs.length))
    (hst : Step w w' fun g => (∃ k, k ∈ gs ∧ S.ow k ≠ none ∧ g ∈ c.F k) ∨ ∃ k, k ∈ rws ∧ S.ms k ≠ none ∧ c.mb k = g)
    (hF : ∀ k n, news k = some n → ∀ g, g ∈ n.F → g < w'.heap.size ∧ ((∃ k, k ∈ gs ∧ S.ow k ≠ none ∧ g ∈ c.F k) ∨ w.heap.size ≤ g))
    (hnd : ∀ k n, news k = some n → n.F.Nodup) (hdis : ∀ k n k' n', k ≠ k' → news k = some n → news k' = some n' → ∀ g, g ∈ n.F → g ∉ n'.F)
    (hR : ∀ K', KSame w w' (Kok b S c) K' → (∀ g, (w.heap.size ≤ g ∨ ∃ k, k ∈ gs ∧ S.ow k ≠ none ∧ g ∈ c.F k) → (∀ k n, news k = some n → g ∉ n.F) → K' g) → ∀ k n, news k = some n → Rp w' K' (.sl true n.o.e n.o.r) n.o.xs [n.h] n.F)
    (hrow : ∀ K' c', KSame w w' (Kok b S c) K' → (∀ g, (w.heap.size ≤ g ∨ ∃ k, k ∈ gs ∧ S.ow k ≠ none ∧ g ∈ c.F k) → (∀ k n, news k = some n → g ∉ n.F) → K' g) → (∀ k n, news k = some n → c'.hv k = n.h) → ∀ k n, k ∈ rws → S.ms k = some n →
      ∃ cs e fr, w'.heap[c.mb k]? = some (.cells cs e fr) ∧ cs.size = n ∧ NF fr cs.size ∧ ∀ i v, cs[i]? = some v → LeafOk S' c' w' K' (S'.mc k i) v) :
    ∃ c', c'.mb = c.mb ∧ (∀ k n, news k = some n → c'.hv k = n.h ∧ c'.F k = n.F) ∧ Inv b S' w' c' ∧ Stay S S' c c' w w' (Kok b S c) (Kok b S' c') ks ∧
      ∀ g, (w.heap.size ≤ g ∨ ∃ k, k ∈ gs ∧ S.ow k ≠ none ∧ g ∈ c.F k) → (∀ k n, news k = some n → g ∉ n.F) → Kok b S' c' g := by
  let c' : Cc := ⟨c.mb, fun k => match news k with | some n => n.h | none => c.hv k, fun k => match news k with | some n => n.F | none => c.F k⟩
  have hcF : ∀ k, news k = none → c'.F k = c.F k := fun k hk => by simp [c', hk]
  have hch : ∀ k, news k = none → c'.hv k = c.hv k := fun k hk => by simp [c', hk]
  have hcN : ∀ k n, news k = some n → c'.hv k = n.h ∧ c'.F k = n.F := fun k n hk => by simp [c', hk]
  have hT : ∀ g, ((∃ k, k ∈ gs ∧ S.ow k ≠ none ∧ g ∈ c.F k) ∨ ∃ k, k ∈ rws ∧ S.ms k ≠ none ∧ c.mb k = g) → Owned S c g := by
    rintro g (⟨k, _, h1, h2⟩ | ⟨k, _, h1, h2⟩)
    · exact .inr ⟨k, h1, h2⟩
    · exact .inl ⟨k, h1, h2⟩
  have hkept : ∀ k, news k = none → S'.ow k ≠ none → k ∉ gs ∧ S.ow k ≠ none := by
    intro k hk h
    rw [how, hk] at h
    by_cases hg : k ∈ gs
    · simp [hg] at h
    · exact ⟨hg, by simpa [hg] using h⟩
  have hown : ∀ g, Owned S' c' g → Owned S c g ∨ w.heap.size ≤ g := by
    rintro g (⟨k, hk, rfl⟩ | ⟨k, hk, hg⟩)
    · exact .inl (.inl ⟨k, by rw [hms] at hk; exact hk, rfl⟩)
    · cases hn : news k with
      | some n =>
        rw [(hcN k n hn).2] at hg
        rcases (hF k n hn g hg).2 with ⟨k2, h1, h2, h3⟩ | h
        · exact .inl (.inr ⟨k2, h2, h3⟩)
        · exact .inr h
      | none =>
        rw [hcF k hn] at hg
        exact .inl (.inr ⟨k, (hkept k hn hk).2, hg⟩)
  have kk : KSame w w' (Kok b S c) (Kok b S' c') := ksame hst hT hown
  have hsame : ∀ k, k ∉ gs → S.ow k ≠ none → Same w w' (c.F k) := fun k hg ho g hgF => hst.same g (hi.fr g (.inr ⟨k, ho, hgF⟩)).1 (by
    rintro (⟨k2, h1, h2, h3⟩ | ⟨k2, h1, h2, h3⟩)
    · have hne : k ≠ k2 := by rintro rfl; exact hg h1
      exact hi.oo k k2 hne ho h2 g hgF h3
    · subst h3; exact hi.mo k2 k h2 ho hgF)
  have stay : Stay S S' c c' w w' (Kok b S c) (Kok b S' c') ks := by
    refine Stay.of hi ?_ ?_ kk
    · intro k o ho
      have hcase : (k ∈ gs ∨ news k ≠ none) → _ := hgs k o ho
      cases hn : news k with
      | some n =>
        rcases hcase (.inr (by rw [hn]; simp)) with h | ⟨h1, n', xs', h2, h3, h4, h5⟩
        · exact .inl h
        · refine .inr (.inr ⟨h1, ?_, xs', ?_, h5⟩)
          · rw [(hcN k n' h2).1, h3]
          · rw [how, h2]; simp [h4]
      | none =>
        by_cases hg : k ∈ gs
        · rcases hcase (.inl hg) with h | ⟨_, n', _, h2, _⟩
          · exact .inl h
          · rw [hn] at h2; cases h2
        · exact .inr (.inl ⟨by rw [how, hn]; simp [hg, ho], hch k hn, hsame k hg (by rw [ho]; simp)⟩)
    · intro k n hn
      exact .inr ⟨by rw [hms]; exact hn, rfl⟩
  have hfree : ∀ g, (w.heap.size ≤ g ∨ ∃ k, k ∈ gs ∧ S.ow k ≠ none ∧ g ∈ c.F k) → (∀ k n, news k = some n → g ∉ n.F) → Kok b S' c' g := by
    rintro g (hg | ⟨k, hk, hko, hkg⟩) hgF
    · refine ⟨.inr (.inl (Nat.le_trans hi.size hg)), ?_⟩
      rintro (⟨k2, h1, h9⟩ | ⟨k2, h1, h2⟩)
      · rw [hms] at h1
        have := (hi.fr (c.mb k2) (.inl ⟨k2, h1, rfl⟩)).1
        have h8 : c'.mb k2 = c.mb k2 := rfl
        omega
      · cases hn : news k2 with
        | some n => rw [(hcN k2 n hn).2] at h2; exact hgF k2 n hn h2
        | none =>
          rw [hcF k2 hn] at h2
          have := (hi.fr g (.inr ⟨k2, (hkept k2 hn h1).2, h2⟩)).1
          omega
    · refine ⟨.inr (hi.fr g (.inr ⟨k, hko, hkg⟩)).2, ?_⟩
      rintro (⟨k2, h1, h9⟩ | ⟨k2, h1, h2⟩)
      · rw [hms] at h1
        exact hi.mo k2 k h1 hko (by rw [show c.mb k2 = g from h9]; exact hkg)
      · cases hn : news k2 with
        | some n => rw [(hcN k2 n hn).2] at h2; exact hgF k2 n hn h2
        | none =>
          rw [hcF k2 hn] at h2
          have h5 := hkept k2 hn h1
          exact hi.oo k k2 (by rintro rfl; exact h5.1 hk) hko h5.2 g hkg h2
  refine ⟨c', rfl, hcN, ?_, stay, hfree⟩
  refine ⟨?_, ?_, ?_, ?_, ?_, ?_, ?_, hi.fix' hst hT, hst.os.trans hi.os, hst.tape.trans hi.tape, hst.output.trans hi.output, Nat.le_trans hi.size hst.size, hi.an⟩
  · intro k n hn
    rw [hms] at hn
    by_cases hk : k ∈ rws
    · exact hrow _ c' kk hfree (fun k n h => (hcN k n h).1) k n hk hn
    · obtain ⟨cs, e, fr, h1, h2, h3, h4⟩ := hi.ms k n hn
      refine ⟨cs, e, fr, ?_, h2, h3, fun i u hu => by rw [hmc k i hk]; exact stay.leaf (h4 i u hu)⟩
      show w'.heap[c.mb k]? = _
      rw [hst.same _ (lt_size h1) (by
        rintro (⟨k2, _, h5, h6⟩ | ⟨k2, h4, h5, h6⟩)
        · exact hi.mo k k2 (by rw [hn]; simp) h5 h6
        · have hne : k ≠ k2 := by rintro rfl; exact hk h4
          exact hi.mm k k2 hne (by rw [hn]; simp) h5 h6.symm)]
      exact h1
  · intro k o ho
    cases hn : news k with
    | some n =>
      rw [how, hn] at ho
      injection ho with ho
      subst ho
      rw [(hcN k n hn).1, (hcN k n hn).2]
      exact hR _ kk hfree k n hn
    | none =>
      have h1 := hkept k hn (by rw [ho]; simp)
      rw [how, hn] at ho
      simp only [h1.1, if_false] at ho
      rw [hch k hn, hcF k hn]
      exact Rp.frame kk _ _ (hi.ow k o ho) (hsame k h1.1 h1.2)
  · intro k hk
    cases hn : news k with
    | some n => rw [(hcN k n hn).2]; exact hnd k n hn
    | none => rw [hcF k hn]; exact hi.nd k (hkept k hn hk).2
  · intro k1 k2 hne h1 h2 g hg
    cases hn1 : news k1 with
    | some n1 =>
      rw [(hcN k1 n1 hn1).2] at hg
      cases hn2 : news k2 with
      | some n2 => rw [(hcN k2 n2 hn2).2]; exact hdis k1 n1 k2 n2 hne hn1 hn2 g hg
      | none =>
        have h4 := hkept k2 hn2 h2
        rw [hcF k2 hn2]
        rcases (hF k1 n1 hn1 g hg).2 with ⟨k3, h5, h6, h7⟩ | h5
        · have hne3 : k3 ≠ k2 := by rintro rfl; exact h4.1 h5
          exact hi.oo k3 k2 hne3 h6 h4.2 g h7
        · intro hx
          have := (hi.fr g (.inr ⟨k2, h4.2, hx⟩)).1
          omega
    | none =>
      have h3 := hkept k1 hn1 h1
      rw [hcF k1 hn1] at hg
      cases hn2 : news k2 with
      | some n2 =>
        rw [(hcN k2 n2 hn2).2]
        intro hx
        rcases (hF k2 n2 hn2 g hx).2 with ⟨k3, h5, h6, h7⟩ | h5
        · have hne3 : k1 ≠ k3 := by rintro rfl; exact h3.1 h5
          exact hi.oo k1 k3 hne3 h3.2 h6 g hg h7
        · have := (hi.fr g (.inr ⟨k1, h3.2, hg⟩)).1
          omega
      | none =>
        rw [hcF k2 hn2]
        exact hi.oo k1 k2 hne h3.2 (hkept k2 hn2 h2).2 g hg
  · intro k1 k2 hne h1 h2; rw [hms] at h1 h2; exact hi.mm k1 k2 hne h1 h2
  · intro k1 k2 h1 h2
    rw [hms] at h1
    cases hn2 : news k2 with
    | some n2 =>
      rw [(hcN k2 n2 hn2).2]
      intro hx
      rcases (hF k2 n2 hn2 _ hx).2 with ⟨k3, _, h6, h7⟩ | h5
      · exact hi.mo k1 k3 h1 h6 h7
      · have := (hi.fr (c.mb k1) (.inl ⟨k1, h1, rfl⟩)).1
        have h9 : c'.mb k1 = c.mb k1 := rfl
        omega
    | none => rw [hcF k2 hn2]; exact hi.mo k1 k2 h1 (hkept k2 hn2 h2).2
  · intro g hg
    refine ⟨?_, ?_⟩
    · rcases hg with ⟨k, hk, rfl⟩ | ⟨k, hk, hg⟩
      · rw [hms] at hk
        exact Nat.lt_of_lt_of_le (hi.fr (c.mb k) (.inl ⟨k, hk, rfl⟩)).1 hst.size
      · cases hn : news k with
        | some n => rw [(hcN k n hn).2] at hg; exact (hF k n hn g hg).1
        | none =>
          rw [hcF k hn] at hg
          exact Nat.lt_of_lt_of_le (hi.fr g (.inr ⟨k, (hkept k hn hk).2, hg⟩)).1 hst.size
    · rcases hown g hg with h | h
      · exact (hi.fr g h).2
      · exact .inl (Nat.le_trans hi.size h)
end Go.V

namespace Go.V
open Go.RowKit
def FL {α β : Type} (p : α → β → List Nat → Prop) : List α → List β → List Nat → Prop
  | [], vs, F => vs = [] ∧ F = []
  | x :: xs, vs, F => ∃ v vs' F1 F2, vs = v :: vs' ∧ F = F1 ++ F2 ∧ p x v F1 ∧ FL p xs vs' F2
section
variable {α β : Type} {p q : α → β → List Nat → Prop}
theorem FL.mono (h : ∀ x v F, p x v F → q x v F) : ∀ {xs : List α} {vs : List β} {F}, FL p xs vs F → FL q xs vs F
  | [], _, _, hx => hx
  | _ :: _, _, _, ⟨v, vs', F1, F2, e1, e2, h1, h2⟩ => ⟨v, vs', F1, F2, e1, e2, h _ _ _ h1, FL.mono h h2⟩
theorem FL.mono' : ∀ {xs : List α} {vs : List β} {F}, (∀ x ∈ xs, ∀ v F', (∀ g, g ∈ F' → g ∈ F) → p x v F' → q x v F') → FL p xs vs F → FL q xs vs F
  | [], _, _, _, hx => hx
  | _ :: _, _, _, h, ⟨v, vs', F1, F2, e1, e2, h1, h2⟩ => by
    subst e2
    exact ⟨v, vs', F1, F2, e1, rfl, h _ (by simp) _ _ (fun g hg => by simp [hg]) h1, FL.mono' (fun x hx v F hF => h x (by simp [hx]) v F fun g hg => by simp [hF g hg]) h2⟩
theorem FL.len : ∀ {xs : List α} {vs : List β} {F}, FL p xs vs F → vs.length = xs.length
  | [], _, _, ⟨e, _⟩ => by subst e; rfl
  | _ :: _, _, _, ⟨v, vs', F1, F2, e1, _, _, h2⟩ => by subst e1; simp [FL.len h2]
theorem FL.append : ∀ {xs ys : List α} {vs ws : List β} {F G}, FL p xs vs F → FL p ys ws G → FL p (xs ++ ys) (vs ++ ws) (F ++ G)
  | [], _, _, _, _, _, ⟨e1, e2⟩, h => by subst e1 e2; exact h
  | _ :: _, _, _, _, _, _, ⟨v, vs', F1, F2, e1, e2, h1, h2⟩, h => by
    subst e1 e2
    exact ⟨v, _, F1, _, rfl, List.append_assoc .., h1, FL.append h2 h⟩
theorem FL.snoc {xs : List α} {vs : List β} {F G : List Nat} {x : α} {v : β} (h : FL p xs vs F) (hx : p x v G) : FL p (xs ++ [x]) (vs ++ [v]) (F ++ G) :=
  h.append ⟨v, [], G, [], rfl, by simp, hx, rfl, rfl⟩
end
def Ty.own : Ty → Bool
  | .sl true _ _ => true
  | _ => false
def ALOk (w : World) (K : Nat → Prop) (l : ALeaf) (v : Value) (F : List Nat) : Prop := Rp w K l.1 l.2 [v] F ∧ (l.1.own = false → F = [])
def A1Ok (w : World) (K : Nat → Prop) (ms : List Nat) : A1 → Value → List Nat → Prop
  | .one l, v, F => ALOk w K l v F
  | .ag ls, v, F => ∃ vs : List Value, v = .agg vs.toArray ∧ FL (ALOk w K) ls vs F
  | .pl m off, v, F => F = [] ∧ ∃ g, ms[m]? = some g ∧ v = .pointer (some ⟨g, off, none⟩)
  | .rp t x off, v, F => F = [] ∧ ∃ (a : Addr) (vs : List Value), v = .pointer (some (a.add off)) ∧ Rp w K t x vs [] ∧ K a.block ∧ a.block < w.heap.size ∧ ∀ j, j < vs.length → w.cell? (a.add j) = vs[j]?
  | .fv f cs, v, F => F = [] ∧ ∃ vs : List Value, v = .func (.func f) #[] vs.toArray ∧ All2 (fun p v => ∃ g, ms[p.1]? = some g ∧ v = .pointer (some ⟨g, p.2, none⟩)) cs vs
def RowsOk (w : World) (K : Nat → Prop) : List Nat → List (List ALeaf) → List Nat → Prop
  | [], rs, F => rs = [] ∧ F = []
  | g :: gs, rs, F => ∃ r rs' cs e fr F1 F2, rs = r :: rs' ∧ F = F1 ++ F2 ∧ w.heap[g]? = some (.cells cs e fr) ∧ NF fr cs.size ∧ FL (ALOk w K) r cs.toList F1 ∧ RowsOk w K gs rs' F2
def tupledV : List Value → Value
  | [v] => v
  | vs => .tuple vs.toArray
def valAt (vals : List Value) (p : Nat × Nat) : Option Value := match vals[p.1]? with
  | some (.agg vs) => vs[p.2]?
  | some v => if p.2 = 0 then some v else none
  | none => none
def LentOk (w : World) (K : Nat → Prop) (vals : List Value) : List ((Nat × Nat) × ALeaf) → List Nat → Prop
  | [], F => F = []
  | p :: l, F => ∃ v F1 F2, F = F1 ++ F2 ∧ valAt vals p.1 = some v ∧ ALOk w K p.2 v F1 ∧ LentOk w K vals l F2
def CallPost (w : World) (Ro : Nat → Prop) (ms F : List Nat) (vals : List Value) (r : Res) (v : Value) (w' : World) : Prop :=
  ∃ (vs : List Value) (F1 F2 F3 : List Nat), v = tupledV vs ∧ FL (A1Ok w' (fun g => (Ro g ∨ w.heap.size ≤ g ∨ g ∈ F) ∧ g ∉ ms ++ (F1 ++ (F2 ++ F3))) ms) r.val vs F1 ∧ RowsOk w' (fun g => (Ro g ∨ w.heap.size ≤ g ∨ g ∈ F) ∧ g ∉ ms ++ (F1 ++ (F2 ++ F3))) ms r.rows F2 ∧
    LentOk w' (fun g => (Ro g ∨ w.heap.size ≤ g ∨ g ∈ F) ∧ g ∉ ms ++ (F1 ++ (F2 ++ F3))) vals r.lent F3 ∧
    (ms ++ (F1 ++ (F2 ++ F3))).Nodup ∧ (∀ g, g ∈ F1 ++ (F2 ++ F3) → g < w'.heap.size ∧ (g ∈ F ∨ w.heap.size ≤ g)) ∧ Step w w' (fun g => g ∈ ms ++ F)
def CallSound (P : Program) (f : FuncId) (as : List A1) (rows : List (List ALeaf)) (r : Res) : Prop :=
  (∃ fn, P.funcs[f]? = some fn ∧ (fn.name == "runtime.NumGoroutine") = false ∧ fn.body.isNone = false) ∧
  ∀ (w : World) (vals : List Value) (Ro : Nat → Prop) (ms F1 F2 : List Nat), FL (A1Ok w Ro ms) as vals F1 → RowsOk w Ro ms rows F2 → (ms ++ (F1 ++ F2)).Nodup → (∀ g, g ∈ ms ++ (F1 ++ F2) → g < w.heap.size ∧ ¬ Ro g) → (GlF w ∧ ∀ g, glo g → Ro g) →
    Calls P f vals.toArray w fun out w' => ∃ v, out = .returned v ∧ CallPost w Ro ms (F1 ++ F2) vals r v w'
structure EnvOk (P : Program) (E : Env) : Prop where
  ti : TabOk P E.ti
  mix : P.follows .mixedOrders = true
  ca : ∀ f as rows S r, (E.ca f as rows).ev S = some r → CallSound P f as rows r
theorem cast_pair {A A' B B' : Type} (h1 : A = A') (h2 : B = B') (h : (A × B) = (A' × B')) (x : A × B) : cast h x = (cast h1 x.1, cast h2 x.2) := by subst h1 h2; rfl
theorem cast_list {A A' : Type} (h1 : A = A') (h : List A = List A') (xs : List A) : cast h xs = xs.map (cast h1) := by
  subst h1
  have : (cast rfl : A → A) = id := rfl
  rw [this, List.map_id]; rfl
theorem Rp.frz {w : World} {K K' : Nat → Prop} (hK : ∀ g, g < w.heap.size → K g → K' g) : ∀ (t : Ty) (x : t.D) {vs F}, Rp w K t x vs F → (∀ g, g ∈ F → K' g) → Rp w K' t.frz (toFrz t x) vs []
  | .int _, _, _, _, h, _ => by simp only [Rp] at h; simp only [Ty.frz, Rp]; exact ⟨h.1, trivial⟩
  | .bool, _, _, _, h, _ => by simp only [Rp] at h; simp only [Ty.frz, Rp]; exact ⟨h.1, trivial⟩
  | .str, _, _, _, h, _ => by simp only [Rp] at h; simp only [Ty.frz, Rp]; exact ⟨h.1, trivial⟩
  | .unit, _, _, _, h, _ => by simp only [Rp] at h; simp only [Ty.frz, Rp]; exact ⟨h.1, trivial⟩
  | .pair a b, x, _, _, h, hF => by
    simp only [Rp] at h
    obtain ⟨v1, v2, F1, F2, rfl, rfl, h1, h2⟩ := h
    have e : toFrz (.pair a b) x = (toFrz a x.1, toFrz b x.2) := cast_pair (Ty.frz_D a).symm (Ty.frz_D b).symm _ x
    rw [e]
    simp only [Ty.frz, Rp]
    exact ⟨v1, v2, [], [], rfl, rfl, Rp.frz hK a _ h1 fun g hg => hF g (by simp [hg]), Rp.frz hK b _ h2 fun g hg => hF g (by simp [hg])⟩
  | .sl o e r, xs, _, _, h, hF => by
    have e0 : toFrz (.sl o e r) xs = (List.map (toFrz r) xs : List r.frz.D) := cast_list (Ty.frz_D r).symm _ xs
    have key : ∀ (ys : List r.D) (us : List Value) (G : List Nat), (∀ g, g ∈ G → K' g) → RpL (Rp w K r) ys us G → RpL (Rp w K' r.frz) (ys.map (toFrz r)) us [] := by
      intro ys
      induction ys with
      | nil => intro us G _ h; exact ⟨h.1, rfl⟩
      | cons y ys ih =>
        rintro us G hG ⟨v1, v2, F1, F2, rfl, rfl, h1, h2⟩
        exact ⟨v1, v2, [], [], rfl, rfl, Rp.frz hK r y h1 fun g hg => hG g (by simp [hg]), ih _ _ (fun g hg => hG g (by simp [hg])) h2⟩
    rw [e0]
    cases o with
    | true =>
      simp only [Rp] at h
      show Rp w K' (.sl false e r.frz) _ _ _
      rw [Rp]
      rcases h with ⟨rfl, rfl, rfl⟩ | ⟨g, off, c, cs, fr, F', rfl, rfl, hh, hn, hc, hl, hr⟩
      · exact ⟨rfl, none, 0, [], rfl, Nat.le_refl _, ⟨rfl, rfl⟩, .inl rfl⟩
      · refine ⟨rfl, some ⟨g, off, none⟩, c, _, by rw [List.length_map], by rw [List.length_map]; exact hl, key _ _ _ (fun g hg => hF g (by simp [hg])) hr, .inr ⟨_, rfl, hF g (by simp), lt_size hh, fun j hj => ?_⟩⟩
        rw [List.length_take, List.length_drop, Array.length_toList (xs := cs)] at hj
        rw [add_blk, cell_blk hh, List.getElem?_take_of_lt (by omega), List.getElem?_drop, Array.getElem?_toList]
    | false =>
      simp only [Rp] at h
      show Rp w K' (.sl false e r.frz) _ _ _
      rw [Rp]
      obtain ⟨rfl, A, c, ws, rfl, hle, hr, hx⟩ := h
      refine ⟨rfl, A, c, ws, by rw [List.length_map], by rw [List.length_map]; exact hle, key _ _ _ (fun g hg => (by cases hg)) hr, ?_⟩
      rcases hx with rfl | ⟨ad, e1, h1, h2, h3⟩
      · exact .inl rfl
      · exact .inr ⟨ad, e1, hK _ h2 h1, h2, h3⟩
  | .pt t, none, _, _, h, _ => by
    simp only [Rp] at h
    show Rp w K' (.pt t) none _ _
    simp only [Rp]
    exact ⟨trivial, h.2⟩
  | .pt t, some x, _, _, h, _ => by
    simp only [Rp] at h
    show Rp w K' (.pt t) (some x) _ _
    simp only [Rp]
    obtain ⟨_, ad, ws, e, h0, h1, h2, h3⟩ := h
    exact ⟨trivial, ad, ws, e, Rp.frame ⟨Nat.le_refl _, fun g hg hlt => ⟨rfl, hK g hlt hg⟩⟩ t x h0 (fun g hg => by cases hg), hK _ h2 h1, h2, h3⟩
theorem Rp.mono {w : World} {K K' : Nat → Prop} (hK : ∀ g, g < w.heap.size → K g → K' g) (t : Ty) (x : t.D) {vs F} (h : Rp w K t x vs F) : Rp w K' t x vs F :=
  Rp.frame ⟨Nat.le_refl _, fun g hg hlt => ⟨rfl, hK g hlt hg⟩⟩ t x h fun _ _ => rfl
theorem Rp.noRo {w : World} {K K' : Nat → Prop} : ∀ (t : Ty) (x : t.D) {vs F}, t.hasRo = false → Rp w K t x vs F → Rp w K' t x vs F
  | .int _, _, _, _, _, h => by simp only [Rp] at h ⊢; exact h
  | .bool, _, _, _, _, h => by simp only [Rp] at h ⊢; exact h
  | .str, _, _, _, _, h => by simp only [Rp] at h ⊢; exact h
  | .unit, _, _, _, _, h => by simp only [Rp] at h ⊢; exact h
  | .pair a b, x, _, _, hr, h => by
    simp only [Ty.hasRo, Bool.or_eq_false_iff] at hr
    simp only [Rp] at h ⊢
    obtain ⟨v1, v2, F1, F2, rfl, rfl, h1, h2⟩ := h
    exact ⟨v1, v2, F1, F2, rfl, rfl, Rp.noRo a _ hr.1 h1, Rp.noRo b _ hr.2 h2⟩
  | .sl true _ r, xs, _, _, hr, h => by
    simp only [Ty.hasRo, Bool.not_true, Bool.false_or] at hr
    simp only [Rp] at h ⊢
    rcases h with h | ⟨g, off, c, cs, fr, F', rfl, rfl, hh, hn, hc, hl, hx⟩
    · exact .inl h
    · exact .inr ⟨g, off, c, cs, fr, F', rfl, rfl, hh, hn, hc, hl, RpL.mono (fun x vs F h => Rp.noRo r x hr h) hx⟩
  | .sl false _ _, _, _, _, hr, _ => by simp [Ty.hasRo] at hr
  | .pt _, _, _, _, hr, _ => by simp [Ty.hasRo] at hr
theorem ALOk.mono {w : World} {K K' : Nat → Prop} (hK : ∀ g, g < w.heap.size → K g → K' g) {l : ALeaf} {v F} (h : ALOk w K l v F) : ALOk w K' l v F := ⟨Rp.mono hK _ _ h.1, h.2⟩
theorem A1Ok.mono {w : World} {K K' : Nat → Prop} (hK : ∀ g, g < w.heap.size → K g → K' g) {ms : List Nat} {a : A1} {v F} (h : A1Ok w K ms a v F) : A1Ok w K' ms a v F := by
  cases a with
  | one l => exact ALOk.mono hK h
  | ag ls => obtain ⟨vs, e, h⟩ := h; exact ⟨vs, e, h.mono fun x v F h => ALOk.mono hK h⟩
  | pl m off => exact h
  | rp t x off =>
    obtain ⟨e, a, vs, h1, h2, h3, h4, h5⟩ := h
    exact ⟨e, a, vs, h1, Rp.mono hK _ _ h2, hK _ h4 h3, h4, h5⟩
  | fv f cs => exact h
theorem RowsOk.mono {w : World} {K K' : Nat → Prop} (hK : ∀ g, g < w.heap.size → K g → K' g) : ∀ {ms : List Nat} {rs F}, RowsOk w K ms rs F → RowsOk w K' ms rs F
  | [], _, _, h => h
  | _ :: _, _, _, ⟨r, rs', cs, e, fr, F1, F2, e1, e2, h1, h2, h3, h4⟩ => ⟨r, rs', cs, e, fr, F1, F2, e1, e2, h1, h2, h3.mono fun _ _ _ h => ALOk.mono hK h, RowsOk.mono hK h4⟩
theorem ALOk.noRo {w : World} {K K' : Nat → Prop} {l : ALeaf} {v F} (hr : l.1.hasRo = false) (h : ALOk w K l v F) : ALOk w K' l v F := ⟨Rp.noRo _ _ hr h.1, h.2⟩
theorem ALs.noRo {w : World} {K K' : Nat → Prop} {ls : List ALeaf} {vs F} (hr : (ls.any fun l => l.1.hasRo) = false) (h : FL (ALOk w K) ls vs F) : FL (ALOk w K') ls vs F := by
  rw [List.any_eq_false] at hr
  exact FL.mono' (fun x hx v F _ h => ALOk.noRo (by simpa using hr x hx) h) h
theorem A1Ok.noRo {w : World} {K K' : Nat → Prop} {ms : List Nat} {a : A1} {v F} (hr : a.hasRo = false) (h : A1Ok w K ms a v F) : A1Ok w K' ms a v F := by
  cases a with
  | one l => exact ALOk.noRo hr h
  | ag ls => obtain ⟨vs, e, h⟩ := h; exact ⟨vs, e, ALs.noRo hr h⟩
  | pl m off => exact h
  | rp t x off => cases hr
  | fv f cs => exact h
theorem RowsOk.noRo {w : World} {K K' : Nat → Prop} : ∀ {ms : List Nat} {rs : List (List ALeaf)} {F}, (rs.any fun l => l.any fun x => x.1.hasRo) = false → RowsOk w K ms rs F → RowsOk w K' ms rs F
  | [], _, _, _, h => h
  | _ :: _, _, _, hr, ⟨r, rs', cs, e, fr, F1, F2, e1, e2, h1, h2, h3, h4⟩ => by
    subst e1
    simp only [List.any_cons, Bool.or_eq_false_iff] at hr
    exact ⟨r, rs', cs, e, fr, F1, F2, rfl, e2, h1, h2, ALs.noRo hr.1 h3, RowsOk.noRo hr.2 h4⟩
section
variable {b : Base} {S : St} {c : Cc} {w : World}
def KB (b : Base) (S : St) (c : Cc) (B : List Nat) (g : Nat) : Prop := Kok b S c g ∨ (∃ k, k ∈ B ∧ S.ow k ≠ none ∧ g ∈ c.F k) ∨ ∃ k, k ∈ B ∧ S.ms k ≠ none ∧ g = c.mb k
theorem argLeaf_ok (hi : Inv b S w c) {mv : Bool} {t : Ty} {l : Leaf} {v : Value} {y : ALeaf × List Nat × List Nat} (hl : LeafOk S c w (Kok b S c) l v) (h : (argLeaf mv t l).ev S = some y) :
    Ows S y.2.1 ∧ Ows S y.2.2 ∧ (mv = true → y.2.1 = []) ∧ ∃ G, (∀ B, (∀ k, k ∈ y.2.1 → k ∈ B) → ALOk w (KB b S c B) y.1 v G) ∧ G.Nodup ∧ Held c y.2.2 G := by
  have hn : Ows S [] := fun k hk => (by cases hk)
  have hh : Held c [] [] := fun g hg => (by cases hg)
  unfold argLeaf at h
  split at h
  · simp only [Tr.ev, Option.some.injEq] at h
    subst h
    exact ⟨hn, hn, fun _ => rfl, [], fun B _ => ⟨Rp.mono (fun g _ h => .inl h) _ _ hl, fun _ => rfl⟩, by simp, hh⟩
  · obtain rfl : v = .slice none 0 0 := hl
    split at h
    · split at h
      · simp only [Tr.ev, Option.some.injEq] at h
        subst h
        refine ⟨hn, hn, fun _ => rfl, [], fun B _ => ⟨?_, fun _ => rfl⟩, by simp, hh⟩
        simp only [Rp]; exact .inl ⟨trivial, trivial, trivial⟩
      · simp only [Tr.ev, Option.some.injEq] at h
        subst h
        refine ⟨hn, hn, fun _ => rfl, [], fun B _ => ⟨?_, fun _ => rfl⟩, by simp, hh⟩
        rw [Rp]; exact ⟨rfl, none, 0, [], rfl, Nat.le_refl _, ⟨rfl, rfl⟩, .inl rfl⟩
    · simp [Tr.ev] at h
  · rename_i k st win
    split at h
    · rename_i hmv
      split at h
      · simp only [ev_bind, Option.bind_eq_some_iff, Tr.ev, Option.some.injEq] at h
        obtain ⟨o, ho, h⟩ := h
        subst h
        obtain ⟨h1, F', h2, h3, h4⟩ := view_own hi hl ho
        exact ⟨hn, fun k' hk' => (by simp only [List.mem_singleton] at hk'; subst hk'; exact h1), fun _ => rfl, F', fun B _ => ⟨Rp.mono (fun g _ h => .inl h) _ _ h2, fun h => (by simp [Ty.own] at h)⟩, h4, fun g hg => ⟨k, by simp, h3 g hg⟩⟩
      · simp [Tr.ev] at h
    · rename_i hmv
      simp only [ev_bind, Option.bind_eq_some_iff, Tr.ev, Option.some.injEq] at h
      obtain ⟨o, ho, h⟩ := h
      subst h
      obtain ⟨h1, F', h2, h3, h4⟩ := view_own hi hl ho
      exact ⟨fun k' hk' => (by simp only [List.mem_singleton] at hk'; subst hk'; exact h1), hn, fun h => absurd h hmv, [], fun B hB => ⟨Rp.frz (fun g _ h => .inl h) _ _ h2 fun g hg => .inr (.inl ⟨k, hB k (by simp), h1, h3 g hg⟩), fun _ => rfl⟩, by simp, hh⟩
  · simp [Tr.ev] at h
def Back (S : St) (c : Cc) (w : World) (K : Nat → Prop) (k : Nat) (st : Steps) (v : Value) (Fa Fb : List Nat) : Prop :=
  ∃ o0, S.ow k = some o0 ∧ (∃ G, c.F k = Fa ++ (G ++ Fb)) ∧
    ∀ (d : (u : Ty) × u.D) (z : d.1.D) (zs : (Ty.sl true o0.e o0.r).D), (getT (.sl true o0.e o0.r) o0.xs st).run = some d → (setT (.sl true o0.e o0.r) o0.xs st d.1 z).run = some zs →
      ∀ (w' : World) (K' : Nat → Prop) (G' : List Nat), Rp w' K' d.1 z [v] G' → KSame w w' K K' → Same w w' Fa → Same w w' Fb → Rp w' K' (.sl true o0.e o0.r) zs [c.hv k] (Fa ++ (G' ++ Fb))
def LnOk (S : St) (c : Cc) (w : World) (K : Nat → Prop) (q : Option (Nat × Steps)) (v : Value) (gv G : List Nat) : Prop := match q with
  | none => v = .slice none 0 0
  | some (k, st) => k ∈ gv ∧ ∃ Fa Fb, Back S c w K k st v Fa Fb ∧ ∀ g, g ∈ G → g ∉ Fa ∧ g ∉ Fb
theorem Rp.back {w : World} {K : Nat → Prop} : ∀ (st : Steps) (t : Ty) (x : t.D) {h : Value} {F : List Nat} {c : (u : Ty) × u.D}, Rp w K t x [h] F → (getT t x st).run = some c →
    ∃ h' Fa G Fb, hdr w h t st = some h' ∧ F = Fa ++ (G ++ Fb) ∧ Rp w K c.1 c.2 [h'] G ∧ ∀ (z : c.1.D) (y : t.D), (setT t x st c.1 z).run = some y →
      ∀ (w' : World) (K' : Nat → Prop) (G' : List Nat), Rp w' K' c.1 z [h'] G' → KSame w w' K K' → Same w w' Fa → Same w w' Fb → Rp w' K' t y [h] (Fa ++ (G' ++ Fb))
  | [], t, x, h, F, c, hp, hg => by
    simp only [getT, Tr.run, Option.some.injEq] at hg
    subst hg
    refine ⟨h, [], F, [], rfl, by simp, hp, fun z y hs w' K' G' hz _ _ _ => ?_⟩
    simp only [setT] at hs
    split at hs
    · simp only [Tr.run, Option.some.injEq] at hs
      subst hs
      simpa using hz
    · simp [Tr.run] at hs
  | (i, j) :: ps, t, x, h, F, c, hp, hg => by
    match t, x, hp, hg with
    | .sl true e r, xs, hp, hg =>
      obtain ⟨row, d, hrow, hd, hrest⟩ := getT_run_cons hg
      obtain ⟨g, off, cap, cs, fr, v, F1, Fa0, G0, Fb0, F2, rfl, rfl, hh, hn, _, _, hcell, hlt, hv, hput⟩ := Rp.elem hp hrow hd
      have hc? : w.cell? ⟨g, off + (i * r.size + j), none⟩ = some v := by rw [cell_blk hh]; exact hcell
      obtain ⟨h', Ga, G, Gb, hhd, rfl, hp', hset2⟩ := Rp.back ps d.1 d.2 hv hrest
      refine ⟨h', g :: (F1 ++ (Fa0 ++ Ga)), G, Gb ++ (Fb0 ++ F2), ?_, by simp, hp', ?_⟩
      · cases ps with
        | nil =>
          simp only [hdr, Option.some.injEq] at hhd
          subst hhd
          simp only [hdr, adr, add_blk]; exact hc?
        | cons p ps =>
          simp only [hdr, adr, add_blk, hc?, cty_cell r row j hd]
          simpa only [hdr] using hhd
      · intro z y hs w' K' G' hz hK sa sb
        have hs' : ∃ yy row', (setT d.1 d.2 ps c.1 z).run = some yy ∧ setCell r row j d.1 yy = some row' ∧ y = (xs : List r.D).set i row' := by
          simp only [setT, run_get, Option.bind_eq_some_iff] at hs
          obtain ⟨row2, hrow2, hs⟩ := hs
          obtain rfl : row = row2 := by rw [hrow] at hrow2; injection hrow2
          rw [hd] at hs
          simp only [run_bind, Option.bind_eq_some_iff] at hs
          obtain ⟨yy, h1, hs⟩ := hs
          split at hs
          · rename_i row' hr; simp only [Tr.run, Option.some.injEq] at hs; exact ⟨yy, row', h1, hr, hs.symm⟩
          · simp [Tr.run] at hs
        obtain ⟨yy, row', hsy, hset, rfl⟩ := hs'
        have hinner := hset2 z yy hsy w' K' G' hz hK (fun b hb => sa b (by simp [hb])) (fun b hb => sb b (by simp [hb]))
        have hgs : w'.heap[g]? = some (.cells cs e fr) := by rw [sa g (by simp)]; exact hh
        have hsame : cs = cs.setIfInBounds (off + (i * r.size + j)) v := by
          apply Array.ext_getElem?
          intro m
          rw [Array.getElem?_setIfInBounds]
          split
          · subst_vars; first | exact hcell | (rw [if_pos hlt]; exact hcell)
          · rfl
        have := hput w' K' yy v (Ga ++ (G' ++ Gb)) row' cs hset hinner hK hgs hsame (fun b hb => sa b (by simp [hb])) (fun b hb => sa b (by simp [hb])) (fun b hb => sb b (by simp [hb])) (fun b hb => sb b (by simp [hb]))
        simpa using this
    | .sl false _ _, _, _, hg => simp [getT, Tr.run] at hg
    | .int _, _, _, hg => simp [getT, Tr.run] at hg
    | .bool, _, _, hg => simp [getT, Tr.run] at hg
    | .str, _, _, hg => simp [getT, Tr.run] at hg
    | .pt _, _, _, hg => simp [getT, Tr.run] at hg
    | .unit, _, _, hg => simp [getT, Tr.run] at hg
    | .pair _ _, _, _, hg => simp [getT, Tr.run] at hg
theorem lentLeaf_ok (hi : Inv b S w c) {t : Ty} {l : Leaf} {v : Value} {y : ALeaf × List Nat × List Nat} (hl : LeafOk S c w (Kok b S c) l v) (h : (lentLeaf t l).ev S = some y) :
    Ows S y.2.1 ∧ Ows S y.2.2 ∧ ∃ G, (∀ B, (∀ k, k ∈ y.2.1 → k ∈ B) → ALOk w (KB b S c B) y.1 v G) ∧ G.Nodup ∧ Held c y.2.2 G ∧ ∀ p e, e ∈ lentOf p l → e.1 = p ∧ LnOk S c w (Kok b S c) e.2 v y.2.2 G := by
  unfold lentLeaf at h
  split at h
  · rename_i k st
    simp only [ev_bind, Option.bind_eq_some_iff, Tr.ev, Option.some.injEq] at h
    obtain ⟨o, ho, h⟩ := h
    subst h
    obtain ⟨o0, e, r, ys, hd, ho0, hg, hh, hw⟩ := hl
    have hw' : v = hd := hw
    subst hw'
    obtain ⟨h', Fa, G, Fb, k1, k2, k3, k4⟩ := Rp.back st _ _ (hi.ow k o0 ho0) hg
    rw [hh] at k1
    injection k1 with k1
    subst k1
    have hnd := hi.nd k (by rw [ho0]; simp)
    rw [k2] at hnd
    obtain ⟨n1, n2, n3⟩ := List.nodup_append.1 hnd
    obtain ⟨m1, m2, m3⟩ := List.nodup_append.1 n2
    have hoo : o = ⟨e, r, ys⟩ := by
      simp only [viewT, Tr.ev, ho0, ev_bind, Option.bind_eq_some_iff] at ho
      obtain ⟨c0, hc0, ho⟩ := ho
      rw [ev_get, hg] at hc0
      injection hc0 with hc0
      subst hc0
      simp only [Tr.ev, Option.some.injEq] at ho
      exact ho.symm
    subst hoo
    refine ⟨fun k hk => (by cases hk), fun k' hk' => (by simp only [List.mem_singleton] at hk'; subst hk'; rw [ho0]; simp), G, fun B _ => ⟨Rp.mono (fun g _ h => .inl h) _ _ k3, fun h => (by simp [Ty.own] at h)⟩, m1, fun g hg => ⟨k, by simp, by rw [k2]; simp [hg]⟩, ?_⟩
    intro p e' he'
    simp only [lentOf, List.mem_singleton] at he'
    subst he'
    refine ⟨rfl, by simp, Fa, Fb, ⟨o0, ho0, ⟨G, k2⟩, ?_⟩, fun g hg => ⟨fun hx => n3 g hx g (by simp [hg]) rfl, fun hx => m3 g hg g hx rfl⟩⟩
    intro d z zs hd' hs'
    rw [hg] at hd'
    injection hd' with hd'
    subst hd'
    exact k4 z zs hs'
  · simp [Tr.ev] at h
  · rename_i hn1 hn2
    obtain ⟨k1, k2, _, G, k4, k5, k6⟩ := argLeaf_ok hi hl h
    refine ⟨k1, k2, G, k4, k5, k6, fun p e he => ?_⟩
    cases l with
    | vw k st win =>
      cases win with
      | none => exact absurd rfl (hn1 k st)
      | some w => exact absurd rfl (hn2 k st w)
    | nil =>
      simp only [lentOf, List.mem_singleton] at he
      subst he
      exact ⟨rfl, hl⟩
    | v t x => cases he
    | qn q => cases he
    | no => cases he
theorem modeLeaf_ok (hi : Inv b S w c) {m : Nat} {t : Ty} {l : Leaf} {v : Value} {y : ALeaf × List Nat × List Nat} (hl : LeafOk S c w (Kok b S c) l v) (h : (modeLeaf m t l).ev S = some y) :
    Ows S y.2.1 ∧ Ows S y.2.2 ∧ ∃ G, (∀ B, (∀ k, k ∈ y.2.1 → k ∈ B) → ALOk w (KB b S c B) y.1 v G) ∧ G.Nodup ∧ Held c y.2.2 G ∧ (m = 2 → ∀ p e, e ∈ lentOf p l → e.1 = p ∧ LnOk S c w (Kok b S c) e.2 v y.2.2 G) := by
  unfold modeLeaf at h
  split at h
  · obtain ⟨k1, k2, G, k3, k4, k5, k6⟩ := lentLeaf_ok hi hl h
    exact ⟨k1, k2, G, k3, k4, k5, fun _ => k6⟩
  · rename_i hm
    obtain ⟨k1, k2, _, G, k4, k5, k6⟩ := argLeaf_ok hi hl h
    exact ⟨k1, k2, G, k4, k5, k6, fun h => absurd h hm⟩
theorem LnOk.left (hi : Inv b S w c) {q : Option (Nat × Steps)} {v : Value} {g1 g2 G1 G2 : List Nat} (h : LnOk S c w (Kok b S c) q v g1 G1) (hh : Held c g2 G2) (ho : Ows S g1) (ho2 : Ows S g2) (hu : unlike (g1 ++ g2) = true) : LnOk S c w (Kok b S c) q v (g1 ++ g2) (G1 ++ G2) := by
  cases q with
  | none => exact h
  | some q =>
    obtain ⟨k, st⟩ := q
    obtain ⟨hk, Fa, Fb, hB, hd⟩ := h
    refine ⟨by simp [hk], Fa, Fb, hB, fun g hg => ?_⟩
    rcases List.mem_append.1 hg with hg | hg
    · exact hd g hg
    · obtain ⟨k2, q1, q2⟩ := hh g hg
      obtain ⟨_, _, u⟩ := unlike_append hu
      have hne : k2 ≠ k := by rintro rfl; exact u k2 hk q1
      have hno := hi.oo k2 k hne (ho2 k2 q1) (ho k hk) g q2
      obtain ⟨_, _, ⟨G0, hF⟩, _⟩ := hB
      rw [hF] at hno
      simp only [List.mem_append, not_or] at hno
      exact ⟨hno.1, hno.2.2⟩
theorem LnOk.right (hi : Inv b S w c) {q : Option (Nat × Steps)} {v : Value} {g1 g2 G1 G2 : List Nat} (h : LnOk S c w (Kok b S c) q v g2 G2) (hh : Held c g1 G1) (ho : Ows S g1) (ho2 : Ows S g2) (hu : unlike (g1 ++ g2) = true) : LnOk S c w (Kok b S c) q v (g1 ++ g2) (G1 ++ G2) := by
  cases q with
  | none => exact h
  | some q =>
    obtain ⟨k, st⟩ := q
    obtain ⟨hk, Fa, Fb, hB, hd⟩ := h
    refine ⟨by simp [hk], Fa, Fb, hB, fun g hg => ?_⟩
    rcases List.mem_append.1 hg with hg | hg
    · obtain ⟨k2, q1, q2⟩ := hh g hg
      obtain ⟨_, _, u⟩ := unlike_append hu
      have hne : k2 ≠ k := by rintro rfl; exact u k2 q1 hk
      have hno := hi.oo k2 k hne (ho k2 q1) (ho2 k hk) g q2
      obtain ⟨_, _, ⟨G0, hF⟩, _⟩ := hB
      rw [hF] at hno
      simp only [List.mem_append, not_or] at hno
      exact ⟨hno.1, hno.2.2⟩
    · exact hd g hg
theorem argLeaves_ok (hi : Inv b S w c) {m : Nat} : ∀ {ls : List Leaf} {ts : List Ty} {vs : List Value} {y : List ALeaf × List Nat × List Nat}, All2 (LeafOk S c w (Kok b S c)) ls vs → (argLeaves m ts ls).ev S = some y →
    Ows S y.2.1 ∧ Ows S y.2.2 ∧ ∃ G, (∀ B, (∀ k, k ∈ y.2.1 → k ∈ B) → FL (ALOk w (KB b S c B)) y.1 vs G) ∧ (unlike y.2.2 = true → G.Nodup) ∧ Held c y.2.2 G ∧
      (m = 2 → unlike y.2.2 = true → ∀ i j e, e ∈ lentsOf i j ls → ∃ n u, e.1 = (i, j + n) ∧ vs[n]? = some u ∧ LnOk S c w (Kok b S c) e.2 u y.2.2 G)
  | [], ts, _, y, .nil, h => by
    rw [argLeaves] at h
    simp only [Tr.ev, Option.some.injEq] at h
    subst h
    exact ⟨fun k hk => (by cases hk), fun k hk => (by cases hk), [], fun B _ => ⟨rfl, rfl⟩, fun _ => by simp, fun g hg => (by cases hg), fun _ _ i j e he => by cases he⟩
  | l :: ls, ts, _, y, .cons (b := v) (bs := vs) h1 h2, h => by
    rw [argLeaves] at h
    simp only [ev_bind, Option.bind_eq_some_iff, Tr.ev, Option.some.injEq] at h
    obtain ⟨y1, hy1, y2, hy2, rfl⟩ := h
    obtain ⟨k1, k2, G, k4, k5, k6, k7⟩ := modeLeaf_ok hi h1 hy1
    obtain ⟨m1, m2, H, m4, m5, m6, m7⟩ := argLeaves_ok hi h2 hy2
    refine ⟨ows_append k1 m1, ows_append k2 m2, G ++ H, fun B hB => ⟨v, vs, G, H, rfl, rfl, k4 B fun k hk => hB k (by simp [hk]), m4 B fun k hk => hB k (by simp [hk])⟩, ?_, ?_, ?_⟩
    rotate_left 2
    · intro hm hu i j e he
      obtain ⟨u1, u2, _⟩ := unlike_append hu
      simp only [lentsOf] at he
      rcases List.mem_append.1 he with he | he
      · obtain ⟨q1, q2⟩ := k7 hm _ e he
        exact ⟨0, v, q1, rfl, q2.left hi m6 k2 m2 hu⟩
      · obtain ⟨n, u, q1, q2, q3⟩ := m7 hm u2 i (j + 1) e he
        exact ⟨n + 1, u, by rw [q1]; congr 1; omega, by simpa using q2, q3.right hi k6 k2 m2 hu⟩
    · intro hu
      obtain ⟨u1, u2, _⟩ := unlike_append hu
      exact (held_append hi k6 m6 k2 m2 hu k5 (m5 u2)).2
    · intro g hg
      rcases List.mem_append.1 hg with hg | hg
      · obtain ⟨k, h, h'⟩ := k6 g hg; exact ⟨k, by simp [h], h'⟩
      · obtain ⟨k, h, h'⟩ := m6 g hg; exact ⟨k, by simp [h], h'⟩
structure AInv (b : Base) (S : St) (c : Cc) (w : World) (C : AC) (vals : List Value) (F : List Nat) : Prop where
  fl : ∀ eb em, FL (A1Ok w (KB b S c (C.bw ++ eb)) ((C.ms ++ em).map fun p => c.mb p.1)) C.as vals F
  held : Held c C.gv F
  gv : Ows S C.gv
  bw : True
  nd : unlike C.gv = true → F.Nodup
  ms : ∀ p, p ∈ C.ms → S.ms p.1 = some p.2.length
  un : (C.ms.map (·.1)).Nodup
  ln : unlike C.gv = true → ∀ e, e ∈ C.ln → ∃ v, valAt vals e.1 = some v ∧ LnOk S c w (Kok b S c) e.2 v C.gv F
theorem valAt_more {vals more : List Value} {p : Nat × Nat} {v : Value} (h : valAt vals p = some v) : valAt (vals ++ more) p = some v := by
  unfold valAt at h ⊢
  cases hv : vals[p.1]? with
  | none => rw [hv] at h; cases h
  | some u =>
    have : (vals ++ more)[p.1]? = some u := by rw [List.getElem?_append_left (List.getElem?_eq_some_iff.1 hv).1]; exact hv
    rw [this]
    rw [hv] at h
    exact h
theorem valAt_one {vals : List Value} {v : Value} (hv : ∀ vs, v ≠ .agg vs) : valAt (vals ++ [v]) (vals.length, 0) = some v := by
  unfold valAt
  rw [List.getElem?_append_right (Nat.le_refl _), Nat.sub_self]
  cases v <;> first | rfl | (exact absurd rfl (hv _))
theorem valAt_ag {vals : List Value} {vs : List Value} {n : Nat} {u : Value} (hu : vs[n]? = some u) : valAt (vals ++ [.agg vs.toArray]) (vals.length, n) = some u := by
  unfold valAt
  rw [List.getElem?_append_right (Nat.le_refl _), Nat.sub_self]
  simpa using hu
theorem AInv.step (hi : Inv b S w c) {C : AC} {vals : List Value} {F : List Nat} (h : AInv b S c w C vals F) {a : A1} {v : Value} {bw gv : List Nat} {G : List Nat}
    (_h1 : Ows S bw) (h2 : Ows S gv) (h3 : ∀ B ms, (∀ k, k ∈ bw → k ∈ B) → A1Ok w (KB b S c B) ms a v G) (h4 : unlike gv = true → G.Nodup) (h5 : Held c gv G)
    {L : List ((Nat × Nat) × Option (Nat × Steps))} (h6 : unlike gv = true → ∀ e, e ∈ L → ∃ u, valAt (vals ++ [v]) e.1 = some u ∧ LnOk S c w (Kok b S c) e.2 u gv G) :
    AInv b S c w { C with as := C.as ++ [a], bw := C.bw ++ bw, gv := C.gv ++ gv, ln := C.ln ++ L } (vals ++ [v]) (F ++ G) := by
  refine ⟨?_, ?_, ows_append h.gv h2, trivial, ?_, h.ms, h.un, ?_⟩
  rotate_left 3
  · intro hu e he
    obtain ⟨u1, u2, _⟩ := unlike_append hu
    rcases List.mem_append.1 he with he | he
    · obtain ⟨u, q1, q2⟩ := h.ln u1 e he
      exact ⟨u, valAt_more q1, q2.left hi h5 h.gv h2 hu⟩
    · obtain ⟨u, q1, q2⟩ := h6 u2 e he
      exact ⟨u, q1, q2.right hi h.held h.gv h2 hu⟩
  · intro eb em
    have := h.fl (bw ++ eb) em
    rw [← List.append_assoc] at this
    exact this.snoc (h3 _ _ fun k hk => by simp [hk])
  · intro g hg
    rcases List.mem_append.1 hg with hg | hg
    · obtain ⟨k, q, q'⟩ := h.held g hg; exact ⟨k, by simp [q], q'⟩
    · obtain ⟨k, q, q'⟩ := h5 g hg; exact ⟨k, by simp [q], q'⟩
  · intro hu
    obtain ⟨u1, u2, _⟩ := unlike_append hu
    exact (held_append hi h.held h5 h.gv h2 hu (h.nd u1) (h4 u2)).2
theorem findIdx_ok : ∀ (l : List Nat) (k : Nat), l.contains k = true → l[l.findIdx (· == k)]? = some k
  | [], _, h => by simp at h
  | x :: l, k, h => by
    rw [List.findIdx_cons]
    by_cases hx : x = k
    · subst hx; simp
    · have : (x == k) = false := by simp [hx]
      rw [this]
      simp only [cond_false, List.getElem?_cons_succ]
      refine findIdx_ok l k ?_
      simp only [List.contains_cons, Bool.or_eq_true, beq_iff_eq] at h
      exact h.resolve_left fun h => hx h.symm
theorem placeT_ok {C : AC} {vals : List Value} {F : List Nat} (hA : AInv b S c w C vals F) {k off n : Nat} {ts : Option (List Ty)} {y : (Nat × Nat) × AC} (hn : S.ms k = some n) (h : (placeT k off ts C).ev S = some y) :
    AInv b S c w y.2 vals F ∧ (∃ more, y.2.ms = C.ms ++ more) ∧ (y.2.as = C.as ∧ y.2.bw = C.bw ∧ y.2.gv = C.gv) ∧ y.1.2 = off ∧ ∀ em, ((y.2.ms ++ em).map fun p => c.mb p.1)[y.1.1]? = some (c.mb k) := by
  unfold placeT at h
  split at h
  · rename_i ts
    split at h
    · rename_i hc
      simp only [Tr.ev, Option.some.injEq] at h
      subst h
      refine ⟨hA, ⟨[], by simp⟩, ⟨rfl, rfl, rfl⟩, rfl, fun em => ?_⟩
      have hf := findIdx_ok (C.ms.map (·.1)) k hc
      have hlt : place (C.ms.map (·.1)) k < C.ms.length := by
        have := (List.getElem?_eq_some_iff.1 hf).1
        simpa [place] using this
      rw [List.map_append, List.getElem?_append_left (by simpa using hlt)]
      have h9 : ((C.ms.map (·.1)).map c.mb)[place (C.ms.map (·.1)) k]? = some (c.mb k) := by
        rw [List.getElem?_map, show (C.ms.map (·.1))[place (C.ms.map (·.1)) k]? = some k from hf]; rfl
      rw [List.map_map] at h9
      exact h9
    · rename_i hc
      split at h
      · rename_i hoff
        simp only [Tr.ev, hn] at h
        split at h
        · rename_i hn2
          injection hn2 with hn2
          simp only [Tr.ev, Option.some.injEq] at h
          subst h
          refine ⟨⟨fun eb em => ?_, hA.held, hA.gv, hA.bw, hA.nd, ?_, ?_, hA.ln⟩, ⟨_, rfl⟩, ⟨rfl, rfl, rfl⟩, rfl, fun em => ?_⟩
          · have := hA.fl eb ((k, ts) :: em)
            simpa using this
          · intro p hp
            rcases List.mem_append.1 hp with hp | hp
            · exact hA.ms p hp
            · simp only [List.mem_singleton] at hp
              subst hp
              rw [hn, hn2]
          · rw [List.map_append, List.nodup_append]
            refine ⟨hA.un, by simp, ?_⟩
            rintro q hq q' hq' rfl
            simp only [List.map_cons, List.map_nil, List.mem_singleton] at hq'
            subst hq'
            exact hc (by simpa using hq)
          · rw [List.append_assoc, List.map_append, List.getElem?_append_right (by simp)]; simp
        · simp [Tr.ev] at h
      · simp [Tr.ev] at h
  · simp [Tr.ev] at h
def PlAt (c : Cc) (C : AC) (p : Nat × Nat) (v : Value) : Prop := ∀ em, ∃ g, ((C.ms ++ em).map fun p => c.mb p.1)[p.1]? = some g ∧ v = .pointer (some ⟨g, p.2, none⟩)
theorem capsT_ok : ∀ (cs : List (Nat × Nat)) (tss : List (List Ty)) {vs : List Value} {C : AC} {vals : List Value} {F : List Nat} {y : List (Nat × Nat) × AC}, All2 (PlOk S c) cs vs → AInv b S c w C vals F → (capsT cs tss C).ev S = some y →
    AInv b S c w y.2 vals F ∧ ((∃ more, y.2.ms = C.ms ++ more) ∧ y.2.as = C.as ∧ y.2.bw = C.bw ∧ y.2.gv = C.gv) ∧ All2 (PlAt c y.2) y.1 vs
  | [], tss, _, C, vals, F, y, .nil, hA, h => by
    rw [capsT] at h
    simp only [Tr.ev, Option.some.injEq] at h
    subst h
    exact ⟨hA, ⟨⟨[], by simp⟩, rfl, rfl, rfl⟩, .nil⟩
  | p :: cs, tss, _, C, vals, F, y, .cons (b := v) (bs := vs) h1 h2, hA, h => by
    rw [capsT] at h
    simp only [ev_bind, Option.bind_eq_some_iff, Tr.ev, Option.some.injEq] at h
    obtain ⟨y1, hy1, y2, hy2, rfl⟩ := h
    obtain ⟨n, hn, rfl⟩ := h1
    obtain ⟨q1, ⟨m1, e1⟩, ⟨a1, a2, a3⟩, q3, q4⟩ := placeT_ok hA hn hy1
    obtain ⟨r1, ⟨⟨m2, e2⟩, b1, b2, b3⟩, r3⟩ := capsT_ok cs _ h2 q1 hy2
    refine ⟨r1, ⟨⟨m1 ++ m2, by rw [e2, e1, List.append_assoc]⟩, b1.trans a1, b2.trans a2, b3.trans a3⟩, .cons (fun em => ⟨c.mb p.1, ?_, by rw [q3]⟩) r3⟩
    rw [e2, List.append_assoc]
    exact q4 _
theorem lent_noagg (hi : Inv b S w c) {l : Leaf} {v : Value} (hl : LeafOk S c w (Kok b S c) l v) {p : Nat × Nat} {e : (Nat × Nat) × Option (Nat × Steps)} (he : e ∈ lentOf p l) : ∀ vs, v ≠ .agg vs := by
  intro vs
  cases l with
  | vw k st win => obtain ⟨A, n, cap, rfl⟩ := vw_slice hi hl; simp
  | nil => rw [show v = .slice none 0 0 from hl]; simp
  | v t x => cases he
  | qn q => cases he
  | no => cases he
theorem argLeaf_gv {t : Ty} {l : Leaf} {y : ALeaf × List Nat × List Nat} (h : (argLeaf false t l).ev S = some y) : y.2.2 = [] := by
  unfold argLeaf at h
  split at h
  · simp only [Tr.ev, Option.some.injEq] at h
    subst h; rfl
  · split at h
    · simp only [Bool.false_eq_true, if_false, Tr.ev, Option.some.injEq] at h
      subst h; rfl
    · simp [Tr.ev] at h
  · simp only [Bool.false_eq_true, if_false, ev_bind, Option.bind_eq_some_iff, Tr.ev, Option.some.injEq] at h
    obtain ⟨o, _, h⟩ := h
    subst h; rfl
  · simp [Tr.ev] at h
theorem shownRow_ok (hi : Inv b S w c) (k : Nat) : ∀ (ts : List Ty) (i : Nat) (vs : List Value) {y : List ALeaf × List Nat}, vs.length = ts.length → (∀ j v, vs[j]? = some v → LeafOk S c w (Kok b S c) (S.mc k (i + j)) v) → (shownRow k ts i).ev S = some y →
    ∀ B, (∀ k', k' ∈ y.2 → k' ∈ B) → FL (ALOk w (KB b S c B)) y.1 vs []
  | [], i, vs, y, hl, _, h => by
    rw [shownRow] at h
    simp only [Tr.ev, Option.some.injEq] at h
    subst h
    obtain rfl : vs = [] := List.eq_nil_of_length_eq_zero hl
    exact fun B _ => ⟨rfl, rfl⟩
  | t :: ts, i, [], y, hl, _, _ => by simp at hl
  | t :: ts, i, v :: vs, y, hl, hc, h => by
    rw [shownRow] at h
    simp only [Tr.ev, ev_bind, Option.bind_eq_some_iff, Option.some.injEq] at h
    obtain ⟨y1, hy1, y2, hy2, rfl⟩ := h
    obtain ⟨k1, k2, k3, G, k4, k5, k6⟩ := argLeaf_ok hi (hc 0 v rfl) hy1
    have hG : G = [] := by
      rw [argLeaf_gv hy1] at k6
      cases G with
      | nil => rfl
      | cons g G => obtain ⟨k, hk, _⟩ := k6 g (by simp); cases hk
    subst hG
    have m := shownRow_ok hi k ts (i + 1) vs (by simpa using hl) (fun j v hv => by
      have := hc (j + 1) v (by simpa using hv)
      rwa [show i + (j + 1) = i + 1 + j by omega] at this) hy2
    exact fun B hB => ⟨v, vs, [], [], rfl, rfl, k4 B fun k hk => hB k (by simp [hk]), m B fun k hk => hB k (by simp [hk])⟩
theorem packed_ok {K : Nat → Prop} : ∀ (ls : List ALeaf) {vs : List Value}, FL (ALOk w K) ls vs [] → Rp w K (packed ls).1 (packed ls).2 vs []
  | [], vs, h => by
    obtain ⟨rfl, _⟩ := h
    rw [packed, Rp]; exact ⟨rfl, rfl⟩
  | [l], vs, h => by
    obtain ⟨v, vs', F1, F2, rfl, hF, h1, rfl, rfl⟩ := h
    obtain ⟨rfl, _⟩ := List.append_eq_nil_iff.1 hF.symm
    exact h1.1
  | l :: m :: ls, vs, h => by
    obtain ⟨v, vs', F1, F2, rfl, hF, h1, h2⟩ := h
    obtain ⟨rfl, rfl⟩ := List.append_eq_nil_iff.1 hF.symm
    have := packed_ok (m :: ls) h2
    rw [packed, Rp]
    exact ⟨[v], vs', [], [], rfl, rfl, h1.1, this⟩
theorem argsT_ok (hi : Inv b S w c) {E : Env} : ∀ (xs : List (SV × TypeId)) (mvs : List Nat) (us : List Value) (C : AC) (vals : List Value) (F : List Nat) {C' : AC}, All2 (fun x u => SVOk S c w (Kok b S c) x.1 u) xs us → AInv b S c w C vals F →
    (argsT E mvs xs C).ev S = some C' → ∃ F', AInv b S c w C' (vals ++ us) F'
  | [], mvs, _, C, vals, F, C', .nil, hA, h => by
    rw [argsT] at h
    simp only [Tr.ev, Option.some.injEq] at h
    subst h
    exact ⟨F, by rw [List.append_nil]; exact hA⟩
  | (x, t) :: xs, mvs, _, C, vals, F, C', .cons (b := u) (bs := us) h1 h2, hA, h => by
    unfold argsT at h
    rw [show vals ++ u :: us = (vals ++ [u]) ++ us by simp]
    simp only at h h1
    split at h
    · simp only [ev_bind, Option.bind_eq_some_iff] at h
      obtain ⟨y, hy, h⟩ := h
      rename_i l
      obtain ⟨k1, k2, G, k4, k5, k6, k7⟩ := modeLeaf_ok hi (leaf_sv h1) hy
      refine argsT_ok hi xs _ us _ _ _ h2 (hA.step hi (a := .one y.1) k1 k2 (fun B ms hB => k4 B hB) (fun _ => k5) k6 ?_) h
      intro _ e he
      split at he
      · rename_i hm
        obtain ⟨q1, q2⟩ := k7 hm _ e he
        have hlen : C.as.length = vals.length := (hA.fl [] []).len.symm
        refine ⟨u, ?_, q2⟩
        rw [q1, hlen]
        exact valAt_one (lent_noagg hi (leaf_sv h1) he)
      · cases he
    · simp only [ev_bind, Option.bind_eq_some_iff] at h
      obtain ⟨y, hy, h⟩ := h
      obtain ⟨vs, rfl, hall⟩ := h1
      obtain ⟨k1, k2, G, k4, k5, k6, k7⟩ := argLeaves_ok hi hall hy
      refine argsT_ok hi xs _ us _ _ _ h2 (hA.step hi (a := .ag y.1) k1 k2 (fun B ms hB => ⟨vs, rfl, k4 B hB⟩) k5 k6 ?_) h
      intro hu e he
      split at he
      · rename_i hm
        obtain ⟨n, u, q1, q2, q3⟩ := k7 hm hu _ _ e he
        have hlen : C.as.length = vals.length := (hA.fl [] []).len.symm
        refine ⟨u, ?_, q3⟩
        rw [q1, hlen, Nat.zero_add]
        exact valAt_ag q2
      · cases he
    · rename_i u' x' off
      have hx : AInv b S c w { C with as := C.as ++ [A1.rp u' x' off] } (vals ++ [u]) F := by
        refine ⟨fun eb em => ?_, hA.held, hA.gv, hA.bw, hA.nd, hA.ms, hA.un, fun hu e he => (hA.ln hu e he).imp fun _ h => ⟨valAt_more h.1, h.2⟩⟩
        obtain ⟨a, vs, e, q1, q2, q3, q4⟩ := h1
        have := (hA.fl eb em).snoc (x := A1.rp u' x' off) (v := u) (G := []) ⟨rfl, a, vs, e, Rp.mono (fun g _ h => .inl h) _ _ q1, .inl q2, q3, q4⟩
        rwa [List.append_nil] at this
      exact argsT_ok hi xs _ us _ _ _ h2 hx h
    · rename_i k off
      split at h
      · split at h
        · rename_i ts _
          simp only [Tr.ev] at h
          split at h
          · rename_i hn
            simp only [ev_bind, Option.bind_eq_some_iff] at h
            obtain ⟨y, hy, h⟩ := h
            obtain ⟨n, _, rfl⟩ := h1
            obtain ⟨cs, e, fr, g1, g2, g3, g4⟩ := hi.ms k _ hn
            have hfl := shownRow_ok hi k ts 0 cs.toList (by simpa using g2) (fun j v hv => by rw [Nat.zero_add]; exact g4 j v (by simpa using hv)) hy
            have hlt : c.mb k < w.heap.size := (hi.fr _ (.inl ⟨k, by rw [hn]; simp, rfl⟩)).1
            have hx : AInv b S c w { C with as := C.as ++ [A1.rp (packed y.1).1 (packed y.1).2 off], bw := C.bw ++ k :: y.2 } (vals ++ [.pointer (some ⟨c.mb k, off, none⟩)]) F := by
              refine ⟨fun eb em => ?_, hA.held, hA.gv, trivial, hA.nd, hA.ms, hA.un, fun hu e he => (hA.ln hu e he).imp fun _ h => ⟨valAt_more h.1, h.2⟩⟩
              have h0 := hA.fl ((k :: y.2) ++ eb) em
              rw [← List.append_assoc] at h0
              have := h0.snoc (x := A1.rp (packed y.1).1 (packed y.1).2 off) (v := .pointer (some ⟨c.mb k, off, none⟩)) (G := []) ⟨rfl, ⟨c.mb k, 0, none⟩, cs.toList, by simp [Addr.add], packed_ok _ (hfl _ fun k' hk' => by simp [hk']),
                .inr (.inr ⟨k, by simp, by rw [hn]; simp, rfl⟩), hlt, fun j hj => by
                  have e0 : (⟨c.mb k, 0, none⟩ : Addr).add j = ⟨c.mb k, j, none⟩ := by simp [Addr.add]; omega
                  rw [e0, cell_blk g1]; simp⟩
              rwa [List.append_nil] at this
            exact argsT_ok hi xs _ us _ _ _ h2 hx h
          · simp [Tr.ev] at h
        · simp [Tr.ev] at h
      simp only [ev_bind, Option.bind_eq_some_iff] at h
      obtain ⟨y, hy, h⟩ := h
      obtain ⟨n, hn, rfl⟩ := h1
      obtain ⟨q1, q2, _, q3, q4⟩ := placeT_ok hA hn hy
      have hx : AInv b S c w { y.2 with as := y.2.as ++ [A1.pl y.1.1 y.1.2] } (vals ++ [.pointer (some ⟨c.mb k, off, none⟩)]) F := by
        refine ⟨fun eb em => ?_, q1.held, q1.gv, q1.bw, q1.nd, q1.ms, q1.un, fun hu e he => (q1.ln hu e he).imp fun _ h => ⟨valAt_more h.1, h.2⟩⟩
        have := (q1.fl eb em).snoc (x := A1.pl y.1.1 y.1.2) (v := .pointer (some ⟨c.mb k, off, none⟩)) (G := []) ⟨rfl, c.mb k, q4 em, by rw [q3]⟩
        rwa [List.append_nil] at this
      exact argsT_ok hi xs _ us _ _ _ h2 hx h
    · rename_i f cs
      simp only [ev_bind, Option.bind_eq_some_iff] at h
      obtain ⟨y, hy, h⟩ := h
      obtain ⟨vs, rfl, hvs⟩ := h1
      obtain ⟨q1, _, q2⟩ := capsT_ok cs _ hvs hA hy
      have hx : AInv b S c w { y.2 with as := y.2.as ++ [A1.fv f y.1] } (vals ++ [.func (.func f) #[] vs.toArray]) F := by
        refine ⟨fun eb em => ?_, q1.held, q1.gv, q1.bw, q1.nd, q1.ms, q1.un, fun hu e he => (q1.ln hu e he).imp fun _ h => ⟨valAt_more h.1, h.2⟩⟩
        have := (q1.fl eb em).snoc (x := A1.fv f y.1) (v := .func (.func f) #[] vs.toArray) (G := []) ⟨rfl, vs, rfl, q2.mono fun p v h => ⟨_, (h em).choose_spec⟩⟩
        rwa [List.append_nil] at this
      exact argsT_ok hi xs _ us _ _ _ h2 hx h
    · simp [Tr.ev] at h
theorem rowLeaves_ok (hi : Inv b S w c) (k : Nat) : ∀ (ts : List Ty) (i : Nat) (vs : List Value) {y : List ALeaf × List Nat}, vs.length = ts.length → (∀ j v, vs[j]? = some v → LeafOk S c w (Kok b S c) (S.mc k (i + j)) v) → (rowLeaves k ts i).ev S = some y →
    Ows S y.2 ∧ ∃ G, (∀ B, FL (ALOk w (KB b S c B)) y.1 vs G) ∧ (unlike y.2 = true → G.Nodup) ∧ Held c y.2 G
  | [], i, vs, y, hl, _, h => by
    rw [rowLeaves] at h
    simp only [Tr.ev, Option.some.injEq] at h
    subst h
    obtain rfl : vs = [] := List.eq_nil_of_length_eq_zero hl
    exact ⟨fun k hk => (by cases hk), [], fun B => ⟨rfl, rfl⟩, fun _ => by simp, fun g hg => (by cases hg)⟩
  | t :: ts, i, [], y, hl, _, _ => by simp at hl
  | t :: ts, i, v :: vs, y, hl, hc, h => by
    rw [rowLeaves] at h
    simp only [Tr.ev, ev_bind, Option.bind_eq_some_iff, Option.some.injEq] at h
    obtain ⟨y1, hy1, y2, hy2, rfl⟩ := h
    obtain ⟨k1, k2, k3, G, k4, k5, k6⟩ := argLeaf_ok hi (hc 0 v rfl) hy1
    obtain ⟨m2, H, m4, m5, m6⟩ := rowLeaves_ok hi k ts (i + 1) vs (by simpa using hl) (fun j v hv => by
      have := hc (j + 1) v (by simpa using hv)
      rwa [show i + (j + 1) = i + 1 + j by omega] at this) hy2
    refine ⟨ows_append k2 m2, G ++ H, fun B => ⟨v, vs, G, H, rfl, rfl, k4 B fun k hk => (by rw [k3 rfl] at hk; cases hk), m4 B⟩, ?_, ?_⟩
    · intro hu
      obtain ⟨u1, u2, _⟩ := unlike_append hu
      exact (held_append hi k6 m6 k2 m2 hu k5 (m5 u2)).2
    · intro g hg
      rcases List.mem_append.1 hg with hg | hg
      · obtain ⟨k, h, h'⟩ := k6 g hg; exact ⟨k, by simp [h], h'⟩
      · obtain ⟨k, h, h'⟩ := m6 g hg; exact ⟨k, by simp [h], h'⟩
theorem rowsOf_ok (hi : Inv b S w c) : ∀ (ms : List (Nat × List Ty)) {y : List (List ALeaf) × List Nat}, (∀ p, p ∈ ms → S.ms p.1 = some p.2.length) → (rowsOf ms).ev S = some y →
    Ows S y.2 ∧ ∃ G, (∀ B, RowsOk w (KB b S c B) (ms.map fun p => c.mb p.1) y.1 G) ∧ (unlike y.2 = true → G.Nodup) ∧ Held c y.2 G
  | [], y, _, h => by
    rw [rowsOf] at h
    simp only [Tr.ev, Option.some.injEq] at h
    subst h
    exact ⟨fun k hk => (by cases hk), [], fun B => ⟨rfl, rfl⟩, fun _ => by simp, fun g hg => (by cases hg)⟩
  | (k, ts) :: ms, y, hm, h => by
    rw [rowsOf] at h
    simp only [Tr.ev, ev_bind, Option.bind_eq_some_iff, Option.some.injEq] at h
    obtain ⟨y1, hy1, y2, hy2, rfl⟩ := h
    have hk := hm (k, ts) (by simp)
    obtain ⟨cs, e, fr, h1, h2, h3, h4⟩ := hi.ms k _ hk
    obtain ⟨k2, G, k4, k5, k6⟩ := rowLeaves_ok hi k ts 0 cs.toList (by simpa using h2) (fun j v hv => by rw [Nat.zero_add]; exact h4 j v (by simpa using hv)) hy1
    obtain ⟨m2, H, m4, m5, m6⟩ := rowsOf_ok hi ms (fun p hp => hm p (by simp [hp])) hy2
    refine ⟨ows_append k2 m2, G ++ H, fun B => ⟨y1.1, y2.1, cs, e, fr, G, H, rfl, rfl, h1, h3, k4 B, m4 B⟩, ?_, ?_⟩
    · intro hu
      obtain ⟨u1, u2, _⟩ := unlike_append hu
      exact (held_append hi k6 m6 k2 m2 hu (k5 u1) (m5 u2)).2
    · intro g hg
      rcases List.mem_append.1 hg with hg | hg
      · obtain ⟨k, h, h'⟩ := k6 g hg; exact ⟨k, by simp [h], h'⟩
      · obtain ⟨k, h, h'⟩ := m6 g hg; exact ⟨k, by simp [h], h'⟩
end
end Go.V

namespace Go.V
open Go.RowKit
theorem find_some_mem {β : Type} : ∀ {l : List (Nat × β)} {k : Nat} {x : β}, find l k = some x → (k, x) ∈ l
  | [], _, _, h => by simp [find] at h
  | (i, y) :: l, k, x, h => by
    simp only [find] at h
    split at h
    · rename_i hk; subst hk; injection h with h; subst h; simp
    · exact List.mem_cons_of_mem _ (find_some_mem h)
theorem find_mem {β : Type} : ∀ {l : List (Nat × β)} {k : Nat} {x : β}, (l.map (·.1)).Nodup → (k, x) ∈ l → find l k = some x
  | [], _, _, _, h => by cases h
  | (i, y) :: l, k, x, hn, h => by
    rw [List.map_cons, List.nodup_cons] at hn
    simp only [find]
    rcases List.mem_cons.1 h with h' | h'
    · injection h' with h1 h2; subst h1 h2; simp
    · have hne : ¬ k = i := by
        rintro rfl
        exact hn.1 (List.mem_map.2 ⟨(k, x), h', rfl⟩)
      rw [if_neg hne]; exact find_mem hn.2 h'
theorem find_none {β : Type} : ∀ {l : List (Nat × β)} {k : Nat}, k ∉ l.map (·.1) → find l k = none
  | [], _, _ => rfl
  | (i, y) :: l, k, h => by
    simp only [List.map_cons, List.mem_cons, not_or] at h
    simp only [find, if_neg h.1]; exact find_none h.2
theorem unlike_nodup : ∀ {l : List Nat}, unlike l = true → l.Nodup
  | [], _ => by simp
  | k :: l, h => by
    obtain ⟨h1, h2⟩ := unlike_cons h
    exact List.nodup_cons.2 ⟨h1, unlike_nodup h2⟩
theorem ownsU_at : ∀ (l : List (Nat × Own)) (S : St), (l.map (·.1)).Nodup → (S.ups (ownsU l)).ms = S.ms ∧ (S.ups (ownsU l)).mc = S.mc ∧ (S.ups (ownsU l)).sl = S.sl ∧ ∀ k, (S.ups (ownsU l)).ow k = match find l k with | some o => some o | none => S.ow k
  | [], S, _ => ⟨rfl, rfl, rfl, fun _ => rfl⟩
  | p :: l, S, h => by
    rw [List.map_cons, List.nodup_cons] at h
    obtain ⟨h1, h2, h3, h4⟩ := ownsU_at l (S.up (.ow p.1 (some p.2))) h.2
    refine ⟨h1, h2, h3, fun k => ?_⟩
    show ((S.up (.ow p.1 (some p.2))).ups (ownsU l)).ow k = _
    rw [h4]
    obtain ⟨i, o⟩ := p
    simp only [find]
    by_cases hk : k = i
    · subst hk
      rw [find_none h.1]; simp [St.up]
    · simp only [if_neg hk]
      have : (S.up (.ow i (some o))).ow k = S.ow k := by show (if k = i then some o else S.ow k) = _; rw [if_neg hk]
      rw [this]
theorem stPls_at (k : Nat) : ∀ (ls : List Leaf) (off : Nat) (S : St), (S.ups (stPls k ls off)).ms = S.ms ∧ (S.ups (stPls k ls off)).ow = S.ow ∧ (S.ups (stPls k ls off)).sl = S.sl ∧
    ∀ k' i, (S.ups (stPls k ls off)).mc k' i = if k' = k ∧ off ≤ i ∧ i < off + ls.length then ls.getD (i - off) .no else S.mc k' i
  | [], off, S => ⟨rfl, rfl, rfl, fun k' i => by rw [if_neg (by simp only [List.length_nil]; omega)]; rfl⟩
  | l :: ls, off, S => by
    obtain ⟨h1, h2, h3, h4⟩ := stPls_at k ls (off + 1) (S.up (.mc k off l))
    refine ⟨h1, h2, h3, fun k' i => ?_⟩
    show ((S.up (.mc k off l)).ups (stPls k ls (off + 1))).mc k' i = _
    rw [h4]
    by_cases hk : k' = k
    · subst hk
      by_cases h5 : off + 1 ≤ i ∧ i < off + 1 + ls.length
      · rw [if_pos ⟨rfl, h5⟩, if_pos ⟨rfl, by simp only [List.length_cons]; omega⟩, show i - off = (i - (off + 1)) + 1 by omega, List.getD_cons_succ]
      · rw [if_neg (by rintro ⟨_, h⟩; exact h5 h)]
        show (if k' = k' then (if i = off then l else S.mc k' i) else S.mc k' i) = _
        rw [if_pos rfl]
        by_cases hio : i = off
        · subst hio
          rw [if_pos rfl, if_pos ⟨rfl, by simp only [List.length_cons]; omega⟩, Nat.sub_self]; rfl
        · rw [if_neg hio, if_neg (by simp only [List.length_cons]; omega)]
    · rw [if_neg (by rintro ⟨h, _⟩; exact hk h), if_neg (by rintro ⟨h, _⟩; exact hk h)]
      show (if k' = k then _ else S.mc k' i) = _
      rw [if_neg hk]
theorem rowsU_at : ∀ (l : List (Nat × List Leaf)) (S : St), (l.map (·.1)).Nodup → (S.ups (rowsU l)).ms = S.ms ∧ (S.ups (rowsU l)).ow = S.ow ∧ (S.ups (rowsU l)).sl = S.sl ∧
    (∀ k i, k ∉ l.map (·.1) → (S.ups (rowsU l)).mc k i = S.mc k i) ∧ ∀ p, p ∈ l → ∀ i, i < p.2.length → (S.ups (rowsU l)).mc p.1 i = p.2.getD i .no
  | [], S, _ => ⟨rfl, rfl, rfl, fun _ _ _ => rfl, fun _ h => by cases h⟩
  | p :: l, S, h => by
    rw [List.map_cons, List.nodup_cons] at h
    obtain ⟨a1, a2, a3, a4⟩ := stPls_at p.1 p.2 0 S
    obtain ⟨h1, h2, h3, h4, h5⟩ := rowsU_at l (S.ups (stPls p.1 p.2 0)) h.2
    have e : S.ups (rowsU (p :: l)) = (S.ups (stPls p.1 p.2 0)).ups (rowsU l) := ups_append _ _ _
    rw [e]
    refine ⟨h1.trans a1, h2.trans a2, h3.trans a3, fun k i hk => ?_, fun q hq i hi => ?_⟩
    · simp only [List.map_cons, List.mem_cons, not_or] at hk
      rw [h4 k i hk.2, a4, if_neg (by rintro ⟨h, _⟩; exact hk.1 h)]
    · rcases List.mem_cons.1 hq with rfl | hq
      · rw [h4 _ i h.1, a4, if_pos ⟨rfl, by omega⟩, Nat.sub_zero]
      · exact h5 q hq i hi
def NwOk (w : World) (K : Nat → Prop) (p : Nat × Own) (n : New) (F : List Nat) : Prop := n.o = p.2 ∧ F = n.F ∧ Rp w K (.sl true n.o.e n.o.r) n.o.xs [n.h] n.F
def Hv (S : St) (c : Cc) (l : List (Nat × Own)) (ns : List New) : Prop := ∀ k n, (k, n) ∈ (l.map (·.1)).zip ns → S.ow k = some n.o ∧ c.hv k = n.h
section
variable {w : World} {K : Nat → Prop}
theorem Hv.left {S : St} {c : Cc} {l l' : List (Nat × Own)} {ns ns' : List New} (hl : ns.length = l.length) (h : Hv S c (l ++ l') (ns ++ ns')) : Hv S c l ns := fun k n hk => h k n (by
  rw [List.map_append, List.zip_append (by simp [hl])]; exact List.mem_append.2 (.inl hk))
theorem Hv.right {S : St} {c : Cc} {l l' : List (Nat × Own)} {ns ns' : List New} (hl : ns.length = l.length) (h : Hv S c (l ++ l') (ns ++ ns')) : Hv S c l' ns' := fun k n hk => h k n (by
  rw [List.map_append, List.zip_append (by simp [hl])]; exact List.mem_append.2 (.inr hk))
theorem backLeaf_ok (key : Nat) {l : ALeaf} {v : Value} {F : List Nat} (h : ALOk w K l v F) : ∃ ns, FL (NwOk w K) (backLeaf key l).2 ns F ∧ ∀ S c, Hv S c (backLeaf key l).2 ns → LeafOk S c w K (backLeaf key l).1 v := by
  obtain ⟨t, x⟩ := l
  have other : backLeaf key ⟨t, x⟩ = (.v t x, []) → t.own = false → ∃ ns, FL (NwOk w K) (backLeaf key ⟨t, x⟩).2 ns F ∧ ∀ S c, Hv S c (backLeaf key ⟨t, x⟩).2 ns → LeafOk S c w K (backLeaf key ⟨t, x⟩).1 v := by
    intro e ho
    have hF := h.2 ho
    subst hF
    rw [e]
    exact ⟨[], ⟨rfl, rfl⟩, fun _ _ _ => h.1⟩
  cases t with
  | sl o e r =>
    cases o with
    | true =>
      refine ⟨[⟨⟨e, r, x⟩, v, F⟩], ⟨_, [], F, [], rfl, by simp, ⟨rfl, rfl, h.1⟩, rfl, rfl⟩, fun S c hv => ?_⟩
      obtain ⟨h1, h2⟩ := hv key ⟨⟨e, r, x⟩, v, F⟩ (by simp [backLeaf])
      exact ⟨_, e, r, x, v, h1, rfl, by rw [h2]; rfl, rfl⟩
    | false => exact other rfl rfl
  | _ => exact other rfl rfl
theorem backLeaves_ok : ∀ (ls : List ALeaf) (key : Nat) {vs : List Value} {F : List Nat}, FL (ALOk w K) ls vs F →
    ∃ ns, FL (NwOk w K) (backLeaves key ls).2 ns F ∧ ∀ S c, Hv S c (backLeaves key ls).2 ns → All2 (LeafOk S c w K) (backLeaves key ls).1 vs
  | [], key, _, _, h => by
    obtain ⟨rfl, rfl⟩ := h
    exact ⟨[], ⟨rfl, rfl⟩, fun _ _ _ => .nil⟩
  | l :: ls, key, _, _, h => by
    obtain ⟨v, vs, F1, F2, rfl, rfl, h1, h2⟩ := h
    obtain ⟨n1, k1, k2⟩ := backLeaf_ok key h1
    obtain ⟨n2, k3, k4⟩ := backLeaves_ok ls (key + 1) h2
    exact ⟨n1 ++ n2, k1.append k3, fun S c hv => .cons (k2 S c (Hv.left k1.len hv)) (k4 S c (Hv.right k1.len hv))⟩
theorem back1_ok (msK : List Nat) (mb : Nat → Nat) (key : Nat) {a : A1} {v : Value} {F : List Nat} {x : S1 × List (Nat × Own)} (h : A1Ok w K (msK.map mb) a v F) (hb : back1 msK key a = some x) :
    ∃ ns, FL (NwOk w K) x.2 ns F ∧ ∀ S c, Hv S c x.2 ns → (∀ k, k ∈ msK → S.ms k ≠ none) → (∀ k, k ∈ msK → c.mb k = mb k) → S1Ok S c w K x.1 v := by
  cases a with
  | one l =>
    simp only [back1, Option.some.injEq] at hb
    subst hb
    obtain ⟨ns, h1, h2⟩ := backLeaf_ok key h
    exact ⟨ns, h1, fun S c hv _ _ => h2 S c hv⟩
  | ag ls =>
    simp only [back1, Option.some.injEq] at hb
    subst hb
    obtain ⟨vs, rfl, h⟩ := h
    obtain ⟨ns, h1, h2⟩ := backLeaves_ok ls key h
    exact ⟨ns, h1, fun S c hv _ _ => ⟨vs, rfl, h2 S c hv⟩⟩
  | pl m off =>
    simp only [back1] at hb
    split at hb
    · rename_i k hk
      simp only [Option.some.injEq] at hb
      subst hb
      obtain ⟨rfl, g, hg, rfl⟩ := h
      rw [List.getElem?_map, hk] at hg
      simp only [Option.map_some, Option.some.injEq] at hg
      subst hg
      refine ⟨[], ⟨rfl, rfl⟩, fun S c _ h1 h2 => ?_⟩
      have hm := List.mem_of_getElem? hk
      obtain ⟨n, hn⟩ := Option.ne_none_iff_exists'.1 (h1 k hm)
      exact ⟨n, hn, by rw [h2 k hm]⟩
    · cases hb
  | rp t y off =>
    simp only [back1, Option.some.injEq] at hb
    subst hb
    obtain ⟨rfl, h⟩ := h
    exact ⟨[], ⟨rfl, rfl⟩, fun S c _ _ _ => h⟩
  | fv f cs =>
    simp only [back1] at hb
    split at hb
    · rename_i l hl
      simp only [Option.some.injEq] at hb
      subst hb
      obtain ⟨rfl, vs, rfl, h⟩ := h
      refine ⟨[], ⟨rfl, rfl⟩, fun S c _ h1 h2 => ⟨vs, rfl, ?_⟩⟩
      have key : ∀ (cs l : List (Nat × Nat)) (vs : List Value), All2 (fun p v => ∃ g, (msK.map mb)[p.1]? = some g ∧ v = .pointer (some ⟨g, p.2, none⟩)) cs vs → backPls msK cs = some l → All2 (PlOk S c) l vs := by
        intro cs l vs h
        induction h generalizing l with
        | nil => intro hl; simp only [backPls, Option.some.injEq] at hl; subst hl; exact .nil
        | @cons p v cs vs q1 _ ih =>
          intro hl
          simp only [backPls] at hl
          split at hl
          · rename_i k l' e1 e2
            simp only [Option.some.injEq] at hl
            subst hl
            obtain ⟨g, hg, rfl⟩ := q1
            rw [List.getElem?_map, e1] at hg
            simp only [Option.map_some, Option.some.injEq] at hg
            subst hg
            have hm := List.mem_of_getElem? e1
            obtain ⟨n, hn⟩ := Option.ne_none_iff_exists'.1 (h1 k hm)
            exact .cons ⟨n, hn, by rw [h2 k hm]⟩ (ih l' e2)
          · cases hl
      exact key cs l vs h hl
    · cases hb
theorem backVals_ok (msK : List Nat) (mb : Nat → Nat) : ∀ (as : List A1) (key : Nat) {vs : List Value} {F : List Nat} {x : List S1 × List (Nat × Own)}, FL (A1Ok w K (msK.map mb)) as vs F → backVals msK key as = some x →
    ∃ ns, FL (NwOk w K) x.2 ns F ∧ ∀ S c, Hv S c x.2 ns → (∀ k, k ∈ msK → S.ms k ≠ none) → (∀ k, k ∈ msK → c.mb k = mb k) → All2 (S1Ok S c w K) x.1 vs
  | [], key, _, _, x, h, hb => by
    obtain ⟨rfl, rfl⟩ := h
    simp only [backVals, Option.some.injEq] at hb
    subst hb
    exact ⟨[], ⟨rfl, rfl⟩, fun _ _ _ _ _ => .nil⟩
  | a :: as, key, _, _, x, h, hb => by
    obtain ⟨v, vs, F1, F2, rfl, rfl, h1, h2⟩ := h
    simp only [backVals] at hb
    split at hb
    · rename_i x1 x2 e1 e2
      simp only [Option.some.injEq] at hb
      subst hb
      obtain ⟨n1, k1, k2⟩ := back1_ok msK mb key h1 e1
      obtain ⟨n2, k3, k4⟩ := backVals_ok msK mb as (key + 64) h2 e2
      exact ⟨n1 ++ n2, k1.append k3, fun S c hv g1 g2 => .cons (k2 S c (Hv.left k1.len hv) g1 g2) (k4 S c (Hv.right k1.len hv) g1 g2)⟩
    · cases hb
theorem backLeaves_len : ∀ (ls : List ALeaf) (key : Nat), (backLeaves key ls).1.length = ls.length
  | [], _ => rfl
  | l :: ls, key => by simp [backLeaves, backLeaves_len ls (key + 1)]
theorem backRows_ok (mb : Nat → Nat) : ∀ (msK : List Nat) (rs : List (List ALeaf)) (key : Nat) {F : List Nat} {x : List (Nat × List Leaf) × List (Nat × Own)}, RowsOk w K (msK.map mb) rs F → backRows key msK rs = some x →
    x.1.map (·.1) = msK ∧ x.1.map (·.2.length) = rs.map List.length ∧
    ∃ ns, FL (NwOk w K) x.2 ns F ∧ ∀ S c, Hv S c x.2 ns → ∀ p, p ∈ x.1 → ∃ cs e fr, w.heap[mb p.1]? = some (.cells cs e fr) ∧ NF fr cs.size ∧ All2 (LeafOk S c w K) p.2 cs.toList
  | [], [], key, F, x, h, hb => by
    simp only [backRows, Option.some.injEq] at hb
    subst hb
    exact ⟨rfl, rfl, [], ⟨rfl, h.2⟩, fun _ _ _ p hp => by cases hp⟩
  | k :: ms, r :: rs, key, F, x, h, hb => by
    obtain ⟨r', rs', cs, e, fr, F1, F2, e1, rfl, h1, h2, h3, h4⟩ := h
    injection e1 with e1 e2
    subst e1 e2
    simp only [backRows] at hb
    split at hb
    · rename_i y hy
      simp only [Option.some.injEq] at hb
      subst hb
      obtain ⟨n1, k1, k2⟩ := backLeaves_ok r key h3
      obtain ⟨g1, g2, n2, k3, k4⟩ := backRows_ok mb ms rs (key + 64) h4 hy
      refine ⟨by simp [g1], by simp [g2, backLeaves_len], n1 ++ n2, k1.append k3, fun S c hv p hp => ?_⟩
      rcases List.mem_cons.1 hp with rfl | hp
      · exact ⟨cs, e, fr, h1, h2, k2 S c (Hv.left k1.len hv)⟩
      · exact k4 S c (Hv.right k1.len hv) p hp
    · cases hb
  | [], r :: rs, key, F, x, h, hb => by simp [backRows] at hb
  | k :: ms, [], key, F, x, h, hb => by simp [backRows] at hb
theorem tupled_ok {S : St} {c : Cc} : ∀ {xs : List S1} {vs : List Value}, All2 (S1Ok S c w K) xs vs → SVOk S c w K (tupled xs) (tupledV vs)
  | [], _, .nil => ⟨[], rfl, .nil⟩
  | [_], _, .cons h .nil => h
  | _ :: _ :: _, _, .cons (b := v) h (.cons (b := u) (bs := vs) h1 h2) => ⟨v :: u :: vs, rfl, .cons h (.cons h1 h2)⟩
theorem news_find : ∀ {l : List (Nat × Own)} {ns : List New} {F : List Nat}, FL (NwOk w K) l ns F → ∀ k, (match find ((l.map (·.1)).zip ns) k with | some n => some n.o | none => none) = find l k
  | [], _, _, h, k => by rw [h.1]; rfl
  | (i, o) :: l, _, _, ⟨n, ns, F1, F2, e1, _, h1, h2⟩, k => by
    subst e1
    simp only [List.map_cons, List.zip_cons_cons, find]
    by_cases hk : k = i
    · rw [if_pos hk, if_pos hk]; simp [h1.1]
    · rw [if_neg hk, if_neg hk]; exact news_find h2 k
theorem news_in : ∀ {l : List (Nat × Own)} {ns : List New} {F : List Nat}, FL (NwOk w K) l ns F → ∀ k n, find ((l.map (·.1)).zip ns) k = some n → k ∈ l.map (·.1) ∧ (∀ g, g ∈ n.F → g ∈ F) ∧ (F.Nodup → n.F.Nodup) ∧ Rp w K (.sl true n.o.e n.o.r) n.o.xs [n.h] n.F
  | [], _, _, h, k, n, hf => by simp [find] at hf
  | (i, o) :: l, _, _, ⟨n', ns, F1, F2, e1, e2, ⟨h1, h1', h1''⟩, h2⟩, k, n, hf => by
    subst e1 e2
    simp only [List.map_cons, List.zip_cons_cons, find] at hf
    split at hf
    · rename_i hk
      injection hf with hf
      subst hf h1'
      exact ⟨by simp [hk], fun g hg => by simp [hg], fun hn => (List.nodup_append.1 hn).1, h1''⟩
    · obtain ⟨a1, a2, a3, a4⟩ := news_in h2 k n hf
      exact ⟨List.mem_cons_of_mem _ a1, fun g hg => by simp [a2 g hg], fun hn => a3 (List.nodup_append.1 hn).2.1, a4⟩
theorem news_dis : ∀ {l : List (Nat × Own)} {ns : List New} {F : List Nat}, FL (NwOk w K) l ns F → F.Nodup → ∀ k n k' n', k ≠ k' → find ((l.map (·.1)).zip ns) k = some n → find ((l.map (·.1)).zip ns) k' = some n' → ∀ g, g ∈ n.F → g ∉ n'.F
  | [], _, _, h, _, k, n, _, _, _, hf, _ => by simp [find] at hf
  | (i, o) :: l, _, _, ⟨m, ns, F1, F2, e1, e2, ⟨h1, h1', h1''⟩, h2⟩, hn, k, n, k', n', hne, hf, hf' => by
    subst e1 e2
    obtain ⟨d1, d2, d3⟩ := List.nodup_append.1 hn
    simp only [List.map_cons, List.zip_cons_cons, find] at hf hf'
    intro g hg hg'
    split at hf
    · rename_i hk
      injection hf with hf
      subst hf h1'
      rw [if_neg (fun h => hne (hk.trans h.symm))] at hf'
      exact d3 g hg g ((news_in h2 k' n' hf').2.1 g hg') rfl
    · split at hf'
      · injection hf' with hf'
        subst hf' h1'
        exact d3 g hg' g ((news_in h2 k n hf).2.1 g hg) rfl
      · exact news_dis h2 d2 k n k' n' hne hf hf' g hg hg'
end
theorem LeafOk.mono {S : St} {c : Cc} {w : World} {K K' : Nat → Prop} (hK : ∀ g, g < w.heap.size → K g → K' g) {l : Leaf} {v : Value} (h : LeafOk S c w K l v) : LeafOk S c w K' l v := by
  cases l with
  | v t x => exact Rp.mono hK _ _ h
  | _ => exact h
theorem S1Ok.mono {S : St} {c : Cc} {w : World} {K K' : Nat → Prop} (hK : ∀ g, g < w.heap.size → K g → K' g) {x : S1} {v : Value} (h : S1Ok S c w K x v) : S1Ok S c w K' x v := by
  cases x with
  | one l => exact LeafOk.mono hK h
  | ag ls => obtain ⟨vs, e, h⟩ := h; exact ⟨vs, e, h.mono fun _ _ h => LeafOk.mono hK h⟩
  | rp t x off => obtain ⟨a, vs, h1, h2, h3, h4, h5⟩ := h; exact ⟨a, vs, h1, Rp.mono hK _ _ h2, hK _ h4 h3, h4, h5⟩
  | _ => exact h
section
variable {P : Program} {E : Env} {b : Base} {S : St} {c : Cc} {w : World}
theorem kp_sl_ms (S : St) (ks : List Kl) : (S.kp ks).ms = S.ms ∧ (S.kp ks).ow = S.ow ∧ ∀ k i, (S.kp ks).mc k i = (S.mc k i).kp ks :=
  ⟨kp_ms S ks, kp_ow S ks, fun k i => kp_mc S ks k i⟩
theorem LentOk.mono {w : World} {K K' : Nat → Prop} {vals : List Value} (hK : ∀ g, g < w.heap.size → K g → K' g) : ∀ {l : List ((Nat × Nat) × ALeaf)} {F}, LentOk w K vals l F → LentOk w K' vals l F
  | [], _, h => h
  | _ :: _, _, ⟨v, F1, F2, e, h1, h2, h3⟩ => ⟨v, F1, F2, e, h1, ALOk.mono hK h2, LentOk.mono hK h3⟩
theorem LentOk.noRo {w : World} {K K' : Nat → Prop} {vals : List Value} : ∀ {l : List ((Nat × Nat) × ALeaf)} {F}, (l.any fun x => x.2.1.hasRo) = false → LentOk w K vals l F → LentOk w K' vals l F
  | [], _, _, h => h
  | _ :: _, _, hr, ⟨v, F1, F2, e, h1, h2, h3⟩ => by
    simp only [List.any_cons, Bool.or_eq_false_iff] at hr
    exact ⟨v, F1, F2, e, h1, ALOk.noRo hr.1 h2, LentOk.noRo hr.2 h3⟩
theorem putBack_ok (hi : Inv b S w c) {w' : World} {K2 : Nat → Prop} {vals : List Value} {gv F : List Nat} (hgv : Ows S gv) (hKS : KSame w w' (Kok b S c) K2) (hsame : ∀ k, S.ow k ≠ none → ∀ g, g ∈ c.F k → g ∉ F → w'.heap[g]? = w.heap[g]?) :
    ∀ (L : List ((Nat × Nat) × Option (Nat × Steps))) (rl : List ((Nat × Nat) × ALeaf)) {lts : List (Nat × Own)} {F3 : List Nat}, (∀ e, e ∈ L → ∃ v, valAt vals e.1 = some v ∧ LnOk S c w (Kok b S c) e.2 v gv F) → (putBack L rl).ev S = some lts →
      LentOk w' K2 vals rl F3 → F3.Nodup → (∀ g, g ∈ F3 → g ∈ F ∨ w.heap.size ≤ g) → (lts.map (·.1)).Nodup →
      lts.map (·.1) = lkeys L ∧ (∀ k, k ∈ lkeys L → k ∈ gv) ∧ ∃ ns FL3, FL (NwOk w' K2) lts ns FL3 ∧ FL3.Nodup ∧ (∀ g, g ∈ FL3 → g ∈ F3 ∨ ∃ k, k ∈ lkeys L ∧ g ∈ c.F k ∧ g ∉ F) ∧
        ∀ k n, (k, n) ∈ (lts.map (·.1)).zip ns → n.h = c.hv k ∧ ∃ o xs', S.ow k = some o ∧ n.o = ⟨o.e, o.r, xs'⟩ ∧ xs'.length = o.xs.length
  | [], [], lts, F3, _, h, hl, _, _, _ => by
    simp only [putBack, Tr.ev, Option.some.injEq] at h
    subst h
    exact ⟨rfl, fun k hk => (by cases hk), [], [], ⟨rfl, rfl⟩, by simp, fun g hg => (by cases hg), fun k n hk => (by cases hk)⟩
  | [], _ :: _, _, _, _, h, _, _, _, _ => by simp [putBack, Tr.ev] at h
  | (p, none) :: L, [], _, _, _, h, _, _, _, _ => by simp [putBack, Tr.ev] at h
  | (p, some (k, st)) :: L, [], _, _, _, h, _, _, _, _ => by simp [putBack, Tr.ev] at h
  | (p, none) :: L, (p', a) :: rl, lts, F3, hL, h, hl, hnd, hF3, hk => by
    simp only [putBack] at h
    split at h
    · rename_i hp
      subst hp
      obtain ⟨v, F1, F2, rfl, h1, h2, h3⟩ := hl
      obtain ⟨n1, n2, n3⟩ := List.nodup_append.1 hnd
      obtain ⟨q1, q2, ns, FL3, q3, q4, q5, q6⟩ := putBack_ok hi hgv hKS hsame L rl (fun e he => hL e (by simp [he])) h h3 n2 (fun g hg => hF3 g (by simp [hg])) hk
      exact ⟨q1, q2, ns, FL3, q3, q4, fun g hg => (q5 g hg).imp (fun h => by simp [h]) id, q6⟩
    · simp [Tr.ev] at h
  | (p, some (k, st)) :: L, (p', ⟨at', ax⟩) :: rl, lts, F3, hL, h, hl, hnd, hF3, hk => by
    simp only [putBack] at h
    split at h
    · rename_i hp
      subst hp
      obtain ⟨v, F1, F2, rfl, h1, h2, h3⟩ := hl
      obtain ⟨v', hv', hkg, Fa, Fb, ⟨o0, ho0, ⟨G0, hF0⟩, hback⟩, hdis⟩ := hL (p, some (k, st)) (by simp)
      obtain rfl : v = v' := by rw [h1] at hv'; injection hv'
      simp only [Tr.ev, ho0, ev_bind, Option.bind_eq_some_iff] at h
      obtain ⟨⟨dt, dx⟩, hd, h⟩ := h
      split at h
      · rename_i hty
        simp only at hty
        subst hty
        simp only [ev_bind, Option.bind_eq_some_iff, Tr.ev, Option.some.injEq] at h
        obtain ⟨zs, hzs, y, hy, rfl⟩ := h
        rw [ev_get] at hd
        rw [ev_set] at hzs
        obtain ⟨n1, n2, n3⟩ := List.nodup_append.1 hnd
        simp only [List.map_cons, List.nodup_cons] at hk
        obtain ⟨q1, q2, ns, FL3, q3, q4, q5, q6⟩ := putBack_ok hi hgv hKS hsame L rl (fun e he => hL e (by simp [he])) hy h3 n2 (fun g hg => hF3 g (by simp [hg])) hk.2
        have hko : S.ow k ≠ none := by rw [ho0]; simp
        have hnk := hi.nd k hko
        have hlt : ∀ g, g ∈ c.F k → g < w.heap.size := fun g hg => (hi.fr g (.inr ⟨k, hko, hg⟩)).1
        have hin : ∀ g, g ∈ Fa ∨ g ∈ Fb → g ∈ c.F k := fun g hg => by rw [hF0]; rcases hg with hg | hg <;> simp [hg]
        have hnF : ∀ g, g ∈ Fa ∨ g ∈ Fb → g ∉ F := fun g hg hx => hg.elim (hdis g hx).1 (hdis g hx).2
        have hFF : ∀ g, g ∈ F1 ++ F2 → ¬ (g ∈ Fa ∨ g ∈ Fb) := by
          intro g hg hx
          rcases hF3 g hg with h | h
          · exact hnF g hx h
          · have := hlt g (hin g hx)
            omega
        have hkr : k ∉ lkeys L := by rw [← q1]; exact hk.1
        have hR := hback ⟨at', dx⟩ ax zs hd hzs w' K2 F1 h2.1 hKS (fun g hg => hsame k hko g (hin g (.inl hg)) (hnF g (.inl hg))) (fun g hg => hsame k hko g (hin g (.inr hg)) (hnF g (.inr hg)))
        have hlen : zs.length = o0.xs.length := by
          obtain ⟨A, cp, e1, _⟩ := own_slice hR
          obtain ⟨A', cp', e2, _⟩ := own_slice (hi.ow k o0 ho0)
          rw [e1] at e2
          injection e2
        rw [hF0] at hnk
        obtain ⟨a1, a2, a3⟩ := List.nodup_append.1 hnk
        obtain ⟨b1, b2, b3⟩ := List.nodup_append.1 a2
        have hX : ∀ g, g ∈ FL3 → ¬ (g ∈ Fa ∨ g ∈ Fb) ∧ g ∉ F1 := by
          intro g hg
          rcases q5 g hg with h | ⟨k', hk', hg', hgF⟩
          · exact ⟨hFF g (by simp [h]), fun hx => n3 g hx g h rfl⟩
          · have hne : k ≠ k' := by rintro rfl; exact hkr hk'
            have hko' : S.ow k' ≠ none := hgv k' (q2 k' hk')
            refine ⟨fun hx => hi.oo k k' hne hko hko' g (hin g hx) hg', fun hx => ?_⟩
            rcases hF3 g (by simp [hx]) with h | h
            · exact hgF h
            · have := (hi.fr g (.inr ⟨k', hko', hg'⟩)).1
              omega
        refine ⟨by simp [lkeys, q1], ?_, ⟨⟨o0.e, o0.r, zs⟩, c.hv k, Fa ++ (F1 ++ Fb)⟩ :: ns, (Fa ++ (F1 ++ Fb)) ++ FL3, ⟨_, ns, _, FL3, rfl, rfl, ⟨rfl, rfl, hR⟩, q3⟩, ?_, ?_, ?_⟩
        · intro k' hk'
          simp only [lkeys, List.mem_cons] at hk'
          rcases hk' with rfl | hk'
          · exact hkg
          · exact q2 k' hk'
        · refine List.nodup_append.2 ⟨List.nodup_append.2 ⟨a1, List.nodup_append.2 ⟨n1, b2, ?_⟩, ?_⟩, q4, ?_⟩
          · rintro x hx x' hx' rfl; exact hFF x (by simp [hx]) (.inr hx')
          · rintro x hx x' hx' rfl
            rcases List.mem_append.1 hx' with h | h
            · exact hFF x (by simp [h]) (.inl hx)
            · exact a3 x hx x (by simp [h]) rfl
          · rintro x hx x' hx' rfl
            have := hX x hx'
            simp only [List.mem_append] at hx
            rcases hx with hx | hx | hx
            · exact this.1 (.inl hx)
            · exact this.2 hx
            · exact this.1 (.inr hx)
        · intro g hg
          simp only [List.mem_append] at hg
          rcases hg with (hg | hg | hg) | hg
          · exact .inr ⟨k, by simp [lkeys], hin g (.inl hg), hnF g (.inl hg)⟩
          · exact .inl (by simp [hg])
          · exact .inr ⟨k, by simp [lkeys], hin g (.inr hg), hnF g (.inr hg)⟩
          · rcases q5 g hg with h | ⟨k', h1, h2⟩
            · exact .inl (by simp [h])
            · exact .inr ⟨k', by simp [lkeys, h1], h2⟩
        · intro k' n hm
          simp only [List.map_cons, List.zip_cons_cons, List.mem_cons, Prod.mk.injEq] at hm
          rcases hm with ⟨rfl, rfl⟩ | hm
          · exact ⟨rfl, o0, zs, ho0, rfl, hlen⟩
          · exact q6 k' n hm
      · simp [Tr.ev] at h
    · simp [Tr.ev] at h
theorem call_did (hi : Inv b S w c) {C : AC} {us : List Value} {F1 : List Nat} (hA : AInv b S c w C us F1) {rows : List (List ALeaf) × List Nat} {r : Res}
    (hro : C.bw = [] ∨ ((r.val.any A1.hasRo = false ∧ (r.rows.any fun l => l.any fun x => x.1.hasRo) = false) ∧ (r.lent.any fun x => x.2.1.hasRo) = false)) {d : Nat} {vs : List S1 × List (Nat × Own)} {rs : List (Nat × List Leaf) × List (Nat × Own)} {lts : List (Nat × Own)}
    (hlt : (putBack C.ln r.lent).ev S = some lts)
    (hv : backVals (C.ms.map (·.1)) (kd d 0) r.val = some vs) (hr : backRows (kd d 512) (C.ms.map (·.1)) r.rows = some rs) (hu2 : unlike ((vs.2 ++ (rs.2 ++ lts)).map (·.1)) = true) (hlen : r.rows.map List.length = C.ms.map fun m => m.2.length)
    {F2 : List Nat} (hF2 : Held c rows.2 F2) (hgv2 : Ows S rows.2) (hun : unlike (C.gv ++ rows.2) = true) {more : List Value} {v : Value} {w' : World} (hp : CallPost w (KB b S c C.bw) (C.ms.map fun p => c.mb p.1) (F1 ++ F2) (us ++ more) r v w') :
    Did b S c w ⟨tupled vs.1, gone (moved (lkeys C.ln) C.gv ++ rows.2) ++ ((lkeys C.ln).map Kl.deep ++ gone ((vs.2 ++ rs.2).map (·.1))), goneU (C.gv ++ rows.2) ++ (ownsU (vs.2 ++ (rs.2 ++ lts)) ++ rowsU rs.1)⟩ v w' := by
  obtain ⟨vals, G1, G2, G3, rfl, p1, p2, p2', p3, p4, p5⟩ := hp
  have hmap : (C.ms.map fun p => c.mb p.1) = (C.ms.map (·.1)).map c.mb := by rw [List.map_map]; rfl
  rw [hmap] at p1 p2 p2' p3 p5
  generalize hms : C.ms.map (·.1) = msK at *
  let K2 : Nat → Prop := fun g => (Kok b S c g ∧ g < w.heap.size) ∨ ((w.heap.size ≤ g ∨ g ∈ F1 ++ F2) ∧ g ∉ G1 ++ (G2 ++ G3))
  have q12 : FL (A1Ok w' K2 (msK.map c.mb)) r.val vals G1 ∧ RowsOk w' K2 (msK.map c.mb) r.rows G2 ∧ LentOk w' K2 (us ++ more) r.lent G3 := by
    rcases hro with hb | ⟨⟨h1, h2⟩, h3⟩
    · have hK : ∀ g, g < w'.heap.size → ((KB b S c C.bw g ∨ w.heap.size ≤ g ∨ g ∈ F1 ++ F2) ∧ g ∉ msK.map c.mb ++ (G1 ++ (G2 ++ G3))) → K2 g := by
        rintro g _ ⟨h1, h2⟩
        have h3 : g ∉ G1 ++ (G2 ++ G3) := fun h => h2 (by simp only [List.mem_append] at h ⊢; exact .inr h)
        rcases h1 with h1 | h1 | h1
        · rcases h1 with h1 | ⟨k, hk, _⟩ | ⟨k, hk, _⟩
          · by_cases hg : g < w.heap.size
            · exact .inl ⟨h1, hg⟩
            · exact .inr ⟨.inl (by omega), h3⟩
          · rw [hb] at hk; cases hk
          · rw [hb] at hk; cases hk
        · exact .inr ⟨.inl h1, h3⟩
        · exact .inr ⟨.inr h1, h3⟩
      exact ⟨p1.mono fun _ _ _ h => A1Ok.mono hK h, RowsOk.mono hK p2, LentOk.mono hK p2'⟩
    · rw [List.any_eq_false] at h1
      exact ⟨FL.mono' (fun x hx v F _ h => A1Ok.noRo (by simpa using h1 x hx) h) p1, RowsOk.noRo h2 p2, LentOk.noRo h3 p2'⟩
  obtain ⟨q1, q2, q3⟩ := q12
  obtain ⟨n1, a1, a2⟩ := backVals_ok msK c.mb r.val (kd d 0) q1 hv
  obtain ⟨b1, b2, n2, b3, b4⟩ := backRows_ok c.mb msK r.rows (kd d 512) q2 hr
  generalize hgs : C.gv ++ rows.2 = gs at *
  have hgo : Ows S gs := by rw [← hgs]; exact ows_append hA.gv hgv2
  have hFh : Held c gs (F1 ++ F2) := by
    intro g hg
    rw [← hgs]
    rcases List.mem_append.1 hg with hg | hg
    · obtain ⟨k, h, h'⟩ := hA.held g hg; exact ⟨k, by simp [h], h'⟩
    · obtain ⟨k, h, h'⟩ := hF2 g hg; exact ⟨k, by simp [h], h'⟩
  have hnl : n1.length = vs.2.length := a1.len
  have hkeys := unlike_nodup hu2
  have hnd0 : (G1 ++ (G2 ++ G3)).Nodup := (List.nodup_append.1 p3).2.1
  obtain ⟨hndA, hndB, hndC⟩ := List.nodup_append.1 hnd0
  obtain ⟨hndD, hndE, hndF⟩ := List.nodup_append.1 hndB
  have hkeys3 : (lts.map (·.1)).Nodup := by
    rw [List.map_append, List.map_append] at hkeys
    exact (List.nodup_append.1 (List.nodup_append.1 hkeys).2.1).2.1
  have hOwn : ∀ g, g ∈ msK.map c.mb ++ (F1 ++ F2) → Owned S c g := by
    intro g hg
    rcases List.mem_append.1 hg with hg | hg
    · obtain ⟨k, hk, rfl⟩ := List.mem_map.1 hg
      rw [← hms] at hk
      obtain ⟨p, hp, rfl⟩ := List.mem_map.1 hk
      exact .inl ⟨p.1, by rw [hA.ms p hp]; simp, rfl⟩
    · obtain ⟨k, h, h'⟩ := hFh g hg
      exact .inr ⟨k, hgo k h, h'⟩
  have hKS : KSame w w' (Kok b S c) K2 := ⟨p5.size, fun g hg hlt => ⟨p5.same g hlt fun h => hg.2 (hOwn g h), .inl ⟨hg, hlt⟩⟩⟩
  have hsm : ∀ k, S.ow k ≠ none → ∀ g, g ∈ c.F k → g ∉ F1 ++ F2 → w'.heap[g]? = w.heap[g]? := by
    intro k hk g hg hgF
    refine p5.same g (hi.fr g (.inr ⟨k, hk, hg⟩)).1 fun h => ?_
    rcases List.mem_append.1 h with h | h
    · obtain ⟨k', hk', rfl⟩ := List.mem_map.1 h
      rw [← hms] at hk'
      obtain ⟨p, hp, rfl⟩ := List.mem_map.1 hk'
      exact hi.mo p.1 k (by rw [hA.ms p hp]; simp) hk hg
    · exact hgF h
  obtain ⟨t1, t2, n3, FL3, t3, t4, t5, t6⟩ := putBack_ok hi hgo hKS hsm C.ln r.lent (fun e he => by
      have hun2 : unlike (C.gv ++ rows.2) = true := by rw [hgs]; exact hun
      obtain ⟨u1, _, _⟩ := unlike_append hun2
      obtain ⟨u, k1, k2⟩ := hA.ln u1 e he
      refine ⟨u, valAt_more k1, ?_⟩
      have := k2.left hi hF2 hA.gv hgv2 hun2
      rw [hgs] at this
      exact this) hlt q3 hndE (fun g hg => (p4 g (by simp [hg])).2) hkeys3
  have hall : FL (NwOk w' K2) (vs.2 ++ (rs.2 ++ lts)) (n1 ++ (n2 ++ n3)) (G1 ++ (G2 ++ FL3)) := a1.append (b3.append t3)
  have hFL3 : ∀ g, g ∈ FL3 → g ∉ G1 ∧ g ∉ G2 := by
    intro g hg
    rcases t5 g hg with h | ⟨k, hk, hgk, hgF⟩
    · exact ⟨fun hx => hndC g hx g (by simp [h]) rfl, fun hx => hndF g hx g h rfl⟩
    · have hlt' := (hi.fr g (.inr ⟨k, hgo k (t2 k hk), hgk⟩)).1
      refine ⟨fun hx => ?_, fun hx => ?_⟩
      · rcases (p4 g (by simp [hx])).2 with h | h
        · exact hgF h
        · omega
      · rcases (p4 g (by simp [hx])).2 with h | h
        · exact hgF h
        · omega
  have hnd : (G1 ++ (G2 ++ FL3)).Nodup := by
    refine List.nodup_append.2 ⟨hndA, List.nodup_append.2 ⟨hndD, t4, ?_⟩, ?_⟩
    · rintro x hx x' hx' rfl; exact (hFL3 x hx').2 hx
    · rintro x hx x' hx' rfl
      rcases List.mem_append.1 hx' with h | h
      · exact hndC x hx x (by simp [h]) rfl
      · exact (hFL3 x h).1 hx
  have hGin : ∀ g, g ∈ G1 ++ (G2 ++ FL3) → g < w'.heap.size ∧ ((∃ k, k ∈ gs ∧ S.ow k ≠ none ∧ g ∈ c.F k) ∨ w.heap.size ≤ g) := by
    intro g hg
    have hcase : g ∈ G1 ++ (G2 ++ G3) ∨ ∃ k, k ∈ lkeys C.ln ∧ g ∈ c.F k ∧ g ∉ F1 ++ F2 := by
      rcases List.mem_append.1 hg with h | h
      · exact .inl (by simp [h])
      · rcases List.mem_append.1 h with h | h
        · exact .inl (by simp [h])
        · rcases t5 g h with h | h
          · exact .inl (by simp [h])
          · exact .inr h
    rcases hcase with h | ⟨k, hk, hgk, _⟩
    · refine ⟨(p4 g h).1, (p4 g h).2.imp (fun h => ?_) id⟩
      obtain ⟨k, h, h'⟩ := hFh g h
      exact ⟨k, h, hgo k h, h'⟩
    · have hko := hgo k (t2 k hk)
      exact ⟨Nat.lt_of_lt_of_le (hi.fr g (.inr ⟨k, hko, hgk⟩)).1 p5.size, .inl ⟨k, t2 k hk, hko, hgk⟩⟩
  have hmsK : ∀ k, k ∈ msK → S.ms k ≠ none := by
    intro k hk
    rw [← hms] at hk
    obtain ⟨p, hp, rfl⟩ := List.mem_map.1 hk
    rw [hA.ms p hp]; simp
  have hmsN : msK.Nodup := by rw [← hms]; exact hA.un
  generalize hl : vs.2 ++ (rs.2 ++ lts) = l at *
  generalize hns : n1 ++ (n2 ++ n3) = ns at *
  generalize hks : gone (moved (lkeys C.ln) C.gv ++ rows.2) ++ ((lkeys C.ln).map Kl.deep ++ gone ((vs.2 ++ rs.2).map (·.1))) = ks
  generalize hS : (S.kp ks).ups (goneU gs ++ (ownsU l ++ rowsU rs.1)) = S'
  have hg := goneU_ow gs (S.kp ks)
  obtain ⟨o1, o2, _, o4⟩ := ownsU_at l ((S.kp ks).ups (goneU gs)) hkeys
  obtain ⟨r1, r2, _, r4, r5⟩ := rowsU_at rs.1 (((S.kp ks).ups (goneU gs)).ups (ownsU l)) (by rw [b1]; exact hmsN)
  rw [ups_append, ups_append] at hS
  obtain ⟨e1, e2, e3⟩ := kp_sl_ms S ks
  let news : Nat → Option New := fun k => find ((l.map (·.1)).zip ns) k
  have how : ∀ k, S'.ow k = match news k with | some n => some n.o | none => if k ∈ gs then none else S.ow k := by
    intro k
    rw [← hS, r2, o4, hg.2.2, e2]
    have := news_find hall k
    show _ = match find ((l.map (·.1)).zip ns) k with | some n => some n.o | none => if k ∈ gs then none else S.ow k
    cases hf : find ((l.map (·.1)).zip ns) k with
    | none => rw [hf] at this; simp only at this; rw [← this]
    | some n => rw [hf] at this; simp only at this; rw [← this]
  have hms' : S'.ms = S.ms := by rw [← hS, r1, o1, hg.1, e1]
  have hmc : ∀ k i, k ∉ msK → S'.mc k i = (S.mc k i).kp ks := by
    intro k i hk
    rw [← hS, r4 k i (by rw [b1]; exact hk), o2, hg.2.1, e3]
  have hrowmc : ∀ p, p ∈ rs.1 → ∀ i, i < p.2.length → S'.mc p.1 i = p.2.getD i .no := by
    intro p hp i hi'
    rw [← hS]; exact r5 p hp i hi'
  have hHv : ∀ c', (∀ k n, news k = some n → c'.hv k = n.h) → Hv S' c' l ns := by
    intro c' hc' k n hk
    have hf : find ((l.map (·.1)).zip ns) k = some n := find_mem (by
      rw [List.map_fst_zip (by rw [hall.len]; simp)]; exact hkeys) hk
    exact ⟨by rw [how, show news k = some n from hf], hc' k n hf⟩
  have hK2 : ∀ K', KSame w w' (Kok b S c) K' → (∀ g, (w.heap.size ≤ g ∨ ∃ k, k ∈ gs ∧ S.ow k ≠ none ∧ g ∈ c.F k) → (∀ k n, news k = some n → g ∉ n.F) → K' g) → ∀ g, g < w'.heap.size → K2 g → K' g := by
    rintro K' hK hfr g _ (⟨h1, h2⟩ | ⟨h1, h2⟩)
    · exact (hK.2 g h1 h2).2
    · refine hfr g (h1.imp id fun h1 => ?_) fun k n hk hg => ?_
      · obtain ⟨k, h, h'⟩ := hFh g h1
        exact ⟨k, h, hgo k h, h'⟩
      have hx := (news_in hall k n hk).2.1 g hg
      rcases List.mem_append.1 hx with h | h
      · exact h2 (by simp [h])
      · rcases List.mem_append.1 h with h | h
        · exact h2 (by simp [h])
        · rcases t5 g h with h | ⟨k', hk', hgk, hnF⟩
          · exact h2 (by simp [h])
          · have := (hi.fr g (.inr ⟨k', hgo k' (t2 k' hk'), hgk⟩)).1
            rcases h1 with h1 | h1
            · omega
            · exact hnF h1
  have hstay : ∀ k o, S.ow k = some o → (k ∈ gs ∨ news k ≠ none) → .all k ∈ ks ∨ (.deep k ∈ ks ∧ ∃ n xs', news k = some n ∧ n.h = c.hv k ∧ n.o = ⟨o.e, o.r, xs'⟩ ∧ xs'.length = o.xs.length) := by
    intro k o ho hk
    by_cases hkl : k ∈ lkeys C.ln
    · right
      rw [← t1] at hkl
      have hlen3 : n3.length = lts.length := t3.len
      obtain ⟨i, hi', hik⟩ := List.getElem_of_mem hkl
      have hi3 : i < n3.length := by rw [hlen3]; simpa using hi'
      have hz : (k, n3[i]) ∈ (lts.map (·.1)).zip n3 := by
        have : ((lts.map (·.1)).zip n3)[i]? = some (k, n3[i]) := by
          rw [List.getElem?_zip_eq_some]
          exact ⟨by rw [List.getElem?_eq_getElem hi', hik], List.getElem?_eq_getElem hi3⟩
        exact List.mem_of_getElem? this
      have hz2 : (k, n3[i]) ∈ (l.map (·.1)).zip ns := by
        rw [← hl, ← hns, List.map_append, List.map_append, List.zip_append (by simp [hnl]), List.zip_append (by rw [List.length_map]; exact b3.len.symm)]
        simp [hz]
      have hf : news k = some n3[i] := find_mem (by rw [List.map_fst_zip (by rw [hall.len]; simp)]; exact hkeys) hz2
      obtain ⟨g1, o', xs', g2, g3, g4⟩ := t6 k _ hz
      obtain rfl : o = o' := by rw [ho] at g2; injection g2
      refine ⟨?_, _, xs', hf, g1, g3, g4⟩
      rw [← hks]
      rw [t1] at hkl
      simp only [List.mem_append]
      exact .inr (.inl (List.mem_map.2 ⟨k, hkl, rfl⟩))
    · left
      rw [← hks]
      rcases hk with hk | hk
      · rw [← hgs] at hk
        refine List.mem_append.2 (.inl (List.mem_map.2 ⟨k, ?_, rfl⟩))
        rcases List.mem_append.1 hk with hk | hk
        · exact List.mem_append.2 (.inl (by simp only [moved, List.mem_filter]; exact ⟨hk, by simpa using hkl⟩))
        · exact List.mem_append.2 (.inr hk)
      · obtain ⟨n, hn⟩ := Option.ne_none_iff_exists'.1 hk
        have hm := (news_in hall k n hn).1
        rw [← hl, List.map_append, List.map_append] at hm
        refine List.mem_append.2 (.inr (List.mem_append.2 (.inr (List.mem_map.2 ⟨k, ?_, rfl⟩))))
        rw [List.map_append]
        rcases List.mem_append.1 hm with hm | hm
        · exact List.mem_append.2 (.inl hm)
        · rcases List.mem_append.1 hm with hm | hm
          · exact List.mem_append.2 (.inr hm)
          · rw [t1] at hm; exact absurd hm hkl
  have hmany := hi.many (S' := S') (w' := w') news gs msK ks how hms' hmc hstay
    (p5.mono (by
      intro g hg
      rcases List.mem_append.1 hg with hg | hg
      · obtain ⟨k, hk, rfl⟩ := List.mem_map.1 hg
        exact .inr ⟨k, hk, hmsK k hk, rfl⟩
      · obtain ⟨k, h, h'⟩ := hFh g hg
        exact .inl ⟨k, h, hgo k h, h'⟩))
    (fun k n hk g hg => hGin g ((news_in hall k n hk).2.1 g hg))
    (fun k n hk => (news_in hall k n hk).2.2.1 hnd) (fun k n k' n' hne hk hk' => news_dis hall hnd k n k' n' hne hk hk')
    (fun K' hK hfr k n hk => Rp.mono (hK2 K' hK hfr) _ _ (news_in hall k n hk).2.2.2)
    (fun K' c' hK hfr hhv k n hk hn => by
      have hb := hHv c' hhv
      rw [← hl, ← hns] at hb
      rw [← b1] at hk
      obtain ⟨p, hp, rfl⟩ := List.mem_map.1 hk
      obtain ⟨cs, e, fr, h1, h2, h3⟩ := b4 S' c' (Hv.left b3.len (Hv.right hnl hb)) p hp
      have hsz : p.2.length = n := by
        obtain ⟨i, hi', hpi⟩ := List.getElem_of_mem hp
        have q1 : (rs.1.map (·.1))[i]? = some p.1 := by rw [List.getElem?_map, List.getElem?_eq_getElem hi', hpi]; rfl
        have q2 : (rs.1.map (·.2.length))[i]? = some p.2.length := by rw [List.getElem?_map, List.getElem?_eq_getElem hi', hpi]; rfl
        rw [b1, ← hms, List.getElem?_map, Option.map_eq_some_iff] at q1
        obtain ⟨m, hm, hm1⟩ := q1
        rw [b2, hlen, List.getElem?_map, hm] at q2
        injection q2 with q2
        have := hA.ms m (List.mem_of_getElem? hm)
        rw [hm1, hn] at this
        injection this with this
        rw [this, ← q2]
      refine ⟨cs, e, fr, h1, by rw [← hsz, h3.len]; simp, h2, fun i u hu => ?_⟩
      have hlt : i < p.2.length := by rw [h3.len]; simpa using (Array.getElem?_eq_some_iff.1 hu).1
      obtain ⟨u', hu1, hu2⟩ := h3.get (List.getElem?_eq_getElem hlt)
      rw [hrowmc p hp i hlt, List.getD_eq_getElem?_getD, List.getElem?_eq_getElem hlt, Option.getD_some]
      have : u' = u := by
        rw [Array.getElem?_toList, hu] at hu1
        injection hu1 with hu1; exact hu1.symm
      subst this
      exact LeafOk.mono (hK2 K' hK hfr) hu2)
  obtain ⟨c', m1, m2, m3, m4, m5⟩ := hmany
  have hS' : (S.kp ks).ups (goneU gs ++ (ownsU l ++ rowsU rs.1)) = S' := by rw [ups_append, ups_append]; exact hS
  unfold Did
  simp only
  rw [hS']
  refine ⟨c', m3, m4, ?_⟩
  have hb := hHv c' fun k n hk => (m2 k n hk).1
  rw [← hl, ← hns] at hb
  refine tupled_ok ?_
  have := a2 S' c' (Hv.left hnl hb) (fun k hk => by rw [hms']; exact hmsK k hk) (fun k _ => by rw [m1])
  exact this.mono fun _ _ h => S1Ok.mono (hK2 _ m4.kk m5) h
theorem zip_all {p : SV → Value → Prop} : ∀ {xs : List SV} {us : List Value} {ts : List TypeId}, All2 p xs us → xs.length = ts.length → All2 (fun (x : SV × TypeId) u => p x.1 u) (xs.zip ts) us
  | [], _, [], .nil, _ => .nil
  | _ :: _, _, _ :: _, .cons h1 h2, h => .cons h1 (zip_all h2 (by simpa using h))
  | [], _, _ :: _, _, h => by simp at h
  | _ :: _, _, [], _, h => by simp at h
theorem caps_fl {K : Nat → Prop} {C : AC} : ∀ {ps : List (Nat × Nat)} {vs : List Value}, All2 (PlAt c C) ps vs → FL (A1Ok w K (C.ms.map fun p => c.mb p.1)) (ps.map fun p => A1.pl p.1 p.2) vs []
  | [], _, .nil => ⟨rfl, rfl⟩
  | p :: ps, _, .cons (b := v) (bs := vs) h1 h2 => by
    obtain ⟨g, h3, h4⟩ := h1 []
    rw [List.append_nil] at h3
    exact ⟨v, vs, [], [], rfl, rfl, ⟨rfl, g, h3, h4⟩, caps_fl h2⟩
theorem callT_ok (hE : EnvOk P E) {N : Nat} {a : Act} (hi : Inv b S w c) (hs : Slots N S c w (Kok b S c) a) {o : Oper} {f : FuncId} {fo : Operand} {caps : List (Nat × Nat)} {args : Array Operand} {ts : Array TypeId} {d : Nat} {out : Out} (ho : o.op = .call ⟨.value fo, args, ts⟩) (hfo : opnd S fo = .s (.fv f caps))
    (hsz : args.size = ts.size) (h : (callT E d f caps ((args.toList.map (opnd S)).zip ts.toList)).ev S = some out) : Goes P o a w fun v w' => Did b S c w out v w' := by
  unfold callT at h
  simp only [ev_bind, Option.bind_eq_some_iff] at h
  obtain ⟨C0, hC0, ⟨ps, C⟩, hcaps, h⟩ := h
  have hfv := opnd_ok hs fo
  rw [hfo] at hfv
  obtain ⟨cvs, hfval, hcvs⟩ := hfv
  have hall := zip_all (args_all hs args.toList) (by simpa using hsz : (args.toList.map (opnd S)).length = ts.toList.length)
  obtain ⟨F1, hA0⟩ := argsT_ok hi _ _ _ {} [] [] hall ⟨fun _ _ => ⟨rfl, rfl⟩, fun g hg => (by cases hg), fun k hk => (by cases hk), trivial, fun _ => by simp, fun p hp => (by cases hp), by simp, fun _ e he => (by cases he)⟩ hC0
  rw [List.nil_append] at hA0
  obtain ⟨hA, _, hps⟩ := capsT_ok caps _ hcvs hA0 hcaps
  simp only at hA hps h
  unfold callT2 at h
  simp only [ev_bind, Option.bind_eq_some_iff] at h
  obtain ⟨rows, hrows, h⟩ := h
  split at h
  · rename_i hun
    simp only [Bool.and_eq_true, List.all_eq_true, Bool.not_eq_true'] at hun
    obtain ⟨hun, hbw⟩ := hun
    simp only [ev_bind, Option.bind_eq_some_iff] at h
    obtain ⟨r, hr, lts, hlts, h⟩ := h
    split at h
    · rename_i hro
      split at h
      · rename_i vs rs hv hrs
        split at h
        · rename_i hu
          simp only [Bool.and_eq_true, decide_eq_true_eq] at hu
          obtain ⟨hu2, hlen⟩ := hu
          simp only [Tr.ev, Option.some.injEq] at h
          subst h
          obtain ⟨hgv2, F2, hR, hnd2, hF2⟩ := rowsOf_ok hi C.ms hA.ms hrows
          obtain ⟨u1, u2, u3⟩ := unlike_append hun
          have hFn := held_append hi hA.held hF2 hA.gv hgv2 hun (hA.nd u1) (hnd2 u2)
          obtain ⟨hFh, hFnd⟩ := hFn
          have hgo := ows_append hA.gv hgv2
          obtain ⟨⟨fn, hf, hname, hbody⟩, hcs⟩ := hE.ca f _ rows.1 S r hr
          have hfl0 := hA.fl [] []
          rw [List.append_nil, List.append_nil] at hfl0
          have hfl := hfl0.append (caps_fl (w := w) (K := KB b S c C.bw) hps)
          rw [List.append_nil] at hfl
          have hmsO : ∀ g, g ∈ C.ms.map (fun p => c.mb p.1) → ∃ k, S.ms k ≠ none ∧ c.mb k = g ∧ k ∈ C.ms.map (·.1) := by
            intro g hg
            obtain ⟨p, hp, rfl⟩ := List.mem_map.1 hg
            exact ⟨p.1, by rw [hA.ms p hp]; simp, rfl, List.mem_map_of_mem hp⟩
          have hmsN : (C.ms.map fun p => c.mb p.1).Nodup := by
            have h1 : (C.ms.map fun p => c.mb p.1) = (C.ms.map (·.1)).map c.mb := by rw [List.map_map]; rfl
            have h2 : ∀ k, k ∈ C.ms.map (·.1) → S.ms k ≠ none := by
              intro k hk
              obtain ⟨p, hp, rfl⟩ := List.mem_map.1 hk
              rw [hA.ms p hp]; simp
            rw [h1]
            have h3 := hA.un
            revert h2 h3
            generalize C.ms.map (·.1) = l
            intro h2 h3
            induction l with
            | nil => simp
            | cons k l ih =>
              obtain ⟨g1, g2⟩ := List.nodup_cons.1 h3
              rw [List.map_cons, List.nodup_cons]
              refine ⟨fun hm => ?_, ih (fun k hk => h2 k (List.mem_cons_of_mem _ hk)) g2⟩
              obtain ⟨k', hk', he⟩ := List.mem_map.1 hm
              have hne : k' ≠ k := by rintro rfl; exact g1 hk'
              exact hi.mm k' k hne (h2 k' (List.mem_cons_of_mem _ hk')) (h2 k (by simp)) he
          have hcall := hcs w (args.toList.map a.eval ++ cvs) (KB b S c C.bw) (C.ms.map fun p => c.mb p.1) F1 F2 hfl (hR C.bw) (by
            refine List.nodup_append.2 ⟨hmsN, hFnd, ?_⟩
            rintro g hg g' hg' rfl
            obtain ⟨k, hk, rfl, _⟩ := hmsO g hg
            obtain ⟨k', hk', hgk⟩ := hFh _ hg'
            exact hi.mo k k' hk (hgo k' hk') hgk) (by
            intro g hg
            rcases List.mem_append.1 hg with hg | hg
            · obtain ⟨k, hk, rfl, hkm⟩ := hmsO g hg
              have hO : Owned S c (c.mb k) := .inl ⟨k, hk, rfl⟩
              refine ⟨(hi.fr _ hO).1, ?_⟩
              rintro (h | ⟨k', hk', how, hgk⟩ | ⟨k', hk', hms', hgk⟩)
              · exact h.2 hO
              · exact hi.mo k k' hk how hgk
              · have hne : k ≠ k' := by
                  rintro rfl
                  have := (hbw k hk').2
                  simp only [List.contains_eq_mem, decide_eq_false_iff_not] at this
                  exact this hkm
                exact hi.mm k k' hne hk hms' hgk
            · obtain ⟨k, hk, hgk⟩ := hFh g hg
              have hO : Owned S c g := .inr ⟨k, hgo k hk, hgk⟩
              refine ⟨(hi.fr _ hO).1, ?_⟩
              rintro (h | ⟨k', hk', how, hgk'⟩ | ⟨k', hk', hms', hgk'⟩)
              · exact h.2 hO
              rotate_left
              · subst hgk'
                exact hi.mo k' k hms' (hgo k hk) hgk
              · have hne : k ≠ k' := by
                  rintro rfl
                  have := (hbw k hk').1
                  simp only [List.contains_eq_mem, decide_eq_false_iff_not] at this
                  exact this hk
                exact hi.oo k k' hne (hgo k hk) how g hgk hgk') ⟨(gl_now hi).1, fun g hg => .inl ((gl_now hi).2 g hg)⟩
          intro next Q hnext
          have hargs : args.map a.eval ++ cvs.toArray = (args.toList.map a.eval ++ cvs).toArray := by apply Array.ext'; simp
          unfold Oper.wp
          have hrun : (execOp a.eval o).run P w = .ok (.enter f (args.toList.map a.eval ++ cvs).toArray) w := by
            rw [← hargs]
            have hname' : ¬ fn.name = "runtime.NumGoroutine" := by simpa using hname
            have hbody' : ¬ fn.body = none := by
              intro hb
              rw [hb] at hbody
              cases hbody
            simp [execOp, ho, resolve, Deferred.ofValue, hfval, invoke, callFunc, hf, hname', hbody']
          rw [hrun]
          refine Calls.mono hcall ?_
          rintro e w' ⟨v, rfl, hp⟩
          refine hnext v w' (call_did hi hA ?_ hlts hv hrs hu2 hlen hF2 hgv2 hun hp)
          simp only [Bool.or_eq_true, Bool.not_eq_true', Bool.or_eq_false_iff, List.isEmpty_iff] at hro
          exact hro
        · simp [Tr.ev] at h
      · simp [Tr.ev] at h
    · simp [Tr.ev] at h
  · simp [Tr.ev] at h
end
end Go.V
