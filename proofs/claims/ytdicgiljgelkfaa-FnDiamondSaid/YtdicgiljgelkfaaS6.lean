/-
  S6: slices that are read; windows.
-/
import Derived.Test.YtdicgiljgelkfaaS5
namespace Go.V
open Go.RowKit

theorem drop_take_take {α : Type} (l : List α) (a b n k : Nat) (h : a + b ≤ n) : (((l.drop k).take n).drop a).take b = (l.drop (k + a)).take b := by
  rw [List.drop_take, List.drop_drop, List.take_take]
  congr 1; omega

/-- a window of an own slice is one -/
theorem own_win {w : World} {K : Nat → Prop} {e : TypeId} {r : Ty} {ys : List r.D} {h v : Value} {F : List Nat} {lo m : Nat} (hp : Rp w K (.sl true e r) ys [h] F) (hnd : F.Nodup) (hw : WinOk r.size ys.length (some (lo, m)) h v) :
    ∃ F', Rp w K (.sl true e r) ((ys.drop lo).take m) [v] F' ∧ (∀ g, g ∈ F' → g ∈ F) ∧ F'.Nodup := by
  obtain ⟨A, n, cap, A', cap', q, hh, hv, hle, hq, hlo, hnone, hsome⟩ := hw
  have hlen : ((ys.drop lo).take m).length = min m (ys.length - lo) := by rw [List.length_take, List.length_drop]
  simp only [Rp] at hp ⊢
  rcases hp with ⟨rfl, rfl, h1⟩ | ⟨g, off, c, cs, fr, F0, h1, rfl, hg, hn, hoff, hc, hr⟩
  · injection h1 with h1
    rw [hh] at h1
    injection h1 with h2 h3 h4
    obtain ⟨h5, h6⟩ := hnone h2
    subst h5 h6
    refine ⟨[], .inl ⟨by simp, rfl, ?_⟩, by simp, by simp⟩
    rw [hv]; simp
  · injection h1 with h1 _
    rw [hh] at h1
    injection h1 with h2 h3 h4
    subst h2 h3 h4
    have hA := hsome _ rfl
    subst hA
    have hsplit : ys = ys.take lo ++ ((ys.drop lo).take m ++ (ys.drop lo).drop m) := by rw [List.take_append_drop, List.take_append_drop]
    rw [hsplit] at hr
    obtain ⟨v1, v23, F1, F23, e1, rfl, r1, r23⟩ := RpL.split hr
    obtain ⟨v2, v3, F2, F3, rfl, rfl, r2, r3⟩ := RpL.split r23
    have l1 := RpL.len (fun x vs F h => Rp.len r x h) r1
    have l2 := RpL.len (fun x vs F h => Rp.len r x h) r2
    have l3 := RpL.len (fun x vs F h => Rp.len r x h) r3
    refine ⟨g :: F2, .inr ⟨g, off + q * r.size, cap', cs, fr, F2, ?_, rfl, hg, hn, ?_, ?_, ?_⟩, ?_, ?_⟩
    · rw [hv, hlen, add_blk]
    · have : (q + cap') * r.size ≤ cap * r.size := Nat.mul_le_mul_right _ hq
      rw [Nat.add_mul] at this; omega
    · rw [hlen]; exact hle
    · rw [hlen]
      rcases Nat.eq_zero_or_pos (min m (ys.length - lo)) with hz | hz
      · rw [hz]
        have hnil : (ys.drop lo).take m = [] := List.eq_nil_of_length_eq_zero (by rw [hlen, hz])
        rw [hnil] at r2 ⊢
        simp only [Nat.zero_mul, List.take_zero]
        exact ⟨rfl, r2.2⟩
      · have hqlo := hlo hz
        subst hqlo
        rw [List.take_append_drop, List.take_append_drop] at e1
        have hlo' : q < ys.length := by omega
        have hl1 : v1.length = q * r.size := by rw [l1, List.length_take]; congr 1; omega
        have hl2 : v2.length = min m (ys.length - q) * r.size := by rw [l2, hlen]
        have : (cs.toList.drop (off + q * r.size)).take (min m (ys.length - q) * r.size) = v2 := by
          have hb : q * r.size + min m (ys.length - q) * r.size ≤ ys.length * r.size := by rw [← Nat.add_mul]; exact Nat.mul_le_mul_right _ (by omega)
          have := drop_take_take cs.toList (q * r.size) (min m (ys.length - q) * r.size) (ys.length * r.size) off hb
          rw [← this, e1, ← hl1, List.drop_left, ← hl2, List.take_left]
        rw [this]; exact r2
    · intro b hb
      rcases List.mem_cons.1 hb with rfl | hb
      · simp
      · simp [hb]
    · rw [List.nodup_cons] at hnd ⊢
      refine ⟨fun hb => hnd.1 (by simp [hb]), ?_⟩
      exact (List.nodup_append.1 (List.nodup_append.1 hnd.2).2.1).1

/-- what a view shows is an own slice's data -/
theorem view_own {b : Base} {S : St} {c : Cc} {w : World} (hi : Inv b S w c) {k : Nat} {st : Steps} {win : Option (Nat × Nat)} {v : Value} {o : Own} (h : LeafOk S c w (Kok b S c) (.vw k st win) v) (hv : (viewT k st win).ev S = some o) :
    S.ow k ≠ none ∧ ∃ F', Rp w (Kok b S c) (.sl true o.e o.r) o.xs [v] F' ∧ (∀ g, g ∈ F' → g ∈ c.F k) ∧ F'.Nodup := by
  obtain ⟨o0, e, r, ys, hd, ho, hg, hh, hw⟩ := h
  refine ⟨by rw [ho]; simp, ?_⟩
  simp only [viewT, Tr.ev, ho, ev_bind, Option.bind_eq_some_iff] at hv
  obtain ⟨c0, hc0, hv⟩ := hv
  rw [ev_get] at hc0
  rw [hg] at hc0
  injection hc0 with hc0
  subst hc0
  have hown := hi.ow k o0 ho
  have hndk := hi.nd k (by rw [ho]; simp)
  obtain ⟨h', F', h1, h2, h3, h9, _⟩ := Rp.reach st _ _ hown hg
  rw [hh] at h1
  injection h1 with h1
  subst h1
  have hnd' : F'.Nodup := h9 hndk
  cases win with
  | none =>
    simp only [Tr.ev, Option.some.injEq] at hv
    subst hv
    have hw' : v = hd := hw
    subst hw'
    exact ⟨F', h2, h3, hnd'⟩
  | some p =>
    obtain ⟨lo, m⟩ := p
    simp only [Tr.ev, Option.some.injEq] at hv
    subst hv
    obtain ⟨F2, h4, h5, h6⟩ := own_win h2 hnd' hw
    exact ⟨F2, h4, fun g hg => h3 g (h5 g hg), h6⟩

def winLen (win : Option (Nat × Nat)) (n : Nat) : Nat := match win with | none => n | some (lo, m) => min m (n - lo)
/-- what is known of a view -/
theorem view_info {b : Base} {S : St} {c : Cc} {w : World} (hi : Inv b S w c) {k : Nat} {st : Steps} {win : Option (Nat × Nat)} {v : Value} {o : Own} (h : LeafOk S c w (Kok b S c) (.vw k st win) v) (hv : (viewT k st win).ev S = some o) :
    ∃ (o0 : Own) (ys : List o.r.D) (A : Option Addr) (cap : Nat), S.ow k = some o0 ∧ (getT (.sl true o0.e o0.r) o0.xs st).run = some ⟨.sl true o.e o.r, ys⟩ ∧ hdr w (c.hv k) (.sl true o0.e o0.r) st = some (.slice A ys.length cap) ∧
      (A = none → ys.length = 0 ∧ cap = 0) ∧ WinOk o.r.size ys.length win (.slice A ys.length cap) v ∧ o.xs.length = winLen win ys.length ∧
      Rp w (Kok b S c) (.sl true o0.e o0.r) o0.xs [c.hv k] (c.F k) := by
  obtain ⟨o0, e, r, ys, hd, hk, hg, hh, hw⟩ := h
  simp only [viewT, Tr.ev, hk, ev_bind, Option.bind_eq_some_iff] at hv
  obtain ⟨c0, hc0, hv⟩ := hv
  rw [ev_get, hg] at hc0
  injection hc0 with hc0
  subst hc0
  have hown := hi.ow k o0 hk
  obtain ⟨hd', Fd, g1, g2, _⟩ := Rp.reach st _ _ hown hg
  rw [hh] at g1
  injection g1 with g1
  subst g1
  obtain ⟨Ad, capd, rfl, hnd'⟩ := own_slice g2
  have hz : Ad = none → ys.length = 0 ∧ capd = 0 := fun hA => ⟨by have h8 : ys = [] := (hnd' hA).1; rw [h8]; rfl, (hnd' hA).2.1⟩
  cases win with
  | none => simp only [Tr.ev, Option.some.injEq] at hv; subst hv; exact ⟨o0, ys, Ad, capd, hk, hg, hh, hz, hw, rfl, hown⟩
  | some p =>
    obtain ⟨lo, m⟩ := p
    simp only [Tr.ev, Option.some.injEq] at hv; subst hv
    exact ⟨o0, ys, Ad, capd, hk, hg, hh, hz, hw, by simp [List.length_take, List.length_drop, winLen], hown⟩

/-- an own slice is read -/
theorem own_read {w : World} {K : Nat → Prop} {e : TypeId} {r : Ty} {xs : List r.D} {v : Value} {F : List Nat} (hp : Rp w K (.sl true e r) xs [v] F) :
    ∃ A cap ws F', v = .slice A xs.length cap ∧ RpL (Rp w K r) xs ws F' ∧ (∀ g, g ∈ F' → g ∈ F) ∧ (A = none → xs = [] ∧ cap = 0) ∧
      (xs = [] ∨ ∃ ad, A = some ad ∧ ad.block < w.heap.size ∧ ∀ j, j < ws.length → w.cell? (ad.add j) = ws[j]?) := by
  simp only [Rp] at hp
  rcases hp with ⟨rfl, rfl, h1⟩ | ⟨g, off, cap, cs, fr, F', h1, rfl, hg, hn, hoff, hc, hr⟩
  · injection h1 with h1
    exact ⟨none, 0, [], [], h1, ⟨rfl, rfl⟩, by simp, fun _ => ⟨rfl, rfl⟩, .inl rfl⟩
  · injection h1 with h1
    refine ⟨_, cap, _, F', h1, hr, fun b hb => by simp [hb], fun h => (by cases h), .inr ⟨_, rfl, lt_size hg, fun j hj => ?_⟩⟩
    rw [add_blk, cell_blk hg, List.getElem?_take, List.getElem?_drop, ← Array.getElem?_toList]
    rw [List.length_take] at hj
    rw [if_pos (by omega)]

/-- a slice's data, however it is held -/
theorem data_read {b : Base} {S : St} {c : Cc} {w : World} (hi : Inv b S w c) {l : Leaf} {v : Value} {o : Own} (h : LeafOk S c w (Kok b S c) l v) (hv : (dataT l).ev S = some o) :
    ∃ A cap ws F', v = .slice A o.xs.length cap ∧ RpL (Rp w (Kok b S c) o.r) o.xs ws F' ∧
      (o.xs = [] ∨ ∃ ad, A = some ad ∧ ad.block < w.heap.size ∧ ∀ j, j < ws.length → w.cell? (ad.add j) = ws[j]?) := by
  unfold dataT at hv
  split at hv
  · rename_i o' e r xs
    simp only [Tr.ev, Option.some.injEq] at hv
    subst hv
    cases o' with
    | true =>
      obtain ⟨A, cap, ws, F', h1, h2, _, _, h3⟩ := own_read h
      exact ⟨A, cap, ws, F', h1, h2, h3⟩
    | false =>
      simp only [LeafOk, Rp] at h
      obtain ⟨_, A, cap, ws, h1, _, h2, h3⟩ := h
      injection h1 with h1
      refine ⟨A, cap, ws, [], h1, h2, ?_⟩
      rcases h3 with h3 | ⟨ad, h4, _, h5, h6⟩
      · exact .inl h3
      · exact .inr ⟨ad, h4, h5, h6⟩
  · obtain ⟨_, F', h1, _, _⟩ := view_own hi h hv
    obtain ⟨A, cap, ws, F2, h2, h3, _, _, h4⟩ := own_read h1
    exact ⟨A, cap, ws, F2, h2, h3, h4⟩
  · simp [Tr.ev] at hv

theorem len_ok {b : Base} {S : St} {c : Cc} {w : World} (hi : Inv b S w c) {t : TI} {l : Leaf} {v : Value} {n : Nat} (h : LeafOk S c w (Kok b S c) l v) (hv : (lenT t l).ev S = some n) :
    (∃ s : ByteArray, v = .string s ∧ s.size = n ∧ t.isStr = true) ∨ (t.isSl = true ∧ ∃ A cap, v = .slice A n cap) := by
  unfold lenT at hv
  split at hv
  · split at hv
    · simp only [Tr.ev, Option.some.injEq] at hv
      subst hv
      rw [str_leaf h]
      exact .inl ⟨_, rfl, by simp [ByteArray.size], by assumption⟩
    · simp [Tr.ev] at hv
  · rename_i o e r xs
    split at hv
    · simp only [Tr.ev, Option.some.injEq] at hv
      subst hv
      obtain ⟨A, cap, ws, F', h1, _⟩ := data_read (o := ⟨e, r, xs⟩) hi h (by simp [dataT, Tr.ev])
      exact .inr ⟨by assumption, A, cap, h1⟩
    · simp [Tr.ev] at hv
  · split at hv
    · simp only [ev_bind, Option.bind_eq_some_iff, Tr.ev, Option.some.injEq] at hv
      obtain ⟨o, ho, rfl⟩ := hv
      obtain ⟨A, cap, ws, F', h1, _⟩ := data_read hi h (by simpa [dataT] using ho)
      exact .inr ⟨by assumption, A, cap, h1⟩
    · simp [Tr.ev] at hv
  · split at hv
    · simp only [Tr.ev, Option.some.injEq] at hv
      subst hv
      rw [show v = .slice none 0 0 from h]
      exact .inr ⟨by assumption, none, 0, rfl⟩
    · simp [Tr.ev] at hv
  · simp [Tr.ev] at hv

/-- a window of a view -/
theorem win_cut {size len : Nat} {win : Option (Nat × Nat)} {h v : Value} {A : Option Addr} {n cap : Nat} (hl : h = .slice A len cap ∧ (A = none → len = 0 ∧ cap = 0)) (hv : WinOk size len win h v) {A1 : Option Addr} {cap1 : Nat}
    (hv1 : v = .slice A1 n cap1) {lo m mx : Nat} (hle : lo + m ≤ n) (hmx : lo + m ≤ mx) (hcap : mx ≤ cap1) (A2 : Option Addr) (hA : A2 = if mx = lo then A1 else A1.map (·.add (lo * size)))
    (hlen : ∀ p, win = some p → n = min p.2 (len - p.1)) (hlen0 : win = none → n = len) : WinOk size len (cutWin win lo m) h (.slice A2 m (mx - lo)) := by
  subst hA
  obtain ⟨rfl, hnone⟩ := hl
  cases win with
  | none =>
    have hv' : v = .slice A len cap := hv
    rw [hv'] at hv1
    injection hv1 with e1 e2 e3
    subst e1 e2 e3
    refine ⟨A, len, cap, (if mx = lo then A else A.map (·.add (lo * size))), mx - lo, if mx = lo then 0 else lo, rfl, ?_, ?_, ?_, ?_, ?_, ?_⟩
    · congr 1; omega
    · have : min m (len - lo) = m := by omega
      omega
    · split <;> omega
    · intro hz; rw [if_neg (by omega)]
    · intro hn
      obtain ⟨h1, h2⟩ := hnone hn
      subst hn
      refine ⟨?_, by omega⟩
      split <;> rfl
    · intro a ha
      subst ha
      split
      · simp [Addr.add]
      · rfl
  | some p =>
    obtain ⟨l0, m0⟩ := p
    obtain ⟨A0, n0, cap0, A', cap', q, e0, e1, h1, h2, h3, h4, h5⟩ := hv
    injection e0 with f1 f2 f3
    subst f1 f2 f3
    rw [e1] at hv1
    injection hv1 with f1 f2 f3
    subst f1 f3
    have hn := hlen _ rfl
    simp only at hn
    refine ⟨A, len, cap, (if mx = lo then A' else A'.map (·.add (lo * size))), mx - lo, if mx = lo then q else q + lo, rfl, ?_, ?_, ?_, ?_, ?_, ?_⟩
    · congr 1; omega
    · have : min m (len - (l0 + lo)) = m := by omega
      omega
    · split <;> omega
    · intro hz
      rw [if_neg (by omega)]
      have := h3 (by omega)
      omega
    · intro hA
      obtain ⟨g1, g2⟩ := h4 hA
      refine ⟨?_, by omega⟩
      subst g1
      split <;> rfl
    · intro a ha
      have := h5 a ha
      subst this
      split
      · rfl
      · simp only [Option.map_some, add_add, Option.some.injEq]
        congr 1; rw [Nat.add_mul]

#print axioms data_read
#print axioms win_cut
end Go.V
