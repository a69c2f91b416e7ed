import Derived.Test.YtijemcbcchnnjaaQTrE
import Derived.Shelf.Spec.SlicesInsert
import Derived.Shelf.Spec.SlicesInsertGrow
set_option linter.unusedVariables false
set_option linter.unusedSimpArgs false
namespace Go.V
open Go.RowKit Go.Shelf
def intV (n : Int) : Value := .int .i64 n
theorem rpl_ints {w : World} {K : Nat → Prop} : ∀ {xs : List Int} {vs : List Value} {F : List Nat}, RpL (Rp w K (.int .i64)) xs vs F → vs = xs.map intV ∧ F = []
  | [], _, _, h => h
  | x :: xs, _, _, ⟨v1, v2, F1, F2, e1, e2, h1, h2⟩ => by
    obtain ⟨rfl, rfl⟩ := rpl_ints h2
    simp only [Rp] at h1
    obtain ⟨rfl, rfl⟩ := h1
    exact ⟨e1, e2⟩
theorem ints_rpl {w : World} {K : Nat → Prop} : ∀ (xs : List Int), RpL (Rp w K (.int .i64)) xs (xs.map intV) []
  | [] => ⟨rfl, rfl⟩
  | x :: xs => ⟨[intV x], xs.map intV, [], [], rfl, rfl, by simp only [Rp]; exact ⟨rfl, trivial⟩, ints_rpl xs⟩
theorem ints_one (xs : List Int) : ∀ v ∈ xs.map intV, v.oneCell' = true := by
  intro v hv
  obtain ⟨x, _, rfl⟩ := List.mem_map.1 hv
  rfl
theorem ins_post {w w' : World} {Ro : Nat → Prop} {F : List Nat} {vals : List Value} {e : TypeId} {zs : List Int} {g off c n : Nat} {cs : Array Value} {fr : Nat × Nat} (hst : Step w w' (fun x => x ∈ [] ++ F)) (hg : w'.heap[g]? = some (.cells cs e fr))
    (hfr : NFt (.int .i64) fr cs.size) (hoff : off + c ≤ cs.size) (hn : n = zs.length) (hc : zs.length ≤ c) (hz : (cs.toList.drop off).take zs.length = zs.map intV) (hgF : g ∈ F ∨ w.heap.size ≤ g) :
    CallPost w Ro [] F vals ⟨[.one ⟨.sl true e (.int .i64), zs⟩], [], []⟩ (.slice (some ⟨g, off, none⟩) n c) w' := by
  subst hn
  refine ⟨[.slice (some ⟨g, off, none⟩) zs.length c], [g], [], [], rfl, ?_, ⟨rfl, rfl⟩, rfl, by simp, ?_, hst⟩
  · refine ⟨_, [], [g], [], rfl, rfl, ⟨?_, fun h => by cases h⟩, rfl, rfl⟩
    dsimp only
    rw [Rp]
    refine .inr ⟨g, off, c, cs, fr, [], rfl, rfl, hg, hfr, by simpa [Ty.size] using hoff, hc, ?_⟩
    rw [show List.length zs * (Ty.int .i64).size = zs.length by simp [Ty.size]]
    have hz' : (cs.toList.drop off).take (List.length zs) = zs.map intV := hz
    rw [hz']
    exact ints_rpl zs
  · intro x hx
    simp only [List.append_nil, List.mem_singleton] at hx
    subst hx
    exact ⟨lt_size hg, hgF⟩
theorem drew_step (w : World) (T : Nat → Prop) : Step w w.drew T := ⟨rfl, rfl, rfl, Nat.le_refl _, fun _ _ _ => rfl⟩
theorem alloc_step (w : World) (o : Obj) (T : Nat → Prop) : Step w (w.alloc o) T :=
  ⟨rfl, rfl, rfl, (by show w.heap.size ≤ (w.heap.push _).size; simp), fun g hg _ => (by show (w.heap.push _)[g]? = _; simp [Array.getElem?_push, show ¬ (g = w.heap.size) by omega])⟩
variable {P : Program} {ρ : Ren}
theorem own_ints {w : World} {K : Nat → Prop} {e : TypeId} {xs : List Int} {v : Value} {F : List Nat} (h : Rp w K (.sl true e (.int .i64)) xs [v] F) :
    (xs = [] ∧ F = [] ∧ v = .slice none 0 0) ∨ ∃ g off c cs fr, v = .slice (some ⟨g, off, none⟩) xs.length c ∧ F = [g] ∧ w.heap[g]? = some (.cells cs e fr) ∧ NFt (.int .i64) fr cs.size ∧ off + c ≤ cs.size ∧ xs.length ≤ c ∧ (cs.toList.drop off).take xs.length = xs.map intV := by
  rw [Rp] at h
  rcases h with ⟨h1, h2, h3⟩ | ⟨g, off, c, cs, fr, F', h1, h2, h3, h4, h5, h6, h7⟩
  · injection h3 with h3; exact .inl ⟨h1, h2, h3⟩
  · injection h1 with h1
    obtain ⟨h8, rfl⟩ := rpl_ints h7
    refine .inr ⟨g, off, c, cs, fr, h1, h2, h3, h4, by simpa [Ty.size] using h5, h6, ?_⟩
    have e1 : List.length xs * (Ty.int .i64).size = xs.length := by simp [Ty.size]
    rw [e1] at h8
    exact h8
theorem ints_at {w : World} {g off : Nat} {cs : Array Value} {e : TypeId} {fr : Nat × Nat} {xs : List Int} (hg : w.heap[g]? = some (.cells cs e fr)) (h : (cs.toList.drop off).take xs.length = xs.map intV) :
    ∀ j v, (xs.map intV)[j]? = some v → w.cell? ⟨g, off + j, none⟩ = some v := by
  intro j v hj
  rw [cell_blk hg]
  have hlt := (List.getElem?_eq_some_iff.1 hj).1
  rw [List.length_map] at hlt
  rw [← h, List.getElem?_take_of_lt hlt, List.getElem?_drop, Array.getElem?_toList] at hj
  exact hj
theorem shifted {cs cs1 cs2 : Array Value} {off i m n : Nat} {A V : List Value} (hA : A.length = n) (hV : V.length = m) (hi : i ≤ n) (h0 : (cs.toList.drop off).take n = A)
    (h1 : ∀ k, cs1[k]? = if off + (i + m) ≤ k ∧ k < off + (i + m) + (A.drop i).length then (A.drop i)[k - (off + (i + m))]? else cs[k]?)
    (h2 : ∀ k, cs2[k]? = if off + i ≤ k ∧ k < off + i + V.length then V[k - (off + i)]? else cs1[k]?) :
    (cs2.toList.drop off).take (n + m) = A.take i ++ (V ++ A.drop i) := by
  have hdl : (A.drop i).length = n - i := by rw [List.length_drop, hA]
  have htl : (A.take i).length = i := by rw [List.length_take, hA]; omega
  apply List.ext_getElem?
  intro j
  by_cases hj : j < i
  · rw [List.getElem?_append_left (by omega), List.getElem?_take_of_lt (by omega), List.getElem?_drop, Array.getElem?_toList, h2, if_neg (by omega), h1, if_neg (by omega), List.getElem?_take_of_lt hj, ← h0,
      List.getElem?_take_of_lt (by omega), List.getElem?_drop, Array.getElem?_toList]
  · rw [List.getElem?_append_right (by omega), htl]
    by_cases hj2 : j < i + m
    · rw [List.getElem?_append_left (by omega), List.getElem?_take_of_lt (by omega), List.getElem?_drop, Array.getElem?_toList, h2, if_pos (by omega)]
      congr 1; omega
    · rw [List.getElem?_append_right (by omega), hV]
      by_cases hj3 : j < n + m
      · rw [List.getElem?_take_of_lt hj3, List.getElem?_drop, Array.getElem?_toList, h2, if_neg (by omega), h1, if_pos (by omega)]
        congr 1; omega
      · rw [List.getElem?_eq_none (by rw [List.length_take]; omega), List.getElem?_eq_none (by omega)]
theorem insert_sound (L : Go.Proofs.Lays2.n21 P ρ) (e2 : TypeId) (xs vs : List Int) (i : Nat) (hi : i ≤ xs.length) (hv : vs ≠ []) (hroom : (xs.length + vs.length) * 8 ≤ 140737488355328) :
    CallSound P (ρ.f 21) [.one ⟨.sl true (ρ.t 3) (.int .i64), xs⟩, .one ⟨.int .i64, ((i : Nat) : Int)⟩, .one ⟨.sl true e2 (.int .i64), vs⟩] [] ⟨[.one ⟨.sl true (ρ.t 3) (.int .i64), xs.take i ++ (vs ++ xs.drop i)⟩], [], []⟩ := by
  refine ⟨⟨_, L.f21, rfl, rfl⟩, ?_⟩
  rintro w _ Ro ms _ F2 ⟨v0, _, G0, _, rfl, rfl, ⟨h0, _⟩, ⟨v1, _, G1, _, rfl, rfl, ⟨h1, _⟩, ⟨v2, _, G2, _, rfl, rfl, ⟨h2, _⟩, rfl, rfl⟩⟩⟩ hR hnd hlt
  dsimp only at h0 h1 h2
  cases ms with
  | cons g gs => obtain ⟨_, _, _, _, _, _, _, h, _⟩ := hR; cases h
  | nil =>
  obtain ⟨_, rfl⟩ := hR
  simp only [Rp] at h1
  obtain ⟨h1, rfl⟩ := h1
  injection h1 with h1
  subst h1
  rcases own_ints h2 with ⟨h, _, _⟩ | ⟨vb, voff, vc, csv, frv, rfl, rfl, hgv, hnv, hov, hcv, hzv⟩
  · exact absurd h hv
  have hvl : (vs.map intV).length = vs.length := List.length_map _
  have hm : 0 < vs.length := List.length_pos_iff.2 hv
  have hvs := ints_at hgv hzv
  have hlen : (xs.take i ++ (vs ++ xs.drop i)).length = xs.length + vs.length := by simp; omega
  have hmap : (xs.take i ++ (vs ++ xs.drop i)).map intV = (xs.map intV).take i ++ (vs.map intV ++ (xs.map intV).drop i) := by simp [List.map_take, List.map_drop]
  have hcl : (xs.map intV).length = xs.length := List.length_map _
  rcases own_ints h0 with ⟨rfl, rfl, rfl⟩ | ⟨b, off, c, cs, fr, rfl, rfl, hg, hnf, hoc, hnc, hz⟩
  · -- nil
    obtain rfl : i = 0 := by simpa using hi
    have hN := lt_size hgv
    refine (Go.Proofs.Any2.slices_Insert_int_end_grow L none 0 0 vb voff vs.length vc [] (vs.map intV) w hm (Nat.le_refl _) (by omega) (by simpa using hroom) rfl hvl (fun _ => rfl) (fun a h => by cases h) hvs (ints_one vs)).mono ?_
    rintro _ _ ⟨rfl, rfl⟩
    have hge := grownCap_ge w (0 + vs.length) 0 (ρ.t 3)
    have hgm := grownCap_le_maxLen w (0 + vs.length) 0 (ρ.t 3) (by unfold maxLen; simp at hroom; omega)
    generalize grownCap w (0 + vs.length) 0 (ρ.t 3) = gc at hge hgm
    unfold maxLen at hgm
    refine ⟨_, rfl, ?_⟩
    have hsz : (([] ++ vs.map intV).toArray ++ Builtin.zeroCells (Value.int .i64 0).cells (gc - (0 + vs.length))).size = gc := by
      rw [Array.size_append, size_zeroCells]; simp [Value.cells]; omega
    refine ins_post (g := w.heap.size) ((drew_step w _).trans (alloc_step w.drew _ _)) (push_new w _) (NFt.zero _ (fun _ => by rw [hsz]; omega)) (by rw [hsz]; omega) (by rw [hlen]; simp) (by rw [hlen]; simpa using hge) ?_ (.inr (Nat.le_refl _))
    rw [hlen, hmap, List.drop_zero, Array.toList_append, List.take_append_of_le_length (by simp)]
    simp only [List.length_nil, Nat.zero_add, List.nil_append, List.map_nil, List.take_nil, List.drop_nil, List.append_nil]
    exact List.take_of_length_le (by simp)
  · have hcs := ints_at hg hz
    have hcm : cs.size ≤ 9223372036854775807 := hnf.le rfl
    have hbv : vb ≠ b := by
      rintro rfl
      simp at hnd
    by_cases hlt2 : i < xs.length
    · by_cases hrm : xs.length + vs.length ≤ c
      · refine (Go.Proofs.Any2.slices_Insert_int_shift L b off xs.length c i vb voff vs.length vc (xs.map intV) (vs.map intV) w hlt2 hm hrm (by omega) hbv hcl hvl hcs
          (fun j hj => by rw [cell_blk hg, Array.getElem?_eq_getElem (by omega)]; rfl) (fun j hj => frozen_blk hg hnf.nf (by omega)) hvs (ints_one xs) (ints_one vs) e2 (ρ.t 3) csv.size cs.size
          (by unfold World.shape?; rw [hgv]) (by unfold World.shape?; rw [hg]) (by omega) (frozen_blk hgv hnv.nf (by omega)) (by
            unfold World.frozen?; rw [hgv]
            have := hnv.at' (by simp)
            simp only [Bool.and_eq_false_iff, decide_eq_false_iff_not]; omega)).mono ?_
        rintro _ _ ⟨rfl, rfl⟩
        refine ⟨_, rfl, ?_⟩
        have hgd : w.drew.heap[b]? = some (.cells cs (ρ.t 3) fr) := hg
        have hdl : ((xs.map intV).drop i).length = xs.length - i := by rw [List.length_drop, hcl]
        obtain ⟨c1, s1, s2, s3⟩ := setCells_blk ((xs.map intV).drop i) (off + (i + vs.length)) w.drew cs hgd (by omega)
        obtain ⟨s4, s5⟩ := setCells_step (g := b) ((xs.map intV).drop i) (off + (i + vs.length)) w.drew
        obtain ⟨c2, u1, u2, u3⟩ := setCells_blk (vs.map intV) (off + i) _ c1 s1 (by omega)
        obtain ⟨u4, u5⟩ := setCells_step (g := b) (vs.map intV) (off + i) (w.drew.setCells b (off + (i + vs.length)) ((xs.map intV).drop i))
        refine ins_post (g := b) (((drew_step w _).trans (s4.trans u4)).mono (fun x hx => by subst hx; simp)) u1 (by rw [u2, s2]; exact hnf) (by rw [u2, s2]; exact hoc) hlen.symm (by rw [hlen]; exact hrm) ?_ (.inl (by simp))
        rw [hlen, hmap]
        exact shifted hcl hvl hi hz s3 u3
      · refine (Go.Proofs.Any2.slices_Insert_int_grow L b off xs.length c i vb voff vs.length vc (xs.map intV) (vs.map intV) w hlt2 hm hnc (by omega) hroom hcl hvl hcs hvs (ints_one xs) (ints_one vs)).mono ?_
        rintro _ _ ⟨rfl, rfl⟩
        have hge := grownCap_ge w (xs.length + vs.length) c (ρ.t 3)
        have hgm := grownCap_le_maxLen w (xs.length + vs.length) c (ρ.t 3) (by unfold maxLen; omega)
        generalize grownCap w (xs.length + vs.length) c (ρ.t 3) = gc at hge hgm
        unfold maxLen at hgm
        refine ⟨_, rfl, ?_⟩
        generalize hrow : ((xs.map intV).take i).toArray ++ Builtin.zeroCells (Value.int .i64 0).cells (xs.length + vs.length - i) ++ Builtin.zeroCells (Value.int .i64 0).cells (gc - (xs.length + vs.length)) = row
        have hsz : row.size = gc := by
          rw [← hrow, Array.size_append, Array.size_append, size_zeroCells, size_zeroCells]; simp [Value.cells]; omega
        have htk : row.toList.take i = (xs.map intV).take i := by
          rw [← hrow, Array.toList_append, Array.toList_append, List.append_assoc, List.take_append_of_le_length (by simp; omega)]
          simp only [List.take_take, Nat.min_self]
        have hgd : (w.alloc (.cells row (ρ.t 3))).drew.heap[w.heap.size]? = some (.cells row (ρ.t 3) (0, 0)) := push_new w _
        have hdl : ((xs.map intV).drop i).length = xs.length - i := by rw [List.length_drop, hcl]
        obtain ⟨c1, s1, s2, s3⟩ := setCells_blk (vs.map intV) i _ row hgd (by omega)
        obtain ⟨s4, s5⟩ := setCells_step (g := w.heap.size) (vs.map intV) i (w.alloc (.cells row (ρ.t 3))).drew
        have s1' : ((w.alloc (.cells row (ρ.t 3))).drew.setCells w.heap.size i (vs.map intV)).drew.heap[w.heap.size]? = some (.cells c1 (ρ.t 3) (0, 0)) := s1
        obtain ⟨c2, u1, u2, u3⟩ := setCells_blk ((xs.map intV).drop i) (i + vs.length) _ c1 s1' (by omega)
        obtain ⟨u4, u5⟩ := setCells_step (g := w.heap.size) ((xs.map intV).drop i) (i + vs.length) ((w.alloc (.cells row (ρ.t 3))).drew.setCells w.heap.size i (vs.map intV)).drew
        have hstep : Step w (((w.alloc (.cells row (ρ.t 3))).drew.setCells w.heap.size i (vs.map intV)).drew.setCells w.heap.size (i + vs.length) ((xs.map intV).drop i)) (fun x => x ∈ [] ++ ([b] ++ ([] ++ ([vb] ++ [])) ++ [])) := by
          have h9 := (((alloc_step w (.cells row (ρ.t 3)) (fun x => x = w.heap.size)).trans (drew_step _ _)).trans s4).trans ((drew_step _ _).trans u4)
          exact ⟨h9.os, h9.tape, h9.output, h9.size, fun g hg _ => h9.same g hg (by omega)⟩
        refine ins_post (g := w.heap.size) hstep u1 (NFt.zero _ (fun _ => by rw [u2, s2, hsz]; omega)) (by rw [u2, s2, hsz]; omega) hlen.symm (by rw [hlen]; exact hge) ?_ (.inr (Nat.le_refl _))
        rw [hlen, hmap, List.drop_zero]
        have htl : ((xs.map intV).take i).length = i := by rw [List.length_take, hcl]; omega
        apply List.ext_getElem?
        intro j
        by_cases hj : j < i
        · rw [List.getElem?_append_left (by omega), List.getElem?_take_of_lt (by omega), Array.getElem?_toList, u3, if_neg (by omega), s3, if_neg (by omega), ← htk, List.getElem?_take_of_lt hj, Array.getElem?_toList]
        · rw [List.getElem?_append_right (by omega), htl]
          by_cases hj2 : j < i + vs.length
          · rw [List.getElem?_append_left (by omega), List.getElem?_take_of_lt (by omega), Array.getElem?_toList, u3, if_neg (by omega), s3, if_pos (by omega)]
          · rw [List.getElem?_append_right (by omega), hvl]
            by_cases hj3 : j < xs.length + vs.length
            · rw [List.getElem?_take_of_lt hj3, Array.getElem?_toList, u3, if_pos (by omega)]
              congr 1; omega
            · rw [List.getElem?_eq_none (by rw [List.length_take]; omega), List.getElem?_eq_none (by omega)]
    · obtain rfl : i = xs.length := by omega
      have hmap2 : (xs.take xs.length ++ (vs ++ xs.drop xs.length)).map intV = xs.map intV ++ vs.map intV := by simp
      by_cases hrm : xs.length + vs.length ≤ c
      · refine (Go.Proofs.Any2.slices_Insert_int_end_room L b off xs.length c vb voff vs.length vc (vs.map intV) w hm hrm (by omega) hvl
          (fun j hj => by rw [cell_blk hg, Array.getElem?_eq_getElem (by omega)]; rfl) (fun j hj => frozen_blk hg hnf.nf (by omega)) hvs (ints_one vs)).mono ?_
        rintro _ _ ⟨rfl, rfl⟩
        refine ⟨_, rfl, ?_⟩
        obtain ⟨c1, s1, s2, s3⟩ := setCells_blk (vs.map intV) (off + xs.length) w cs hg (by omega)
        obtain ⟨s4, s5⟩ := setCells_step (g := b) (vs.map intV) (off + xs.length) w
        refine ins_post (g := b) (s4.mono (fun x hx => by subst hx; simp)) s1 (by rw [s2]; exact hnf) (by rw [s2]; exact hoc) hlen.symm (by rw [hlen]; exact hrm) ?_ (.inl (by simp))
        rw [hlen, hmap2]
        apply List.ext_getElem?
        intro j
        by_cases hj : j < xs.length
        · rw [List.getElem?_append_left (by omega), List.getElem?_take_of_lt (by omega), List.getElem?_drop, Array.getElem?_toList, s3, if_neg (by omega), ← hz, List.getElem?_take_of_lt hj, List.getElem?_drop, Array.getElem?_toList]
        · rw [List.getElem?_append_right (by omega), hcl]
          by_cases hj2 : j < xs.length + vs.length
          · rw [List.getElem?_take_of_lt hj2, List.getElem?_drop, Array.getElem?_toList, s3, if_pos (by omega)]
            congr 1; omega
          · rw [List.getElem?_eq_none (by rw [List.length_take]; omega), List.getElem?_eq_none (by omega)]
      · refine (Go.Proofs.Any2.slices_Insert_int_end_grow L (some ⟨b, off, none⟩) xs.length c vb voff vs.length vc (xs.map intV) (vs.map intV) w hm hnc (by omega) hroom hcl hvl (fun h => by cases h)
          (fun a ha j v hj => by injection ha with ha; subst ha; rw [add_blk]; exact hcs j v hj) hvs (ints_one vs)).mono ?_
        rintro _ _ ⟨rfl, rfl⟩
        have hge := grownCap_ge w (xs.length + vs.length) c (ρ.t 3)
        have hgm := grownCap_le_maxLen w (xs.length + vs.length) c (ρ.t 3) (by unfold maxLen; omega)
        generalize grownCap w (xs.length + vs.length) c (ρ.t 3) = gc at hge hgm
        unfold maxLen at hgm
        refine ⟨_, rfl, ?_⟩
        have hsz : ((xs.map intV ++ vs.map intV).toArray ++ Builtin.zeroCells (Value.int .i64 0).cells (gc - (xs.length + vs.length))).size = gc := by
          rw [Array.size_append, size_zeroCells]; simp [Value.cells]; omega
        refine ins_post (g := w.heap.size) ((drew_step w _).trans (alloc_step w.drew _ _)) (push_new w _) (NFt.zero _ (fun _ => by rw [hsz]; omega)) (by rw [hsz]; omega) hlen.symm (by rw [hlen]; exact hge) ?_ (.inr (Nat.le_refl _))
        rw [hlen, hmap2, List.drop_zero, Array.toList_append, List.take_append_of_le_length (by simp)]
        rw [List.take_of_length_le (by simp)]
theorem lay_t {t : TypeId} {d : TypeDesc} {z : Value} (hu : P.underlying t = some d) (hi : (P.info? t).map (fun i => (i.zero, i.size)) = some (some z, 1)) :
    (∀ w, (isAgg t).run P w = .ok (isAggD d) w) ∧ (∀ w, (Go.sizeOf t).run P w = .ok 1 w) ∧ (∀ w, (zeroValue t).run P w = .ok z w) := by
  cases h : P.info? t with
  | none => rw [h] at hi; cases hi
  | some i =>
    rw [h] at hi
    simp only [Option.map_some, Option.some.injEq, Prod.mk.injEq] at hi
    obtain ⟨h1, h2⟩ := hi
    exact ⟨fun w => run_isAgg hu w, fun w => by rw [run_size h, h2], fun w => run_zero h h1 w⟩
theorem lays_of (mixed : P.follows .mixedOrders = true) (f21 : P.funcs[ρ.f 21]? = some (Go.Proofs.Body2.n21 ρ)) (f27 : P.funcs[ρ.f 27]? = some (Go.Proofs.Body2.n27 ρ)) (f28 : P.funcs[ρ.f 28]? = some (Go.Proofs.Body2.n28 ρ))
    (f35 : P.funcs[ρ.f 35]? = some (Go.Proofs.Body2.n35 ρ)) (f39 : P.funcs[ρ.f 39]? = some (Go.Proofs.Body2.n39 ρ))
    (t0 : P.underlying (ρ.t 0) = some (TypeDesc.tuple #[])) (t3 : P.underlying (ρ.t 3) = some (TypeDesc.int IntKind.i64)) (t4 : P.underlying (ρ.t 4) = some (TypeDesc.bool)) (t22 : P.underlying (ρ.t 22) = some (TypeDesc.slice (ρ.t 3)))
    (i0 : (P.info? (ρ.t 0)).map (fun i => (i.zero, i.size)) = some (some (Value.tuple #[]), 1)) (i3 : (P.info? (ρ.t 3)).map (fun i => (i.zero, i.size, i.bytes)) = some (some (Value.int IntKind.i64 0), 1, 8))
    (i4 : (P.info? (ρ.t 4)).map (fun i => (i.zero, i.size)) = some (some (Value.bool false), 1)) (i22 : (P.info? (ρ.t 22)).map (fun i => (i.zero, i.size)) = some (some (Value.slice none 0 0), 1)) : Go.Proofs.Lays2.n21 P ρ := by
  have i3' : (P.info? (ρ.t 3)).map (fun i => (i.zero, i.size)) = some (some (Value.int IntKind.i64 0), 1) := by
    cases h : P.info? (ρ.t 3) with
    | none => rw [h] at i3; cases i3
    | some i =>
      rw [h] at i3
      simp only [Option.map_some, Option.some.injEq, Prod.mk.injEq] at i3 ⊢
      exact ⟨i3.1, i3.2.1⟩
  have l0 := lay_t t0 i0
  have l3 := lay_t t3 i3'
  have l4 := lay_t t4 i4
  have l22 := lay_t t22 i22
  exact { mixed := mixed, f21 := f21, f27 := f27, f28 := f28, f35 := f35, f39 := f39, t0 := t0, a0 := l0.1, z0 := l0.2.1, v0 := l0.2.2, t3 := t3, a3 := l3.1, z3 := l3.2.1, v3 := l3.2.2, t4 := t4, a4 := l4.1, z4 := l4.2.1, v4 := l4.2.2, t22 := t22, a22 := l22.1, z22 := l22.2.1, v22 := l22.2.2, i3 := i3 }
theorem ins_known (L : Go.Proofs.Lays2.n21 P ρ) {x0 : List Int} {x1 : Int} {x2 y : List Int} (h : (if 0 ≤ x1 ∧ x1.toNat ≤ x0.length ∧ x2 ≠ [] ∧ (x0.length + x2.length) * 8 ≤ 140737488355328 then some (x0.take x1.toNat ++ (x2 ++ x0.drop x1.toNat)) else none) = some y) :
    CallSound P (ρ.f 21) [.one ⟨.sl true (ρ.t 3) (.int .i64), x0⟩, .one ⟨.int .i64, x1⟩, .one ⟨.sl true (ρ.t 3) (.int .i64), x2⟩] [] ⟨[.one ⟨.sl true (ρ.t 3) (.int .i64), y⟩], [], []⟩ := by
  split at h
  · rename_i hc
    injection h with h
    subst h
    obtain ⟨h1, h2, h3, h4⟩ := hc
    obtain ⟨i, rfl⟩ := Int.eq_ofNat_of_zero_le h1
    exact insert_sound L _ x0 x2 i h2 h3 h4
  · cases h
end Go.V
