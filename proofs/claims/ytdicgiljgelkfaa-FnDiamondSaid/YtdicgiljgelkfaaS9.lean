/-
  S9: stores.
-/
import Derived.Test.YtdicgiljgelkfaaS8
namespace Go.V
open Go.RowKit

theorem Stay.trans0 {S S1 S2 : St} {c c1 c2 : Cc} {w w1 w2 : World} {K K1 K2 : Nat → Prop} {ks : List Kl} (h : Stay S S1 c c1 w w1 K K1 []) (k : Stay S1 S2 c1 c2 w1 w2 K1 K2 ks) : Stay S S2 c c2 w w2 K K2 ks := by
  refine ⟨fun k' st win v hk hl => k.vw k' st win v hk (h.vw k' st win v rfl hl), fun k' st v hk hl => k.el k' st v hk (h.el k' st v rfl hl), fun k' off v hk hl => k.pl k' off v hk (h.pl k' off v rfl hl), ?_⟩
  refine ⟨Nat.le_trans h.kk.1 k.kk.1, fun g hg hlt => ?_⟩
  obtain ⟨h1, h2⟩ := h.kk.2 g hg hlt
  obtain ⟨h3, h4⟩ := k.kk.2 g h2 (Nat.lt_of_lt_of_le hlt h.kk.1)
  exact ⟨h3.trans h1, h4⟩
theorem Stay.leaf0 {S S1 : St} {c c1 : Cc} {w w1 : World} {K K1 : Nat → Prop} (h : Stay S S1 c c1 w w1 K K1 []) {l : Leaf} {v : Value} (hl : LeafOk S c w K l v) : LeafOk S1 c1 w1 K1 l v := by
  have := h.leaf hl
  rwa [Leaf.kp_nil] at this
theorem Stay.refl (S : St) (c : Cc) (w : World) (K : Nat → Prop) : Stay S S c c w w K K [] := ⟨fun _ _ _ _ _ h => h, fun _ _ _ _ h => h, fun _ _ _ _ h => h, KSame.refl _ _⟩

/-- values into a variable's cells, side by side -/
theorem memStore {b : Base} {c : Cc} (k n : Nat) : ∀ (ls : List Leaf) (vs : List Value) (off : Nat) (S : St) (w : World), Inv b S w c → S.ms k = some n → off + ls.length ≤ n → All2 (LeafOk S c w (Kok b S c)) ls vs →
    Inv b (S.ups (stPls k ls off)) (w.setCells (c.mb k) off vs) c ∧ Stay S (S.ups (stPls k ls off)) c c w (w.setCells (c.mb k) off vs) (Kok b S c) (Kok b (S.ups (stPls k ls off)) c) []
  | [], _, off, S, w, hi, _, _, .nil => ⟨hi, Stay.refl _ _ _ _⟩
  | l :: ls, _, off, S, w, hi, hk, hle, .cons (b := v) (bs := vs) h1 h2 => by
    simp only [List.length_cons] at hle
    obtain ⟨h3, h4⟩ := hi.setMem k off n l v hk (by omega) h1 rfl rfl
    have ih := memStore k n ls vs (off + 1) (S.up (.mc k off l)) (w.setCell ⟨c.mb k, off, none⟩ v) h3 hk (by omega) (h2.mono fun l v h => h4.leaf0 h)
    exact ⟨ih.1, h4.trans0 ih.2⟩

theorem cells_there {b : Base} {S : St} {c : Cc} {w : World} (hi : Inv b S w c) {k n : Nat} (hk : S.ms k = some n) {j : Nat} (hj : j < n) : (w.cell? ⟨c.mb k, j, none⟩).isSome = true ∧ w.frozen? ⟨c.mb k, j, none⟩ = false := by
  obtain ⟨cs, e, fr, h1, h2, h3, _⟩ := hi.ms k n hk
  refine ⟨?_, frozen_blk h1 h3 (by omega)⟩
  rw [cell_blk h1, Array.getElem?_eq_getElem (by omega)]; rfl

section
variable {P : Program} {ti : TypeId → TI}

theorem run_storeAt {t : TypeId} {i : TypeInfo} (hi : P.info? t = some i) {v : Value} {vs : List Value} (hv : v.cells = vs.toArray) (hn : i.size = vs.length) (ad : Addr) (w w' : World) (h : (storeCells ad vs).run P w = .ok () w') :
    (Instr.storeAt t (.pointer (some ad)) v).run P w = .ok () w' := by
  simp only [Instr.storeAt, Instr.sureAddr, Sem.run_bind, Sem.run_pure, Result.andThen_ok, storeVar, run_size hi, Sem.run_ite]
  rw [if_neg (by rw [hv, hn]; simp), hv]
  exact h

/-- a store into a variable -/
theorem stPl_ok {b : Base} {S : St} {c : Cc} {w : World} (hT : TabOk P ti) (hi : Inv b S w c) {t : TypeId} {k off : Nat} {v u : Value} {ts : List Ty} {x : SV} {ls : List Leaf} {r : List Kl × List U}
    (ha : S1Ok S c w (Kok b S c) (.pl k off) v) (ht : (ti t).cells = some ts) (hx : SVOk S c w (Kok b S c) x u) (hl : leaves x = some ls) (hn : ls.length = ts.length) (h : (stCells (.pl k off) ls).ev S = some r) :
    ∃ w', (Instr.storeAt t v u).run P w = .ok () w' ∧ Did b S c w ⟨.no, r.1, r.2⟩ undef w' := by
  obtain ⟨n, hk, rfl⟩ := ha
  simp only [stCells, Tr.ev, hk] at h
  split at h
  · rename_i hle
    simp only [Tr.ev, Option.some.injEq] at h
    subst h
    obtain ⟨i, h1, h2, _⟩ := size_of hT ht
    obtain ⟨vs, h3, h4, h5⟩ := leaves_ok hi hx hl
    obtain ⟨h6, h7⟩ := memStore k n ls vs off S w hi hk hle h4
    have hlen := h4.len
    have hrun := run_storeCells_cells (P := P) (c.mb k) off vs 0 w (fun j hj => (cells_there hi hk (by omega)).1) (fun j hj => (cells_there hi hk (by omega)).2) h5
    exact ⟨_, run_storeAt h1 h3 (by omega) _ w _ hrun, c, h6, h7, trivial⟩
  · simp [Tr.ev] at h
end

theorem bump_bump : ∀ (st : Steps) (a b : Nat), bump (bump st a) b = bump st (a + b)
  | [], _, _ => rfl
  | [(i, j)], a, b => by simp only [bump]; congr 2; omega
  | p :: q :: ps, a, b => by
    have hb : bump (p :: q :: ps) a = p :: bump (q :: ps) a := rfl
    obtain ⟨q', ps', hq⟩ : ∃ q' ps', bump (q :: ps) a = q' :: ps' := by
      cases ps with
      | nil => obtain ⟨x, y⟩ := q; exact ⟨_, _, rfl⟩
      | cons q2 ps => exact ⟨_, _, rfl⟩
    rw [hb, hq]
    show p :: bump (q' :: ps') b = p :: bump (q :: ps) (a + b)
    rw [← hq, bump_bump (q :: ps) a b]

/-- a leaf as typed data -/
theorem absorb_ok {b : Base} {S : St} {c : Cc} {w : World} (hi : Inv b S w c) {t : Ty} {l : Leaf} {v : Value} {z : t.D × List Nat} (hl : LeafOk S c w (Kok b S c) l v) (h : (absorb t l).ev S = some z) :
    (∀ k, k ∈ z.2 → S.ow k ≠ none) ∧ unlike z.2 = true ∧ ∃ G, Rp w (Kok b S c) t z.1 [v] G ∧ G.Nodup ∧ ∀ g, g ∈ G → ∃ k, k ∈ z.2 ∧ g ∈ c.F k := by
  unfold absorb at h
  split at h
  · rename_i u x
    split at h
    · rename_i hu
      subst hu
      simp only [Tr.ev, Option.some.injEq] at h
      subst h
      exact ⟨by simp, rfl, [], hl, by simp, by simp⟩
    · simp [Tr.ev] at h
  · split at h
    · rename_i o e r
      simp only [Tr.ev, Option.some.injEq] at h
      subst h
      obtain rfl : v = .slice none 0 0 := hl
      refine ⟨by simp, rfl, [], ?_, by simp, by simp⟩
      cases o with
      | true => simp only [Rp]; exact .inl ⟨trivial, trivial, trivial⟩
      | false => simp only [Rp]; exact ⟨trivial, none, 0, [], rfl, Nat.le_refl _, ⟨rfl, rfl⟩, .inl trivial⟩
    · simp [Tr.ev] at h
  · rename_i k win
    simp only [ev_bind, Option.bind_eq_some_iff] at h
    obtain ⟨o, ho, h⟩ := h
    split at h
    · rename_i hu
      subst hu
      simp only [Tr.ev, Option.some.injEq] at h
      subst h
      obtain ⟨h1, F', h2, h3, h4⟩ := view_own hi hl ho
      exact ⟨by simpa using h1, by simp [unlike], F', h2, h4, fun g hg => ⟨k, by simp, h3 g hg⟩⟩
    · simp [Tr.ev] at h
  · simp [Tr.ev] at h

theorem unlike_cons {k : Nat} {ks : List Nat} (h : unlike (k :: ks) = true) : k ∉ ks ∧ unlike ks = true := by
  simp only [unlike, Bool.and_eq_true, Bool.not_eq_true'] at h
  exact ⟨by simpa using h.1, h.2⟩
theorem unlike_append : ∀ {a b : List Nat}, unlike (a ++ b) = true → unlike a = true ∧ unlike b = true ∧ ∀ k, k ∈ a → k ∉ b
  | [], b, h => ⟨rfl, h, by simp⟩
  | k :: a, b, h => by
    obtain ⟨h1, h2⟩ := unlike_cons (ks := a ++ b) h
    obtain ⟨h3, h4, h5⟩ := unlike_append h2
    refine ⟨?_, h4, ?_⟩
    · simp only [unlike, Bool.and_eq_true, Bool.not_eq_true', h3, and_true]
      simp only [List.mem_append] at h1
      simp; exact fun h => h1 (.inl h)
    · intro x hx
      rcases List.mem_cons.1 hx with rfl | hx
      · exact fun hb => h1 (by simp [hb])
      · exact h5 x hx

theorem Step.setCell (w : World) (a : Addr) (v : Value) : Step w (w.setCell a v) (fun g => g = a.block) :=
  ⟨rfl, rfl, rfl, by simp [World.setCell], fun g _ hg => Below.heap_setCell _ _ _ _ hg⟩

section
variable {P : Program} {ti : TypeId → TI}

/-- what lies in owners that are given up, or in the one that is written -/
abbrev InKeys (c : Cc) (κ : Nat) (ks : List Nat) (g : Nat) : Prop := g ∈ c.F κ ∨ ∃ k, k ∈ ks ∧ g ∈ c.F k

theorem elStore {b : Base} {S : St} {c : Cc} {w : World} (hi : Inv b S w c) (κ : Nat) (o0 : Own) (hκ : S.ow κ = some o0) (st : Steps) (hst : st ≠ []) (hst' : ∀ n, bump st n ≠ []) (ad : Addr) :
    ∀ (ls : List Leaf) (vs : List Value) (n : Nat) (xs : List o0.r.D) (done : List Nat) (w1 : World) (F1 : List Nat) (r : Own × List Nat),
      xs.length = o0.xs.length → Rp w1 (Kok b S c) (.sl true o0.e o0.r) xs [c.hv κ] F1 → F1.Nodup → (∀ g, g ∈ F1 → InKeys c κ done g) → (∀ k, k ∈ done → S.ow k ≠ none) →
      Step w w1 (InKeys c κ done) → w1.heap.size = w.heap.size → (∀ m, n ≤ m → adr w1 (c.hv κ) (.sl true o0.e o0.r) (bump st m) = some (ad.add m)) →
      All2 (LeafOk S c w (Kok b S c)) ls vs → (∀ v, v ∈ vs → v.oneCell' = true) → (stEls ⟨o0.e, o0.r, xs⟩ st ls n).ev S = some r → κ ∉ done ++ r.2 → unlike (done ++ r.2) = true →
      ∃ (xs' : List o0.r.D) (w' : World) (F' : List Nat), (storeCells ad vs n).run P w1 = .ok () w' ∧ r.1 = ⟨o0.e, o0.r, xs'⟩ ∧ xs'.length = o0.xs.length ∧ Rp w' (Kok b S c) (.sl true o0.e o0.r) xs' [c.hv κ] F' ∧ F'.Nodup ∧
        (∀ g, g ∈ F' → InKeys c κ (done ++ r.2) g) ∧ (∀ k, k ∈ done ++ r.2 → S.ow k ≠ none) ∧ Step w w' (InKeys c κ (done ++ r.2)) ∧ w'.heap.size = w.heap.size
  | [], _, n, xs, done, w1, F1, r, hlen, hp, hnd, hF, hd, hs, hsz, _, .nil, _, h, _, _ => by
    simp only [stEls, Tr.ev, Option.some.injEq] at h
    subst h
    simp only [List.append_nil]
    exact ⟨xs, w1, F1, rfl, rfl, hlen, hp, hnd, hF, hd, hs, hsz⟩
  | l :: ls, _, n, xs, done, w1, F1, r, hlen, hp, hnd, hF, hd, hs, hsz, hadr, .cons (b := v) (bs := vs) h1 h2, hone, h, hκd, hun => by
    simp only [stEls, ev_bind, Option.bind_eq_some_iff, Tr.ev, Option.some.injEq] at h
    obtain ⟨c0, hc0, z, hz, ys, hys, r2, hr2, rfl⟩ := h
    rw [ev_get] at hc0
    rw [ev_set] at hys
    obtain ⟨k1, k2, G, k3, k4, k5⟩ := absorb_ok hi h1 hz
    simp only [← List.append_assoc] at hun hκd
    obtain ⟨hu1, _, _⟩ := unlike_append hun
    obtain ⟨_, _, hu2⟩ := unlike_append hu1
    obtain ⟨a, h', Fa, G0, Fb, p1, p2, p3, rfl, p5, p6, p7, hput⟩ := Rp.put (bump st n) _ _ (hst' n) hp hnd hc0 hys
    rw [hadr n (Nat.le_refl _)] at p1
    injection p1 with p1
    subst p1
    have hblk : (ad.add n).block = ad.block := add_block _ _
    have hone1 : v.oneCell' = true := hone v (by simp)
    -- the store
    have hrun : (store (ad.add n) v).run P w1 = .ok () (w1.setCell (ad.add n) v) := by
      rw [run_store P w1 _ v _ hone1, p2]; simp [p7]
    have hstep := Step.setCell w1 (ad.add n) v
    have hin : ∀ g, g = (ad.add n).block → InKeys c κ done g := fun g hg => hF g (by rw [hg]; exact List.mem_append_left _ p5)
    -- what is absorbed lies apart
    have hGapart : ∀ g, g ∈ G → ¬ InKeys c κ done g := by
      intro g hg hx
      obtain ⟨k, hk, hgk⟩ := k5 g hg
      have hko : S.ow k ≠ none := k1 k hk
      have hkκ : k ≠ κ := by rintro rfl; exact hκd (by simp [hk])
      rcases hx with hx | ⟨k', hk', hx⟩
      · exact hi.oo k κ hkκ hko (by rw [hκ]; simp) g hgk hx
      · have hkk : k ≠ k' := by rintro rfl; exact hu2 k hk' hk
        exact hi.oo k k' hkk hko (hd k' hk') g hgk hx
    have hGsame : Same w w1 G := fun g hg => by
      obtain ⟨k, hk, hgk⟩ := k5 g hg
      exact hs.same g (hi.fr g (.inr ⟨k, k1 k hk, hgk⟩)).1 (hGapart g hg)
    have hT : ∀ g, InKeys c κ done g → Owned S c g := by
      rintro g (hg | ⟨k, hk, hg⟩)
      · exact .inr ⟨κ, by rw [hκ]; simp, hg⟩
      · exact .inr ⟨k, hd k hk, hg⟩
    have kk1 : KSame w w1 (Kok b S c) (Kok b S c) := ksame hs hT (fun g hg => .inl hg)
    have kk2 : KSame w1 (w1.setCell (ad.add n) v) (Kok b S c) (Kok b S c) := ⟨hstep.size, fun g hg hlt => ⟨hstep.same g hlt fun e => hg.2 (hT g (hin g e)), hg⟩⟩
    have hz1 : Rp w1 (Kok b S c) c0.1 z.1 [v] G := Rp.frame kk1 _ _ k3 hGsame
    have hz2 : Rp (w1.setCell (ad.add n) v) (Kok b S c) c0.1 z.1 [v] G := Rp.frame kk2 _ _ hz1 fun g hg => Below.heap_setCell _ _ _ _ fun e => hGapart g hg (hin g e)
    obtain ⟨hnew, hadr2⟩ := hput _ _ v G hz2 kk2 rfl (fun g _ hg => Below.heap_setCell _ _ _ _ hg)
    have hset : ys.length = xs.length := by
      obtain ⟨⟨i, j⟩, ps, hb⟩ : ∃ p ps, bump st n = p :: ps := by
        cases hbb : bump st n with
        | nil => exact absurd hbb (hst' n)
        | cons p ps => exact ⟨p, ps, rfl⟩
      rw [hb] at hys
      simp only [setT, run_get, Option.bind_eq_some_iff] at hys
      obtain ⟨row, _, hys⟩ := hys
      split at hys
      · simp only [run_bind, Option.bind_eq_some_iff] at hys
        obtain ⟨yy, _, hys⟩ := hys
        split at hys
        · simp only [Tr.run, Option.some.injEq] at hys; rw [← hys]; simp
        · simp [Tr.run] at hys
      · simp [Tr.run] at hys
    have hFnd : (Fa ++ (G ++ Fb)).Nodup := by
      rw [List.nodup_append] at hnd ⊢
      obtain ⟨n1, n2, n3⟩ := hnd
      rw [List.nodup_append] at n2 ⊢
      refine ⟨n1, ⟨k4, n2.2.1, ?_⟩, ?_⟩
      · rintro x hx y hy rfl
        exact hGapart x hx (hF x (by simp [hy]))
      · rintro x hx y hy rfl
        rcases List.mem_append.1 hy with hy | hy
        · exact hGapart x hy (hF x (by simp [hx]))
        · exact n3 x hx x (by simp [hy]) rfl
    have ih := elStore hi κ o0 hκ st hst hst' ad ls vs (n + 1) ys (done ++ z.2) (w1.setCell (ad.add n) v) (Fa ++ (G ++ Fb)) r2 (hset.trans hlen) hnew hFnd
      (by
        intro g hg
        rcases List.mem_append.1 hg with hg | hg
        · rcases hF g (by simp [hg]) with h | ⟨k, h, h'⟩
          · exact .inl h
          · exact .inr ⟨k, by simp [h], h'⟩
        · rcases List.mem_append.1 hg with hg | hg
          · obtain ⟨k, h, h'⟩ := k5 g hg; exact .inr ⟨k, by simp [h], h'⟩
          · rcases hF g (by simp [hg]) with h | ⟨k, h, h'⟩
            · exact .inl h
            · exact .inr ⟨k, by simp [h], h'⟩)
      (by intro k hk; rcases List.mem_append.1 hk with hk | hk; exact hd k hk; exact k1 k hk)
      ((hs.trans (hstep.mono hin)).mono (by rintro g (h | ⟨k, h, h'⟩); exact .inl h; exact .inr ⟨k, by simp [h], h'⟩))
      (by rw [← hsz]; simp [World.setCell])
      (by
        intro m hm
        have := hadr2 (m - n)
        rw [bump_bump, show n + (m - n) = m by omega] at this
        rw [this]; exact hadr m (by omega))
      h2 (fun v hv => hone v (by simp [hv])) hr2 hκd hun
    obtain ⟨xs', w', F', q1, q2, q3, q4, q5, q6, q7, q8, q9⟩ := ih
    refine ⟨xs', w', F', ?_, q2, q3, q4, q5, by simpa [List.append_assoc] using q6, by simpa [List.append_assoc] using q7, by simpa [List.append_assoc] using q8, q9⟩
    simp only [storeCells, Sem.run_bind, hrun, Result.andThen_ok]
    exact q1

/-! ### owners -/
theorem goneU_ow (ks : List Nat) : ∀ (S : St), (S.ups (goneU ks)).ms = S.ms ∧ (S.ups (goneU ks)).mc = S.mc ∧ ∀ k, (S.ups (goneU ks)).ow k = if k ∈ ks then none else S.ow k := by
  induction ks with
  | nil => intro S; exact ⟨rfl, rfl, fun k => by simp [goneU, St.ups]⟩
  | cons k0 ks ih =>
    intro S
    obtain ⟨h1, h2, h3⟩ := ih (S.up (.ow k0 none))
    refine ⟨h1, h2, fun k => ?_⟩
    show ((S.up (.ow k0 none)).ups (goneU ks)).ow k = _
    rw [h3]
    by_cases hk : k ∈ ks
    · simp [hk]
    · rw [if_neg hk]
      show (if k = k0 then none else S.ow k) = _
      by_cases hk0 : k = k0
      · simp [hk0]
      · simp [hk0, hk]
theorem ups_append (us vs : List U) : ∀ S : St, S.ups (us ++ vs) = (S.ups us).ups vs := by
  induction us with
  | nil => intro S; rfl
  | cons u us ih => intro S; exact ih _

theorem stEl_ok {b : Base} {S : St} {c : Cc} {w : World} (hT : TabOk P ti) (hi : Inv b S w c) {t : TypeId} {κ : Nat} {st : Steps} {v u : Value} {ts : List Ty} {x : SV} {ls : List Leaf} {r : List Kl × List U}
    (ha : S1Ok S c w (Kok b S c) (.el κ st) v) (ht : (ti t).cells = some ts) (hx : SVOk S c w (Kok b S c) x u) (hl : leaves x = some ls) (hn : ls.length = ts.length) (h : (stCells (.el κ st) ls).ev S = some r) :
    ∃ w', (Instr.storeAt t v u).run P w = .ok () w' ∧ Did b S c w ⟨.no, r.1, r.2⟩ undef w' := by
  obtain ⟨o0, ad, hκ, had, rfl, pre, ⟨i, j⟩, d, rfl, hd⟩ := ha
  simp only [stCells, Tr.ev, hκ, ev_bind, Option.bind_eq_some_iff] at h
  obtain ⟨r0, hr0, h⟩ := h
  split at h
  · simp [Tr.ev] at h
  · rename_i hc
    simp only [Bool.or_eq_true, Bool.not_eq_true', not_or, Bool.not_eq_false] at hc
    obtain ⟨hc1, hc2⟩ := hc
    have hκr : κ ∉ r0.2 := by simpa using hc1
    simp only [Tr.ev, Option.some.injEq] at h
    subst h
    obtain ⟨ie, i1, i2, _⟩ := size_of hT ht
    obtain ⟨vs, h3, h4, h5⟩ := leaves_ok hi hx hl
    have hbump : ∀ n, bump (pre ++ [(i, j)]) n ≠ [] := fun n => by rw [bump_snoc]; simp
    obtain ⟨xs', w', F', q1, q2, q3, q4, q5, q6, q7, q8, q9⟩ := elStore (P := P) hi κ o0 hκ (pre ++ [(i, j)]) (by simp) hbump ad ls vs 0 o0.xs [] w (c.F κ) r0 rfl (hi.ow κ o0 hκ) (hi.nd κ (by rw [hκ]; simp))
      (fun g hg => .inl hg) (by simp) (Step.refl _ _) rfl (fun m _ => adr_bump _ m had) h4 h5 hr0 (by simpa using hκr) (by simpa using hc2)
    simp only [List.nil_append] at q6 q7 q8
    refine ⟨w', run_storeAt i1 h3 (by rw [i2, ← hn, h4.len]) ad w w' q1, ?_⟩
    generalize hS : (S.kp (.deep κ :: gone r0.2)).ups (.ow κ (some r0.1) :: goneU r0.2) = S'
    have hg := goneU_ow r0.2 ((S.kp (.deep κ :: gone r0.2)).up (.ow κ (some r0.1)))
    have how : ∀ k, S'.ow k = if k = κ then some r0.1 else if k ∈ r0.2 then none else S.ow k := by
      intro k
      rw [← hS]
      show (((S.kp (.deep κ :: gone r0.2)).up (.ow κ (some r0.1))).ups (goneU r0.2)).ow k = _
      rw [hg.2.2]
      by_cases hk : k = κ
      · subst hk; rw [if_neg hκr, if_pos rfl]; show (if k = k then some r0.1 else _) = _; rw [if_pos rfl]
      · rw [if_neg hk]
        by_cases hk2 : k ∈ r0.2
        · rw [if_pos hk2, if_pos hk2]
        · rw [if_neg hk2, if_neg hk2]; show (if k = κ then some r0.1 else (S.kp _).ow k) = _; rw [if_neg hk, kp_ow]
    have hms : S'.ms = S.ms := by
      rw [← hS]; exact hg.1.trans (kp_ms S _)
    have hmc : ∀ k i, S'.mc k i = (S.mc k i).kp (.deep κ :: gone r0.2) := by
      intro k i; rw [← hS]
      have : ((S.kp (.deep κ :: gone r0.2)).ups (.ow κ (some r0.1) :: goneU r0.2)).mc = (S.kp (.deep κ :: gone r0.2)).mc := hg.2.1
      rw [this, kp_mc]
    obtain ⟨c', _, _, _, e4, e5, _⟩ := hi.setOwn (S' := S') (w' := w') κ r0.1 r0.2 (.deep κ :: gone r0.2) (c.hv κ) F' how hms hmc (fun k hk => by simp [gone, hk])
      (fun o ho => by
        obtain rfl : o0 = o := by rw [hκ] at ho; injection ho
        exact .inr ⟨by simp, rfl, xs', q2, q3⟩)
      (q8.mono (by rintro g (h | ⟨k, h, h'⟩); exact ⟨κ, .inl rfl, by rw [hκ]; simp, h⟩; exact ⟨k, .inr h, q7 k h, h'⟩))
      (fun g hg => by
        have : ∃ k, (k = κ ∨ k ∈ r0.2) ∧ S.ow k ≠ none ∧ g ∈ c.F k := by
          rcases q6 g hg with h | ⟨k, h, h'⟩
          · exact ⟨κ, .inl rfl, by rw [hκ]; simp, h⟩
          · exact ⟨k, .inr h, q7 k h, h'⟩
        obtain ⟨k, k1, k2, k3⟩ := this
        exact ⟨by rw [q9]; exact (hi.fr g (.inr ⟨k, k2, k3⟩)).1, .inl ⟨k, k1, k2, k3⟩⟩) q5
      (fun K' hK _ => by
        rw [q2]
        have hKin : ∀ g, Kok b S c g → g < w'.heap.size → K' g := fun g hg hlt => (hK.2 g hg (by rw [← q9]; exact hlt)).2
        exact Rp.frame ⟨Nat.le_refl _, fun g hg hlt => ⟨rfl, hKin g hg hlt⟩⟩ _ _ q4 fun g _ => rfl)
    subst hS
    exact ⟨c', e4, e5, trivial⟩
end

#print axioms stPl_ok
#print axioms stEl_ok
end Go.V
