/-
  S8: variables: made, read, written.
-/
import Derived.Test.YtdicgiljgelkfaaS7
import Derived.Laws.StructEq
import Derived.Laws.IdiomCopy
import Derived.Laws.StructEq
namespace Go.V
open Go.RowKit

section
variable {P : Program} {ti : TypeId → TI}

/-! ### types, their sizes -/
theorem size_of (hT : TabOk P ti) {t : TypeId} {ts : List Ty} (h : (ti t).cells = some ts) : ∃ i, P.info? t = some i ∧ i.size = ts.length ∧ (∃ d, P.underlying t = some d ∧ isAggD d = (ti t).isAgg) ∧
    ((ti t).isAgg = false → ∃ u, ts = [u]) ∧ ∃ z, i.zero = some z ∧ z.cells.toList = ts.map zeroV ∧ ∀ u ∈ ts, u.size = 1 ∧ ∀ a b, u ≠ .pair a b := by
  cases ht : ti t with
  | cell u =>
    rw [ht] at h
    simp only [TI.cells, Option.some.injEq] at h
    subst h
    obtain ⟨⟨d, hd, hdd⟩, i, hi, h1, h2, h3⟩ := hT.cell ht
    refine ⟨i, hi, h1, ⟨d, hd, ?_⟩, fun _ => ⟨u, rfl⟩, _, h2, ?_, ?_⟩
    · cases u <;> cases d <;> first | rfl | (simp [descIs] at hdd; done)
    · cases u <;> first | rfl | (simp [Ty.size] at h3; done) | (cases d <;> simp [descIs] at hdd)
    · intro v hv
      simp only [List.mem_singleton] at hv
      subst hv
      refine ⟨h3, ?_⟩
      cases v <;> cases d <;> first | (simp [descIs] at hdd; done) | simp
  | slice e ts' bytes =>
    rw [ht] at h
    simp only [TI.cells, Option.some.injEq] at h
    subst h
    obtain ⟨h1, ⟨i, hi, h2, h3⟩, _⟩ := hT.slice ht
    exact ⟨i, hi, h2, ⟨_, h1, rfl⟩, fun _ => ⟨_, rfl⟩, _, h3, rfl, by simp [Ty.size]⟩
  | struct fs row eq =>
    rw [ht] at h
    simp only [TI.cells, Option.some.injEq] at h
    subst h
    obtain ⟨fields, h1, _, _, i, hi, h2, h3, h4⟩ := hT.struct ht
    exact ⟨i, hi, h2, ⟨_, h1, rfl⟩, fun h => (by cases h), _, h3, by simp [Value.cells], h4⟩
  | ptr e => rw [ht] at h; cases h
  | other => rw [ht] at h; cases h

theorem run_size {t : TypeId} {i : TypeInfo} (h : P.info? t = some i) (w : World) : (sizeOf t).run P w = .ok i.size w := by simp [sizeOf, typeInfo, h]
theorem run_zero {t : TypeId} {i : TypeInfo} {z : Value} (h : P.info? t = some i) (hz : i.zero = some z) (w : World) : (zeroValue t).run P w = .ok z w := by simp [zeroValue, typeInfo, h, hz]
theorem run_isAgg {t : TypeId} {d : TypeDesc} (h : P.underlying t = some d) (w : World) : (isAgg t).run P w = .ok (isAggD d) w := by
  unfold isAgg
  simp only [Sem.run_bind, run_underlying h, Result.andThen_ok]
  cases d <;> rfl

theorem zeroLeaf_ok {S : St} {c : Cc} {w : World} {K : Nat → Prop} : ∀ (ts : List Ty), (∀ u ∈ ts, u.size = 1 ∧ ∀ a b, u ≠ .pair a b) → All2 (LeafOk S c w K) (ts.map zeroLeaf) (ts.map zeroV)
  | [], _ => .nil
  | t :: ts, h => by
    refine .cons ?_ (zeroLeaf_ok ts fun u hu => h u (by simp [hu]))
    have := h t (by simp)
    cases t with
    | pair a b => exact absurd rfl (this.2 a b)
    | unit => simp [Ty.size] at this
    | int k => simp [zeroLeaf, zeroV, LeafOk, Rp, Ty.zero]
    | bool => simp [zeroLeaf, zeroV, LeafOk, Rp, Ty.zero]
    | str => simp [zeroLeaf, zeroV, LeafOk, Rp, Ty.zero]
    | sl o e r => simp [zeroLeaf, zeroV, LeafOk]

/-- a new variable, of whatever values -/
theorem newMem_did {b : Base} {S : St} {c : Cc} {w : World} (hi : Inv b S w c) (d : Nat) (hdn : d < b.n1) (row : List Leaf) (vs : List Value) (e : TypeId) (hrow : All2 (LeafOk S c w (Kok b S c)) row vs) :
    Did b S c w ⟨.s (.pl d 0), [.m d], [.ms d row]⟩ (.pointer (some ⟨w.heap.size, 0, none⟩)) { w with heap := w.heap.push (.cells vs.toArray e) } := by
  obtain ⟨c', h1, h2, h3⟩ := hi.newMem d hdn row vs e rfl hrow
  exact ⟨c', h2, h3, row.length, by simp [St.ups, St.up], by rw [h1]⟩

theorem run_newVar (t : TypeId) (v : Value) (w : World) : (newVar t v).run P w = .ok ⟨w.heap.size, 0, none⟩ { w with heap := w.heap.push (.cells v.cells t) } := by
  simp [newVar, newRow]

theorem alloc_ok {b : Base} {S : St} {c : Cc} {w : World} (hT : TabOk P ti) (hi : Inv b S w c) {t : TypeId} {ts : List Ty} (h : (ti t).cells = some ts) (d : Nat) (hdn : d < b.n1) :
    ∃ v w', (Instr.alloc t true (.tuple #[])).run P w = .ok v w' ∧ Did b S c w ⟨.s (.pl d 0), [.m d], [.ms d (ts.map zeroLeaf)]⟩ v w' := by
  obtain ⟨i, h1, _, _, _, z, h2, h3, h4⟩ := size_of hT h
  refine ⟨_, _, ?_, newMem_did hi d hdn _ (ts.map zeroV) t (zeroLeaf_ok ts h4)⟩
  simp only [Instr.alloc, Sem.run_bind, run_zero h1 h2, Result.andThen_ok, run_newVar, Sem.run_pure]
  rw [← h3]

theorem box_ok {b : Base} {S : St} {c : Cc} {w : World} (hi : Inv b S w c) {t : TypeId} {x : SV} {v : Value} {ls : List Leaf} (hx : SVOk S c w (Kok b S c) x v) (hl : leaves x = some ls) (d : Nat) (hdn : d < b.n1) :
    ∃ u w', (Instr.box t v).run P w = .ok u w' ∧ Did b S c w ⟨.s (.pl d 0), [.m d], [.ms d ls]⟩ u w' := by
  obtain ⟨vs, h1, h2, h3⟩ := leaves_ok hi hx hl
  refine ⟨_, _, ?_, newMem_did hi d hdn ls vs t h2⟩
  simp only [Instr.box, Sem.run_bind, run_newVar, Result.andThen_ok, Sem.run_pure, h1]

/-! ### reading -/
theorem cellAt_leaf : ∀ (t : Ty) (x : t.D) (j : Nat) {c}, cellAt t x j = some c → (∀ a b, c.1 ≠ .pair a b) ∧ c.1 ≠ .unit
  | .pair a b, (x, y), j, c, h => by
    simp only [cellAt] at h
    split at h
    · exact cellAt_leaf a x j h
    · exact cellAt_leaf b y _ h
  | .unit, _, _, _, h => by simp [cellAt] at h
  | .int _, _, 0, _, h => by simp only [cellAt, Option.some.injEq] at h; subst h; simp
  | .bool, _, 0, _, h => by simp only [cellAt, Option.some.injEq] at h; subst h; simp
  | .str, _, 0, _, h => by simp only [cellAt, Option.some.injEq] at h; subst h; simp
  | .sl _ _ _, _, 0, _, h => by simp only [cellAt, Option.some.injEq] at h; subst h; simp
  | .int _, _, _ + 1, _, h => by simp [cellAt] at h
  | .bool, _, _ + 1, _, h => by simp [cellAt] at h
  | .str, _, _ + 1, _, h => by simp [cellAt] at h
  | .sl _ _ _, _, _ + 1, _, h => by simp [cellAt] at h
theorem getT_leaf : ∀ (st : Steps) (t : Ty) (x : t.D) {c : (u : Ty) × u.D}, st ≠ [] → (getT t x st).run = some c → (∀ a b, c.1 ≠ .pair a b) ∧ c.1 ≠ .unit
  | [], _, _, _, hne, _ => absurd rfl hne
  | (i, j) :: ps, t, x, c, _, h => by
    match t, x, h with
    | .sl true e r, xs, h =>
      obtain ⟨row, d, hrow, hd, hrest⟩ := getT_run_cons h
      cases ps with
      | nil => simp only [getT, Tr.run, Option.some.injEq] at hrest; subst hrest; exact cellAt_leaf r row j hd
      | cons p ps => exact getT_leaf (p :: ps) d.1 d.2 (by simp) hrest
    | .sl false _ _, _, hg => simp [getT, Tr.run] at hg
    | .int _, _, hg => simp [getT, Tr.run] at hg
    | .bool, _, hg => simp [getT, Tr.run] at hg
    | .str, _, hg => simp [getT, Tr.run] at hg
    | .unit, _, hg => simp [getT, Tr.run] at hg
    | .pair _ _, _, hg => simp [getT, Tr.run] at hg

theorem ldCell_ok {b : Base} {S : St} {c : Cc} {w : World} (hi : Inv b S w c) {a : S1} {v : Value} {n : Nat} {l : Leaf} (ha : S1Ok S c w (Kok b S c) a v) (h : (ldCell a n).ev S = some l) :
    ∃ ad u, v = .pointer (some ad) ∧ w.cell? (ad.add n) = some u ∧ LeafOk S c w (Kok b S c) l u := by
  cases a with
  | one l' => simp [ldCell, Tr.ev] at h
  | ag ls => simp [ldCell, Tr.ev] at h
  | pl k off =>
    obtain ⟨m, hm, rfl⟩ := ha
    simp only [ldCell, Tr.ev, hm] at h
    split at h
    · rename_i hlt
      simp only [Tr.ev] at h
      obtain ⟨cs, e, fr, h1, h2, h3, h4⟩ := hi.ms k m hm
      have hlt' : off + n < cs.size := by omega
      have hcell : cs[off + n]? = some cs[off + n] := Array.getElem?_eq_getElem hlt'
      refine ⟨_, _, rfl, by rw [add_blk, cell_blk h1]; exact hcell, ?_⟩
      have := h4 _ _ hcell
      split at h
      · simp [Tr.ev] at h
      · simp only [Tr.ev, Option.some.injEq] at h; subst h; exact this
    · simp [Tr.ev] at h
  | el k st =>
    obtain ⟨o, ad, ho, had, rfl, pre, ⟨i, j⟩, d, rfl, hd⟩ := ha
    simp only [ldCell, Tr.ev, ho, ev_bind, Option.bind_eq_some_iff] at h
    obtain ⟨c0, hc0, h⟩ := h
    rw [ev_get] at hc0
    simp only [Option.some.injEq] at h
    subst h
    have hne : bump (pre ++ [(i, j)]) n ≠ [] := by rw [bump_snoc]; simp
    obtain ⟨h', F', h1, h2, h3, _, h4⟩ := Rp.reach _ _ _ (hi.ow k o ho) hc0
    obtain ⟨a', h5, h6, _⟩ := h4 hne
    have := adr_bump _ n had
    rw [this] at h5
    injection h5 with h5
    subst h5
    refine ⟨ad, h', rfl, h6, ?_⟩
    have hleaf := getT_leaf _ _ _ hne hc0
    obtain ⟨t0, x0⟩ := c0
    cases t0 with
    | pair a b => exact absurd rfl (hleaf.1 a b)
    | unit => exact absurd rfl hleaf.2
    | int k => simp only [leafOf, LeafOk, Rp] at h2 ⊢; exact ⟨h2.1, trivial⟩
    | bool => simp only [leafOf, LeafOk, Rp] at h2 ⊢; exact ⟨h2.1, trivial⟩
    | str => simp only [leafOf, LeafOk, Rp] at h2 ⊢; exact ⟨h2.1, trivial⟩
    | sl o' e r =>
      cases o' with
      | true => exact ⟨o, e, r, x0, h', ho, hc0, h1, rfl⟩
      | false =>
        simp only [leafOf, LeafOk]
        have : F' = [] := by simp only [Rp] at h2; exact h2.1
        subst this; exact h2
  | rp t x off =>
    obtain ⟨ad, vs, rfl, h1, h2, h3, h4⟩ := ha
    simp only [ldCell] at h
    split at h
    · rename_i c0 hc0
      simp only [Tr.ev, Option.some.injEq] at h
      subst h
      obtain ⟨pre, u, post, Fa, G, Fb, rfl, hl, hF, hu, _⟩ := Rp.cell t x _ h1 hc0
      have hG : G = [] := by
        have := congrArg List.length hF
        simp only [List.length_nil, List.length_append] at this
        exact List.eq_nil_of_length_eq_zero (by omega)
      subst hG
      refine ⟨_, u, rfl, ?_, hu⟩
      rw [add_add, h4 _ (by simp only [List.length_append, List.length_cons]; omega)]
      rw [List.getElem?_append_right (by omega), hl, Nat.sub_self]; rfl
    · simp [Tr.ev] at h

theorem ldCells_ok {b : Base} {S : St} {c : Cc} {w : World} (hi : Inv b S w c) {a : S1} {v : Value} (ha : S1Ok S c w (Kok b S c) a v) : ∀ (n i : Nat) {ls : List Leaf}, (ldCells a n i).ev S = some ls →
    (0 < n → ∃ ad, v = .pointer (some ad)) ∧ ∃ us : List Value, us.length = n ∧ All2 (LeafOk S c w (Kok b S c)) ls us ∧ ∀ ad, v = .pointer (some ad) → ∀ j u, us[j]? = some u → w.cell? (ad.add (i + j)) = some u
  | 0, i, ls, h => by
    simp only [ldCells, Tr.ev, Option.some.injEq] at h
    subst h
    exact ⟨by omega, [], rfl, .nil, by simp⟩
  | n + 1, i, ls, h => by
    simp only [ldCells, ev_bind, Option.bind_eq_some_iff, Tr.ev, Option.some.injEq] at h
    obtain ⟨l, hl, ls', hls, rfl⟩ := h
    obtain ⟨ad, u, rfl, h1, h2⟩ := ldCell_ok hi ha hl
    obtain ⟨_, us, h3, h4, h5⟩ := ldCells_ok hi ha n (i + 1) hls
    refine ⟨fun _ => ⟨ad, rfl⟩, u :: us, by simp [h3], .cons h2 h4, ?_⟩
    intro ad' e j x hx
    injection e with e; injection e with e
    subst e
    cases j with
    | zero => simp only [List.getElem?_cons_zero, Option.some.injEq] at hx; subst hx; exact h1
    | succ j =>
      have := h5 ad rfl j x (by simpa using hx)
      rwa [show i + (j + 1) = i + 1 + j by omega]

theorem load_ok {b : Base} {S : St} {c : Cc} {w : World} (hT : TabOk P ti) (hi : Inv b S w c) {t : TypeId} {a : S1} {v : Value} {ts : List Ty} (ha : S1Ok S c w (Kok b S c) a v) (ht : (ti t).cells = some ts) {x : SV}
    (h : (if (ti t).isAgg then (ldCells a ts.length 0).bind fun ls => Tr.ret (SV.s (.ag ls)) else (ldCell a 0).bind fun l => Tr.ret (SV.s (.one l))).ev S = some x) (hpos : 0 < ts.length) :
    ∃ u, (Instr.loadAt t v).run P w = .ok u w ∧ SVOk S c w (Kok b S c) x u := by
  obtain ⟨i, h1, h2, ⟨d, h3, h4⟩, h5, _⟩ := size_of hT ht
  split at h
  · rename_i hag
    simp only [ev_bind, Option.bind_eq_some_iff, Tr.ev, Option.some.injEq] at h
    obtain ⟨ls, hls, rfl⟩ := h
    obtain ⟨h6, us, h7, h8, h9⟩ := ldCells_ok hi ha _ _ hls
    obtain ⟨ad, rfl⟩ := h6 hpos
    refine ⟨.agg us.toArray, ?_, us, rfl, h8⟩
    have hl := run_loadCells_list (P := P) w ad us (fun j u hu => by simpa using h9 ad rfl j u hu)
    simp only [Instr.loadAt, Instr.sureAddr, Sem.run_bind, Sem.run_pure, Result.andThen_ok, loadVar, run_isAgg h3, h4, hag, if_true, run_size h1, h2, Sem.run_ite]
    rw [h7] at hl
    rw [hl]; rfl
  · rename_i hag
    simp only [ev_bind, Option.bind_eq_some_iff, Tr.ev, Option.some.injEq] at h
    obtain ⟨l, hl, rfl⟩ := h
    obtain ⟨ad, u, rfl, h6, h7⟩ := ldCell_ok hi ha hl
    refine ⟨u, ?_, h7⟩
    have h6' : w.cell? ad = some u := by simpa [Addr.add] using h6
    have hag' : (ti t).isAgg = false := by simpa using hag
    simp only [Instr.loadAt, Instr.sureAddr, Sem.run_bind, Sem.run_pure, Result.andThen_ok, loadVar, run_isAgg h3, h4, hag', Sem.run_ite]
    simp [h6']

#print axioms load_ok
#print axioms box_ok
#print axioms alloc_ok
/-! ### '==' of structs -/
theorem part_one {t : TypeId} {d : TypeDesc} (hd : P.underlying t = some d) (hag : isAggD d = false) (cs : Array Value) (off : Nat) {v : Value} (hv : cs[off]? = some v) (w : World) : (part t cs off).run P w = .ok v w := by
  simp only [part, Sem.run_bind, run_isAgg hd, Result.andThen_ok, hag, Bool.false_eq_true, if_false, hv, Sem.run_pure]
theorem eqFields_cons {w : World} {d : TypeDesc} {f : Field} {fs : List Field} {cs ds : Array Value} {u v : Value} {b r : Bool} (hn : (!(f.name == "_")) = true) (hd : P.underlying f.type = some d) (hag : isAggD d = false) (hu : cs[f.offset]? = some u) (hv : ds[f.offset]? = some v)
    (h1 : (Op.equalIn 9999 f.type u v).run P w = .ok b w) (h2 : (Op.eqFields 9999 cs ds fs).run P w = .ok r w) : (Op.eqFields 9999 cs ds (f :: fs)).run P w = .ok (b && r) w := by
  have hn' : f.name ≠ "_" := by simpa using hn
  simp only [Op.eqFields, hn', ne_eq, not_false_eq_true, if_true, Sem.run_bind, part_one hd hag _ _ hu, part_one hd hag _ _ hv, Result.andThen_ok, h1]
  cases b
  · simp
  · simp [h2]
theorem aggEq_ok {w : World} {S : St} {c : Cc} {K : Nat → Prop} : ∀ (row : List Ty) (fields : List Field) (fs : List (Nat × Nat × Bool)) (i : Nat) (xs ys : List Leaf) (us vs pre pre' : List Value) {r : Bool}, eqAre P row fields = true → fieldsAre P fs fields = true → offsAre fs i = true →
    pre.length = i → pre'.length = i → All2 (LeafOk S c w K) xs us → All2 (LeafOk S c w K) ys vs → aggEq row xs ys = some r → (Op.eqFields 9999 (pre ++ us).toArray (pre' ++ vs).toArray fields).run P w = .ok r w
  | [], fields, fs, i, xs, ys, us, vs, pre, pre', r, h1, h2, h3, hp, hp', k1, k2, hr => by
    cases fields with
    | cons f fields => simp [eqAre] at h1
    | nil =>
      cases k1 <;> cases k2 <;> simp [aggEq] at hr
      subst hr; rfl
  | t :: row, [], fs, i, xs, ys, us, vs, pre, pre', r, h1, h2, h3, hp, hp', k1, k2, hr => by simp [eqAre] at h1
  | t :: row, f :: fields, [], i, xs, ys, us, vs, pre, pre', r, h1, h2, h3, hp, hp', k1, k2, hr => by simp [fieldsAre] at h2
  | t :: row, f :: fields, (o, n, ag) :: fs, i, xs, ys, us, vs, pre, pre', r, h1, h2, h3, hp, hp', k1, k2, hr => by
    simp only [eqAre, Bool.and_eq_true] at h1
    obtain ⟨⟨hn, hd⟩, h1⟩ := h1
    split at hd
    · rename_i d hd'
      simp only [fieldsAre, Bool.and_eq_true, beq_iff_eq] at h2
      obtain ⟨⟨⟨⟨ho, _⟩, _⟩, _⟩, h2⟩ := h2
      simp only [offsAre, Bool.and_eq_true, beq_iff_eq] at h3
      obtain ⟨⟨⟨hoi, _⟩, _⟩, h3⟩ := h3
      cases k1 with
      | nil => cases t <;> simp [aggEq] at hr
      | cons a1 a2 =>
        rename_i x u xs us
        cases k2 with
        | nil => cases t <;> cases x <;> simp [aggEq] at hr
        | cons b1 b2 =>
          rename_i y v ys vs
          have rec_ := fun {r'} hr' => aggEq_ok row fields fs (i + 1) xs ys us vs (pre ++ [u]) (pre' ++ [v]) (r := r') h1 h2 h3 (by simp [hp]) (by simp [hp']) a2 b2 hr'
          simp only [List.append_assoc, List.singleton_append] at rec_
          have hu : (pre ++ u :: us).toArray[f.offset]? = some u := by rw [ho, hoi, ← hp]; simp
          have hv : (pre' ++ v :: vs).toArray[f.offset]? = some v := by rw [ho, hoi, ← hp']; simp
          unfold aggEq at hr
          split at hr
          · rename_i e _ _; cases e
          · rename_i e1 e2 e3
            injection e1 with e1 e1'; injection e2 with e2 e2'; injection e3 with e3 e3'
            subst e1 e2 e3 e1' e2' e3'
            split at hr
            · rename_i hk; subst hk
              rw [Option.map_eq_some_iff] at hr
              obtain ⟨r', hr', rfl⟩ := hr
              obtain rfl := int_leaf a1
              obtain rfl := int_leaf b1
              cases d <;> simp [descIs] at hd
              exact eqFields_cons hn hd' rfl hu hv (equalIn_int 9998 f.type _ _ _ _ hd') (rec_ hr')
            · cases hr
          · rename_i e1 e2 e3
            injection e1 with e1 e1'; injection e2 with e2 e2'; injection e3 with e3 e3'
            subst e1 e2 e3 e1' e2' e3'
            rw [Option.map_eq_some_iff] at hr
            obtain ⟨r', hr', rfl⟩ := hr
            obtain rfl := bool_leaf a1
            obtain rfl := bool_leaf b1
            cases d <;> simp [descIs] at hd
            exact eqFields_cons hn hd' rfl hu hv (equalIn_bool 9998 f.type _ _ hd') (rec_ hr')
          · rename_i e1 e2 e3
            injection e1 with e1 e1'; injection e2 with e2 e2'; injection e3 with e3 e3'
            subst e1 e2 e3 e1' e2' e3'
            rw [Option.map_eq_some_iff] at hr
            obtain ⟨r', hr', rfl⟩ := hr
            have q1 := str_leaf a1
            have q2 := str_leaf b1
            cases d <;> simp [descIs] at hd
            subst q1 q2
            refine eqFields_cons hn hd' rfl hu hv ?_ (rec_ hr')
            rw [run_equalIn_string _ _ _ _ _ hd', ByteArray.toList_eq, ByteArray.toList_eq]
          · cases hr
    · cases hd
theorem agg_eql {w : World} (t : TypeId) (us vs : List Value) (fields : Array Field) (ht : P.underlying t = some (.struct fields)) (hp : P.stoodInHeld t = false) {r : Bool} (h : (Op.eqFields 9999 us.toArray vs.toArray fields.toList).run P w = .ok r w) :
    (binOp .eql t (.agg us.toArray) (.agg vs.toArray)).run P w = .ok (.bool r) w ∧ (binOp .neq t (.agg us.toArray) (.agg vs.toArray)).run P w = .ok (.bool (!r)) w := by
  have hf : P.fieldsOf t = fields := by simp [Program.fieldsOf, ht]
  have he : (Op.equalIn 10000 t (.agg us.toArray) (.agg vs.toArray)).run P w = .ok r w := by
    rw [run_equalIn_agg w 9999 t _ _ (by rw [hf]; exact ht) hp, hf]; exact h
  rw [run_eql_struct, run_neq_struct, he]
  exact ⟨rfl, rfl⟩
end
end Go.V
