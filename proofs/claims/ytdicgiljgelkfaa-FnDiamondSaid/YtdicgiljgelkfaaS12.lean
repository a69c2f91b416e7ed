/-
  S12: structs, conversions, the smaller operations.
-/
import Derived.Test.YtdicgiljgelkfaaS11
import Derived.Laws.IdiomStrings
import Derived.Laws.BytesArg
import Derived.Laws.Tables
import Derived.Laws.Small
import Derived.Laws.Strings
namespace Go.V
open Go.RowKit

section
variable {P : Program} {ti : TypeId → TI} {b : Base} {S : St} {c : Cc} {w : World}

/-! ### fields -/
theorem fields_at : ∀ {fs : List (Nat × Nat × Bool)} {gs : List Field} {f : Nat} {o n : Nat} {ag : Bool}, fieldsAre P fs gs = true → fs[f]? = some (o, n, ag) →
    ∃ g, gs[f]? = some g ∧ g.offset = o ∧ n ≠ 0 ∧ (∃ i, P.info? g.type = some i ∧ i.size = n) ∧ ∃ d, P.underlying g.type = some d ∧ isAggD d = ag
  | [], _, _, _, _, _, _, h => by simp at h
  | _ :: _, [], _, _, _, _, h, _ => by simp [fieldsAre] at h
  | (o', n', ag') :: fs, g :: gs, f, o, n, ag, h, hf => by
    simp only [fieldsAre, Bool.and_eq_true, beq_iff_eq, Bool.not_eq_true', beq_eq_false_iff_ne] at h
    obtain ⟨⟨⟨⟨h1, h2⟩, h3⟩, h4⟩, h5⟩ := h
    cases f with
    | zero =>
      simp only [List.getElem?_cons_zero, Option.some.injEq, Prod.mk.injEq] at hf
      obtain ⟨rfl, rfl, rfl⟩ := hf
      refine ⟨g, rfl, h1, h2, ?_, ?_⟩
      · split at h3
        · rename_i i hi; exact ⟨i, hi, by simpa using h3⟩
        · cases h3
      · split at h4
        · rename_i d hd; exact ⟨d, hd, by simpa using h4⟩
        · cases h4
    | succ f =>
      have := fields_at (f := f) h5 (by simpa using hf)
      simpa using this
theorem fields_places : ∀ {fs : List (Nat × Nat × Bool)} {gs : List Field}, fieldsAre P fs gs = true → gs.mapM (fun f => (P.info? f.type).map fun i => (f.offset, i.size)) = some (fs.map fun x => (x.1, x.2.1))
  | [], [], _ => rfl
  | [], _ :: _, h => by simp [fieldsAre] at h
  | _ :: _, [], h => by simp [fieldsAre] at h
  | (o', n', ag') :: fs, g :: gs, h => by
    simp only [fieldsAre, Bool.and_eq_true, beq_iff_eq, Bool.not_eq_true', beq_eq_false_iff_ne] at h
    obtain ⟨⟨⟨⟨h1, h2⟩, h3⟩, h4⟩, h5⟩ := h
    split at h3
    · rename_i i hi
      rw [beq_iff_eq] at h3
      simp [List.mapM_cons, hi, fields_places h5, h1, h3]
    · cases h3

theorem run_field' {t : TypeId} {fields : Array Field} {f : Nat} {g : Field} {d : TypeDesc} {i : TypeInfo} (h1 : P.underlying t = some (.struct fields)) (h2 : fields[f]? = some g) (h3 : P.underlying g.type = some d)
    (h4 : P.info? g.type = some i) (cs : Array Value) (v : Value) (hv : if isAggD d then v = .agg (cs.extract g.offset (g.offset + i.size)) else cs[g.offset]? = some v) :
    (Instr.field t (.agg cs) f).run P w = .ok v w := by
  simp only [Instr.field, Sem.run_bind, run_underlying h1, Result.andThen_ok, h2, asAgg, Sem.run_pure, part, run_isAgg h3]
  split at hv
  · rename_i ha
    subst hv
    simp [ha, run_size h4]
  · rename_i ha
    simp [ha, hv]

theorem field_ok (hT : TabOk P ti) {K : Nat → Prop} {t : TypeId} {fs : List (Nat × Nat × Bool)} {row : List Ty} {eq : Bool} {ls : List Leaf} {v : Value} {f o n : Nat} {ag : Bool} {r : SV}
    (ht : ti t = .struct fs row eq) (hf : fs[f]? = some (o, n, ag)) (hx : SVOk S c w K (.s (.ag ls)) v)
    (hr : if ag then r = .s (.ag ((ls.drop o).take n)) else ∃ l, ls[o]? = some l ∧ r = .s (.one l)) : ∃ u, (Instr.field t v f).run P w = .ok u w ∧ SVOk S c w K r u := by
  obtain ⟨fields, h1, h2, _⟩ := hT.struct ht
  obtain ⟨g, h3, h4, h5, ⟨i, h6, h7⟩, d, h8, h9⟩ := fields_at h2 hf
  obtain ⟨vs, rfl, hall⟩ := hx
  rw [Array.getElem?_toList] at h3
  cases ag with
  | true =>
    simp only [if_true] at hr
    subst hr
    refine ⟨_, run_field' h1 h3 h8 h6 _ (.agg (vs.toArray.extract o (o + n))) (by rw [h9, h4, h7]; simp), (vs.drop o).take n, ?_, (hall.drop o).take n⟩
    congr 1
    apply Array.ext'
    simp [List.extract_eq_take_drop]
  | false =>
    obtain ⟨l, hl, rfl⟩ := hr
    obtain ⟨u, hu, hlu⟩ := hall.get hl
    exact ⟨u, run_field' h1 h3 h8 h6 _ u (by rw [h9, h4]; simpa using hu), hlu⟩

/-- a field's place -/
theorem fieldAt_ok (hT : TabOk P ti) {t : TypeId} {fs : List (Nat × Nat × Bool)} {row : List Ty} {eq : Bool} {f o n : Nat} {ag : Bool} (ht : ti t = .struct fs row eq) (hf : fs[f]? = some (o, n, ag)) (ad : Addr) :
    (Instr.fieldAt t (.pointer (some ad)) f).run P w = .ok (.pointer (some (ad.add o))) w := by
  obtain ⟨fields, h1, h2, _⟩ := hT.struct ht
  obtain ⟨g, h3, h4, h5, ⟨i, h6, h7⟩, d, h8, h9⟩ := fields_at h2 hf
  rw [Array.getElem?_toList] at h3
  simp only [Instr.fieldAt, Sem.run_bind, run_underlying h1, Result.andThen_ok, h3, Instr.sureAddr, Sem.run_pure, fieldPlace, run_size h6, h7, if_neg h5, h4]

theorem fieldAddr_ok (hT : TabOk P ti) {K : Nat → Prop} {t : TypeId} {fs : List (Nat × Nat × Bool)} {row : List Ty} {eq : Bool} {f o n : Nat} {ag : Bool} {a : S1} {v : Value} {r : SV} (ht : ti t = .struct fs row eq) (hf : fs[f]? = some (o, n, ag)) (ha : SVOk S c w K (.s a) v)
    (hr : (∃ k off, a = .pl k off ∧ r = .s (.pl k (off + o))) ∨ (∃ k st, a = .el k st ∧ r = .s (.el k (bump st o))) ∨ (∃ u x off, a = .rp u x off ∧ r = .s (.rp u x (off + o)))) :
    ∃ u, (Instr.fieldAt t v f).run P w = .ok u w ∧ SVOk S c w K r u := by
  rcases hr with ⟨k, off, rfl, rfl⟩ | ⟨k, st, rfl, rfl⟩ | ⟨u, x, off, rfl, rfl⟩
  · obtain ⟨m, hm, rfl⟩ := ha
    refine ⟨_, fieldAt_ok hT ht hf _, m, hm, by rw [add_blk]⟩
  · obtain ⟨o0, ad, ho, had, rfl, pre, p, d, rfl, hd⟩ := ha
    refine ⟨_, fieldAt_ok hT ht hf _, o0, _, ho, adr_bump _ o had, rfl, pre, (p.1, p.2 + o), d, ?_, hd⟩
    obtain ⟨i, j⟩ := p
    exact bump_snoc _ _ _ _
  · obtain ⟨ad, vs, rfl, h1, h2, h3, h4⟩ := ha
    refine ⟨_, fieldAt_ok hT ht hf _, ad, vs, ?_, h1, h2, h3, h4⟩
    rw [add_add]

/-! ### struct literals -/
theorem setMany_all {p : Leaf → Value → Prop} : ∀ (ls : List Leaf) (vs : List Value) (off k : Nat) (row : List Leaf) (cs : Array Value), All2 p ls vs → All2 p row cs.toList →
    All2 p (setMany row (off + k) ls) ((vs.zipIdx k).foldl (fun cs q => cs.setIfInBounds (off + q.2) q.1) cs).toList
  | [], _, _, _, _, _, .nil, h => h
  | l :: ls, _, off, k, row, cs, .cons (b := v) (bs := vs) h1 h2, h => by
    simp only [setMany, List.zipIdx_cons, List.foldl_cons]
    exact setMany_all ls vs off (k + 1) _ _ h2 (by rw [Array.toList_setIfInBounds]; exact h.set _ h1)

theorem buildT_ok (hi : Inv b S w c) (fs : List (Nat × Nat × Bool)) (place : Nat → Option (Nat × Nat)) (hp : ∀ f o n ag, fs[f]? = some (o, n, ag) → place f = some (o, n)) :
    ∀ (ps : List (Nat × SV)) (us : List Value) (row : List Leaf) (cs : Array Value) {ls : List Leaf}, All2 (fun p u => SVOk S c w (Kok b S c) p.2 u) ps us → All2 (LeafOk S c w (Kok b S c)) row cs.toList → buildT fs ps row = some ls →
      ∃ cs', Instr.fill place cs ((ps.map (·.1)).zip us) = some cs' ∧ All2 (LeafOk S c w (Kok b S c)) ls cs'.toList
  | [], _, row, cs, ls, .nil, h, hb => by
    simp only [buildT, Option.some.injEq] at hb
    subst hb
    exact ⟨cs, rfl, h⟩
  | (f, x) :: ps, _, row, cs, ls, .cons (b := u) (bs := us) h1 h2, h, hb => by
    simp only [buildT] at hb
    split at hb
    · rename_i off n ag lsx hf hlx
      split at hb
      · rename_i hn
        split at hb
        · rename_i hle
          obtain ⟨vs, e1, e2, _⟩ := leaves_ok hi h1 hlx
          have hvl : vs.length = n := by rw [← e2.len, hn]
          have hcl : row.length = cs.size := by rw [h.len]; simp
          have hall := setMany_all lsx vs off 0 row cs e2 h
          rw [Nat.add_zero] at hall
          obtain ⟨cs', q1, q2⟩ := buildT_ok hi fs place hp ps us _ _ h2 hall hb
          refine ⟨cs', ?_, q2⟩
          simp only [List.map_cons, List.zip_cons_cons, Instr.fill, hp f off n ag hf, e1, List.size_toArray]
          rw [if_neg (by simp; omega)]
          rw [← q1]
          congr 1
          rw [← Array.foldl_toList, Array.toList_zipIdx]
        · cases hb
      · cases hb
    · cases hb

theorem build_ok (hT : TabOk P ti) (hi : Inv b S w c) {t : TypeId} {fs : List (Nat × Nat × Bool)} {row : List Ty} {eq : Bool} {ps : List (Nat × SV)} {us : List Value} {is : List (Nat × Value)} {ls : List Leaf} (ht : ti t = .struct fs row eq)
    (hps : All2 (fun p u => SVOk S c w (Kok b S c) p.2 u) ps us) (his : is = (ps.map (·.1)).zip us) (h : buildT fs ps (row.map zeroLeaf) = some ls) :
    ∃ u, (Instr.build t is.toArray).run P w = .ok u w ∧ SVOk S c w (Kok b S c) (.s (.ag ls)) u := by
  obtain ⟨fields, h1, h2, _, i, h3, h4, h5, h6⟩ := hT.struct ht
  obtain ⟨cs', q1, q2⟩ := buildT_ok hi fs ((fs.map fun x => (x.1, x.2.1)).toArray[·]?) (fun f o n ag hf => by simp [hf]) ps us (row.map zeroLeaf) (row.map zeroV).toArray hps (by simpa using zeroLeaf_ok row h6) h
  refine ⟨.agg cs', run_build w t _ cs' ?_, cs'.toList, rfl, q2⟩
  simp only [Program.built, h3, h1, h5, fields_places h2, Value.cells]
  rw [his]
  exact q1

/-! ### conversions -/
theorem text_fold (xs : List Int) : xs.foldl (fun r n => r.push (UInt8.ofNat n.toNat)) ByteArray.empty = ⟨(textOf xs).toArray⟩ := by
  have h : ∀ (xs : List Int) (r : ByteArray), xs.foldl (fun r n => r.push (UInt8.ofNat n.toNat)) r = ⟨r.data ++ (textOf xs).toArray⟩ := by
    intro xs
    induction xs with
    | nil => intro r; simp [textOf]
    | cons x xs ih =>
      intro r
      rw [List.foldl_cons, ih]
      simp [textOf, ByteArray.push]
  rw [h]; simp
theorem u8_cells {K : Nat → Prop} : ∀ (xs : List Int) {ws F}, RpL (Rp w K (.int .u8)) xs ws F → ws = xs.map (Value.int .u8)
  | [], _, _, h => h.1
  | x :: xs, _, _, ⟨v1, v2, F1, F2, e1, _, h1, h2⟩ => by
    simp only [Rp] at h1
    subst e1
    rw [h1.1, u8_cells xs h2]; rfl

theorem cell_int (hT : TabOk P ti) {t : TypeId} {k : IntKind} (h : ti t = .cell (.int k)) : P.underlying t = some (.int k) := by
  obtain ⟨⟨d, hd, he⟩, _⟩ := hT.cell h
  rw [hd]
  cases d <;> simp [descIs] at he
  rw [he]
theorem cell_str (hT : TabOk P ti) {t : TypeId} (h : ti t = .cell .str) : P.underlying t = some .string := by
  obtain ⟨⟨d, hd, he⟩, _⟩ := hT.cell h
  rw [hd]; cases d <;> first | rfl | (simp [descIs] at he; done)
theorem cell_bool (hT : TabOk P ti) {t : TypeId} (h : ti t = .cell .bool) : P.underlying t = some .bool := by
  obtain ⟨⟨d, hd, he⟩, _⟩ := hT.cell h
  rw [hd]; cases d <;> first | rfl | (simp [descIs] at he; done)

theorem conv_ok (hT : TabOk P ti) (hi : Inv b S w c) {s t : TypeId} {d : Nat} {x : Leaf} {v : Value} {out : Out} (hx : LeafOk S c w (Kok b S c) x v) (h : (convT ti (ti s) (ti t) d x).ev S = some out) :
    ∃ r w', (convert s t v).run P w = .ok r w' ∧ Did b S c w out r w' := by
  unfold convT at h
  split at h
  · rename_i k0 k k' n hs ht
    simp only [Tr.ev, Option.some.injEq] at h
    subst h
    obtain rfl := int_leaf hx
    refine ⟨.int k (k.wrap n), w, ?_, Did.same hi (sv_leaf mk_int)⟩
    simp [convert, run_underlying (cell_int hT hs), run_underlying (cell_int hT ht), Conv.intToInt]
  · rename_i s' hs ht
    simp only [Tr.ev, Option.some.injEq] at h
    subst h
    obtain rfl := str_leaf hx
    refine ⟨_, w, ?_, Did.same hi (sv_leaf mk_str)⟩
    simp [convert, run_underlying (cell_str hT hs), run_underlying (cell_str hT ht)]
  · rename_i e ts bytes s' hs ht
    split at h
    · rename_i he
      simp only [Tr.ev, Option.some.injEq] at h
      subst h
      obtain rfl := str_leaf hx
      obtain ⟨h1, _⟩ := hT.slice ht
      have hrun := run_bytes_of_string (P := P) w s t e ⟨s'.toArray⟩ (cell_str hT hs) h1 (cell_int hT he)
      have hge := grownCap_ge w (ByteArray.mk s'.toArray).size 0 e
      generalize grownCap w (ByteArray.mk s'.toArray).size 0 e = gc at hrun hge
      have hsz : (ByteArray.mk s'.toArray).size = s'.length := by simp [ByteArray.size]
      have hrow : bytesRow ⟨s'.toArray⟩ gc = (byteCells ⟨s'.toArray⟩).toArray ++ Array.replicate (gc - s'.length) (.int .u8 0) := by
        simp only [bytesRow, hsz, byteCells]
        congr 1
        apply Array.ext'
        simp
      have hbl : (byteCells ⟨s'.toArray⟩).length = s'.length := by rw [byteCells_length, hsz]
      rw [hrow, hsz] at hrun
      rw [hsz] at hge
      generalize hcs : (byteCells ⟨s'.toArray⟩).toArray ++ Array.replicate (gc - s'.length) (Value.int .u8 0) = cs at hrun
      have hcz : cs.size = gc := by rw [← hcs]; simp [hbl]; omega
      have hst : Step w (w.drew.alloc (.cells cs e (cs.size, cs.size + 1))) (fun _ => False) := by
        exact ⟨rfl, rfl, rfl, (by show w.heap.size ≤ (w.heap.push _).size; simp), fun g hg _ => (by show (w.heap.push _)[g]? = _; simp [Array.getElem?_push, show ¬ (g = w.heap.size) by omega])⟩
      refine ⟨_, _, hrun, ?_⟩
      refine ownOut_did hi (kd d 0) ⟨e, .int .u8, bytesOf s'⟩ [] (fun k hk => (by cases hk)) (F' := [w.heap.size]) (hst.mono fun _ h => h.elim) ?_ (by simp) ?_
      · intro g hg
        simp only [List.mem_singleton] at hg
        subst hg
        exact ⟨by show w.heap.size < (w.heap.push _).size; simp, .inr (Nat.le_refl _)⟩
      · intro K' _ _
        have hlen : (bytesOf s').length = s'.length := by simp [bytesOf]
        rw [Rp]
        refine .inr ⟨w.heap.size, 0, gc, cs, (cs.size, cs.size + 1), [], by rw [hlen], rfl, push_new w _, by intro i hi hx; omega, by simp [Ty.size, hcz], by rw [hlen]; exact hge, ?_⟩
        have : (cs.toList.drop 0).take ((bytesOf s').length * Ty.size (.int .u8)) = byteCells ⟨s'.toArray⟩ := by
          rw [← hcs, List.drop_zero, Array.toList_append, List.take_append_of_le_length (by simp [hbl, hlen, Ty.size])]
          apply List.take_of_length_le
          simp [hbl, hlen, Ty.size]
        rw [this]
        exact bytes_rep s'
    · simp [Tr.ev] at h
  · rename_i e ts bytes hs ht
    split at h
    · rename_i he
      simp only [Tr.ev, Option.some.injEq] at h
      subst h
      obtain rfl : v = .slice none 0 0 := hx
      obtain ⟨h1, _⟩ := hT.slice hs
      exact ⟨_, w, run_convert_bytes_nil w s e h1 (cell_int hT he) 0 0 t (cell_str hT ht), Did.same hi (sv_leaf (mk_str (n := [])))⟩
    · simp [Tr.ev] at h
  · rename_i hs ht _
    split at h
    · rename_i he
      simp only [ev_bind, Option.bind_eq_some_iff] at h
      obtain ⟨o, ho, h⟩ := h
      split at h
      · rename_i oe xs
        simp only [Tr.ev, Option.some.injEq] at h
        subst h
        obtain ⟨A, cap, ws, F', rfl, hr, hxs⟩ := data_read hi hx ho
        obtain ⟨h1, _⟩ := hT.slice hs
        have hws := u8_cells _ hr
        refine ⟨.string ⟨(textOf xs).toArray⟩, w, ?_, Did.same hi (sv_leaf mk_str)⟩
        cases A with
        | none =>
          rcases hxs with hxs | ⟨ad, h, _⟩
          · simp only at hxs
            subst hxs
            exact run_convert_bytes_nil w s _ h1 (cell_int hT he) _ cap t (cell_str hT ht)
          · cases h
        | some a =>
          rw [run_convert_bytes_string w s t _ (some a) _ cap h1 (cell_int hT he) (cell_str hT ht)]
          have hl : (loadCells a (List.length xs)).run P w = .ok (xs.map (Value.int .u8)).toArray w := by
            have := run_loadCells_list (P := P) w a (xs.map (Value.int .u8)) (fun j u hu => by
              have hj := (List.getElem?_eq_some_iff.1 hu).1
              rcases hxs with hxs | ⟨ad, h, _, h2⟩
              · simp only at hxs; subst hxs; simp at hj
              · injection h with h; subst h
                rw [h2 j (by rw [hws]; exact hj), hws]; exact hu)
            simpa using this
          rw [run_bytesToString w a _ cap xs hl, text_fold]
      · simp [Tr.ev] at h
    · simp [Tr.ev] at h
  · simp [Tr.ev] at h

/-! ### the rest -/
theorem minmax_ok {K : Nat → Prop} {f : Builtin} {xs : List SV} {us : List Value} {r : SV} (ts : Array TypeId) (t : TypeId) (hx : All2 (SVOk S c w K) xs us) (h : (minmax f xs).ev S = some r) :
    (f = .min ∧ ∃ u, (Builtin.min_ ts t us.toArray).run P w = .ok u w ∧ SVOk S c w K r u) ∨ (f = .max ∧ ∃ u, (Builtin.max_ ts t us.toArray).run P w = .ok u w ∧ SVOk S c w K r u) := by
  unfold minmax at h
  split at h
  · rename_i k x k' y
    cases hx with
    | cons h1 h2 =>
      cases h2 with
      | cons h2 h3 =>
        cases h3
        obtain rfl := int_leaf (leaf_sv h1)
        obtain rfl := int_leaf (leaf_sv h2)
        split at h
        · rename_i hk
          subst hk
          split at h
          · simp only [Tr.ev, Option.some.injEq] at h
            subst h
            refine .inl ⟨rfl, .int k (if (y : Int) < x then y else x), ?_, sv_leaf mk_int⟩
            simp [Builtin.min_, Builtin.min2]
          · simp only [Tr.ev, Option.some.injEq] at h
            subst h
            refine .inr ⟨rfl, .int k (if (x : Int) < y then y else x), ?_, sv_leaf mk_int⟩
            simp [Builtin.max_, Builtin.max2]
          · simp [Tr.ev] at h
        · simp [Tr.ev] at h
  · simp [Tr.ev] at h

theorem index_str {K : Nat → Prop} {t : TypeId} {s : List UInt8} {k : IntKind} {i : Int} {u : UInt8} (ht : P.underlying t = some .string) (h0 : 0 ≤ i) (hu : s[i.toNat]? = some u) :
    (Instr.index t (.string ⟨s.toArray⟩) (.int k i)).run P w = .ok (.int .u8 (u.toNat : Nat)) w ∧ SVOk S c w K (.s (.one (.v (.int .u8) ((UInt8.toNat u : Nat) : Int)))) (.int .u8 (u.toNat : Nat)) := by
  refine ⟨?_, sv_leaf mk_int⟩
  have hlt : i.toNat < s.length := (List.getElem?_eq_some_iff.1 hu).1
  rw [run_index_string w t _ k i ht, dif_pos ⟨h0, by simp only [ByteArray.size, List.size_toArray]; omega⟩]
  have hs : s[i.toNat] = u := by
    have := List.getElem?_eq_getElem hlt
    rw [hu] at this
    injection this with this
    exact this.symm
  congr 2
  rw [← hs]
  rfl
end

#print axioms conv_ok
#print axioms build_ok
#print axioms minmax_ok
#print axioms index_str
end Go.V
