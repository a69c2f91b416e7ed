/-
  S25: arguments as they come in by the statement's reading: data of whatever type of the table.
-/
import Derived.Test.YtdicgiljgelkfaaS24
import Derived.WalkKit
import Derived.ProofKit
import Derived.ChangeOld
import Derived.DataReads
namespace Go.V
open Go.ChangeShapes Go.WideShapes Go.ChangeAt Go.RowKit

/-- data as they may come in: numbers fit, texts and rows are no longer than may be -/
def Fits : (t : Ty) → t.D → Prop
  | .int k, n => (Lit.int k n).wf = true
  | .str, s => List.length s ≤ maxLen
  | .pair a b, x => Fits a x.1 ∧ Fits b x.2
  | .sl _ _ r, xs => List.length xs ≤ maxLen ∧ ∀ x ∈ (show List r.D from xs), Fits r x
  | _, _ => True

/-! ### the table agrees with itself -/
def rowOfF (ti : TypeId → TI) : List Field → Option (List Ty)
  | [] => some []
  | f :: fs => match (ti f.type).cells, rowOfF ti fs with
    | some a, some b => some (a ++ b)
    | _, _ => none
def offsF (ti : TypeId → TI) : List Field → Nat → Bool
  | [], _ => true
  | f :: fs, n => f.offset == n && offsF ti fs (n + (((ti f.type).cells).getD []).length)
def tyOk2 (P : Program) (ti : TypeId → TI) (t : TypeId) : TI → Bool
  | .slice e ts _ => decide ((ti e).cells = some ts)
  | .struct _ row _ => match P.underlying t with
    | some (.struct fields) => decide (rowOfF ti fields.toList = some row) && offsF ti fields.toList 0
    | _ => false
  | _ => true
def allOk2 (P : Program) (ti : TypeId → TI) : List TI → Nat → Bool
  | [], _ => true
  | x :: l, n => tyOk2 P ti n x && allOk2 P ti l (n + 1)
theorem allOk2_at {P : Program} {ti : TypeId → TI} : ∀ (l : List TI) (n : Nat), allOk2 P ti l n = true → ∀ t, tyOk2 P ti (n + t) (l.getD t .other) = true
  | [], n, _, t => by simp [tyOk2]
  | x :: l, n, h, t => by
    simp only [allOk2, Bool.and_eq_true] at h
    cases t with
    | zero => exact h.1
    | succ t => have := allOk2_at l (n + 1) h.2 t; rw [show n + (t + 1) = n + 1 + t by omega]; exact this
theorem tabOf2 (P : Program) (l : List TI) (h : allOk2 P (fun t => l.getD t .other) l 0 = true) : ∀ t, tyOk2 P (fun t => l.getD t .other) t (l.getD t .other) = true := fun t => by
  have := allOk2_at l 0 h t; rwa [Nat.zero_add] at this

section
variable {H : Type} {enc : TypeId × Value → H} {P : Program} {w : World} {ti : TypeId → TI}

abbrev Any : Nat → Prop := fun _ => True

theorem row_of : ∀ (ts : List Ty) (ls : List ALeaf) (cs : List Value), ls.map (·.1) = ts.map Ty.frz → FL (ALOk w Any) ls cs [] → (∀ l ∈ ls, Fits l.1 l.2) →
    ∃ x : (rowTy ts).frz.D, Rp w Any (rowTy ts).frz x cs [] ∧ Fits (rowTy ts).frz x
  | [], ls, cs, h1, h2, _ => by
    obtain rfl : ls = [] := by simpa using h1
    obtain ⟨rfl, _⟩ := h2
    exact ⟨(), ⟨rfl, rfl⟩, trivial⟩
  | [t], ls, cs, h1, h2, h3 => by
    match ls, h1, h2, h3 with
    | [⟨t', x⟩], h1, h2, h3 =>
      simp only [List.map_cons, List.map_nil, List.cons.injEq, and_true] at h1
      subst h1
      obtain ⟨v, vs, F1, F2, rfl, e, k1, rfl, rfl⟩ := h2
      obtain rfl : F1 = [] := by simpa using e.symm
      exact ⟨x, k1.1, h3 ⟨t.frz, x⟩ (by simp)⟩
  | t :: u :: ts, ls, cs, h1, h2, h3 => by
    match ls, h1, h2, h3 with
    | ⟨t', x⟩ :: ls, h1, h2, h3 =>
      simp only [List.map_cons, List.cons.injEq] at h1
      obtain ⟨e1, e2⟩ := h1
      subst e1
      obtain ⟨v, vs, F1, F2, rfl, e, k1, k2⟩ := h2
      obtain ⟨rfl, rfl⟩ : F1 = [] ∧ F2 = [] := by simpa using e.symm
      obtain ⟨y, k3, k4⟩ := row_of (u :: ts) ls vs (by simpa using e2) k2 (fun l hl => h3 l (by simp [hl]))
      exact ⟨(x, y), ⟨[v], vs, [], [], rfl, rfl, k1.1, k3⟩, h3 ⟨t.frz, x⟩ (by simp), k4⟩

theorem frz_own : ∀ t : Ty, t.frz.own = false
  | .int _ | .bool | .str | .unit | .pair _ _ | .sl _ _ _ => rfl

theorem trod_open (hT : TabOk P ti) (hT2 : ∀ t, tyOk2 P ti t (ti t) = true) : ∀ (fuel : Nat) (t : TypeId) (cs : List Value) (ts : List Ty) {x : DataW H × List MemPlace}, (ti t).cells = some ts →
    DataW.trod enc P w 0 (fun _ => true) true fuel t cs = some x → ∃ ls : List ALeaf, ls.map (·.1) = ts.map Ty.frz ∧ FL (ALOk w Any) ls cs [] ∧ ∀ l ∈ ls, Fits l.1 l.2 := by
  intro fuel
  induction fuel with
  | zero => intro t cs ts x _ h; simp [DataW.trod] at h
  | succ n ih =>
    intro t cs ts x hts h
    cases ht : ti t with
    | cell u =>
      rw [ht] at hts
      simp only [TI.cells, Option.some.injEq] at hts
      subst hts
      obtain ⟨⟨d, hd, hdd⟩, _⟩ := hT.cell ht
      cases u with
      | int k =>
        cases d <;> simp [descIs] at hdd
        subst hdd
        obtain ⟨m, rfl, _, hw⟩ := DataW.trod_int hd h
        exact ⟨[⟨.int k, m⟩], rfl, ⟨_, [], [], [], rfl, rfl, ⟨⟨rfl, rfl⟩, fun _ => rfl⟩, rfl, rfl⟩, fun l hl => by rw [List.mem_singleton.1 hl]; exact hw⟩
      | bool =>
        cases d <;> simp [descIs] at hdd
        obtain ⟨m, rfl, _⟩ := DataW.trod_bool hd h
        exact ⟨[⟨.bool, m⟩], rfl, ⟨_, [], [], [], rfl, rfl, ⟨⟨rfl, rfl⟩, fun _ => rfl⟩, rfl, rfl⟩, fun l hl => by rw [List.mem_singleton.1 hl]; exact trivial⟩
      | str =>
        cases d <;> simp [descIs] at hdd
        obtain ⟨⟨⟨s⟩⟩, rfl, _, hs⟩ := DataW.trod_string hd h
        exact ⟨[⟨.str, s⟩], rfl, ⟨_, [], [], [], rfl, rfl, ⟨⟨rfl, rfl⟩, fun _ => rfl⟩, rfl, rfl⟩, fun l hl => by rw [List.mem_singleton.1 hl]; exact (show List.length s ≤ maxLen by simpa [ByteArray.size] using hs)⟩
      | unit => simp [descIs] at hdd
      | pair a b => simp [descIs] at hdd
      | sl o e r => simp [descIs] at hdd
    | slice e ts' bytes =>
      rw [ht] at hts
      simp only [TI.cells, Option.some.injEq] at hts
      subst hts
      obtain ⟨hu, _, _, hlen, i, z, hi, hsz, _⟩ := hT.slice ht
      have he : (ti e).cells = some ts' := by have := hT2 t; rw [ht] at this; simpa [tyOk2] using this
      have hce : P.cellsOf e = ts'.length := by simp [Program.cellsOf, hi, hsz]
      rcases DataW.trod_slice hu h with ⟨rfl, _⟩ | ⟨a, len, cap, elems, rest, m, hfm, rfl, _, _, hl, hm, hel, hels, _⟩
      · refine ⟨[⟨.sl false e (rowTy ts').frz, []⟩], rfl, ⟨_, [], [], [], rfl, rfl, ⟨?_, fun _ => rfl⟩, rfl, rfl⟩, fun l hl => by rw [List.mem_singleton.1 hl]; exact ⟨Nat.zero_le _, fun _ h => by cases h⟩⟩
        exact ⟨rfl, none, 0, [], rfl, Nat.le_refl _, ⟨rfl, rfl⟩, .inl rfl⟩
      · obtain rfl : n = m := by omega
        have key : ∀ q, q ≤ len → ∃ (xs : List (rowTy ts').frz.D) (ws : List Value), xs.length = q ∧ ws.length = q * ts'.length ∧ RpL (Rp w Any (rowTy ts').frz) xs ws [] ∧
            (∀ j, j < ws.length → w.cell? (a.add j) = ws[j]?) ∧ (∀ x ∈ xs, Fits (rowTy ts').frz x) := by
          intro q
          induction q with
          | zero => intro _; exact ⟨[], [], rfl, by simp, ⟨rfl, rfl⟩, fun j hj => by simp at hj, fun _ h => by cases h⟩
          | succ q ihq =>
            intro hq
            obtain ⟨xs, ws, h1, h2, h3, h4, h5⟩ := ihq (by omega)
            have hq' := hels q (by omega)
            rw [List.getElem?_eq_getElem (by omega), Option.bind_eq_some_iff] at hq'
            obtain ⟨cs', hcs, hy⟩ := hq'
            obtain ⟨ls, k1, k2, k3⟩ := ih e cs' ts' he hy
            obtain ⟨x, k4, k5⟩ := row_of ts' ls cs' k1 k2 k3
            obtain ⟨_, c2, c3⟩ := World.cells?_some hcs
            refine ⟨xs ++ [x], ws ++ cs', by simp [h1], ?_, ?_, ?_, ?_⟩
            · rw [List.length_append, h2, c2, hce, Nat.succ_mul]
            · have := h3.append (show RpL (Rp w Any (rowTy ts').frz) [x] cs' [] from ⟨cs', [], [], [], by simp, rfl, k4, rfl, rfl⟩)
              simpa using this
            · intro j hj
              by_cases hjw : j < ws.length
              · rw [h4 j hjw, List.getElem?_append_left hjw]
              · rw [List.getElem?_append_right (by omega)]
                have := c3 (j - ws.length) (by rw [List.length_append] at hj; omega)
                rw [← this]
                congr 1
                rw [hce, h2, Addr.add_add]
                congr 1; omega
            · intro y hy
              rcases List.mem_append.1 hy with hy | hy
              · exact h5 y hy
              · rw [List.mem_singleton.1 hy]; exact k5
        obtain ⟨xs, ws, h1, h2, h3, h4, h5⟩ := key len (Nat.le_refl _)
        have hxl : List.length xs = len := h1
        refine ⟨[⟨.sl false e (rowTy ts').frz, xs⟩], rfl, ⟨_, [], [], [], rfl, rfl, ⟨?_, fun _ => rfl⟩, rfl, rfl⟩, fun l hl => by rw [List.mem_singleton.1 hl]; exact ⟨show List.length xs ≤ maxLen by omega, h5⟩⟩
        refine ⟨rfl, some a, cap, ws, by rw [hxl], by rw [hxl]; exact hl, h3, ?_⟩
        rcases Nat.eq_zero_or_pos len with hz | hz
        · left; exact List.eq_nil_of_length_eq_zero (show List.length xs = 0 by omega)
        · right
          refine ⟨a, rfl, trivial, ?_, h4⟩
          have h0 := hels 0 hz
          rw [List.getElem?_eq_getElem (by omega), Option.bind_eq_some_iff] at h0
          obtain ⟨cs', hcs, _⟩ := h0
          have := World.cells?_block hcs (by rw [hce]; exact hlen)
          rwa [add_block] at this
    | struct fs row eq =>
      rw [ht] at hts
      simp only [TI.cells, Option.some.injEq] at hts
      subst hts
      obtain ⟨fields, hu, _, _, i, hi, hsz, _⟩ := hT.struct ht
      have h2 := hT2 t
      rw [ht] at h2
      simp only [tyOk2, hu, Bool.and_eq_true, decide_eq_true_eq] at h2
      obtain ⟨hr, ho⟩ := h2
      obtain ⟨xs, m, hfm, _, hcl, hxl, hf⟩ := DataW.trod_struct hu h
      obtain rfl : n = m := by omega
      have hcl' : cs.length = row.length := by rw [hcl]; simp [Program.cellsOf, hi, hsz]
      have key : ∀ (fl : List Field) (off : Nat) (row : List Ty), rowOfF ti fl = some row → offsF ti fl off = true → off + row.length = cs.length →
          (∀ f ∈ fl, ∃ y, DataW.trod enc P w 0 (fun _ => true) true n f.type ((cs.drop f.offset).take (P.cellsOf f.type)) = some y) →
          ∃ ls : List ALeaf, ls.map (·.1) = row.map Ty.frz ∧ FL (ALOk w Any) ls (cs.drop off) [] ∧ ∀ l ∈ ls, Fits l.1 l.2 := by
        intro fl
        induction fl with
        | nil =>
          intro off row h1 _ h3 _
          simp only [rowOfF, Option.some.injEq] at h1
          subst h1
          simp only [List.length_nil, Nat.add_zero] at h3
          exact ⟨[], rfl, ⟨by rw [h3]; simp, rfl⟩, fun _ h => by cases h⟩
        | cons f fl ihf =>
          intro off row h1 h2 h3 h4
          simp only [rowOfF] at h1
          split at h1
          · rename_i a b ha hb
            injection h1 with h1
            subst h1
            simp only [offsF, Bool.and_eq_true, beq_iff_eq, ha, Option.getD_some] at h2
            obtain ⟨ho, h2⟩ := h2
            rw [List.length_append] at h3
            obtain ⟨ls2, q1, q2, q3⟩ := ihf (off + a.length) b hb h2 (by omega) (fun g hg => h4 g (by simp [hg]))
            obtain ⟨y, hy⟩ := h4 f (by simp)
            obtain ⟨ls1, p1, p2, p3⟩ := ih _ _ a ha hy
            obtain ⟨i', hi', hsz', _⟩ := size_of hT ha
            have hc : P.cellsOf f.type = a.length := by simp [Program.cellsOf, hi', hsz']
            refine ⟨ls1 ++ ls2, by rw [List.map_append, List.map_append, p1, q1], ?_, ?_⟩
            · have := p2.append q2
              rw [ho, hc] at this
              rw [← List.drop_drop, List.take_append_drop] at this
              simpa using this
            · intro l hl
              rcases List.mem_append.1 hl with hl | hl
              · exact p3 l hl
              · exact q3 l hl
          · cases h1
      have := key fields.toList 0 row hr ho (by omega) (fun f hfm => by
        obtain ⟨j, hj⟩ := List.getElem?_of_mem hfm
        have hj' : fields[j]? = some f := by simpa using hj
        have hjl : j < fields.size := (Array.getElem?_eq_some_iff.1 hj').1
        rw [hf j f hj']
        exact ⟨_, List.getElem?_eq_getElem (by omega)⟩)
      simpa using this
    | ptr e => rw [ht] at hts; cases hts
    | other => rw [ht] at hts; cases hts

theorem leaf_cons {t : Ty} {ts : List Ty} : ∀ {ls : List ALeaf}, ls.map (·.1) = t :: ts → ∃ (x : t.D) (ls' : List ALeaf), ls = ⟨t, x⟩ :: ls' ∧ ls'.map (·.1) = ts
  | ⟨t', x⟩ :: ls, h => by
    simp only [List.map_cons, List.cons.injEq] at h
    obtain ⟨rfl, h⟩ := h
    exact ⟨x, ls, rfl, h⟩
theorem leaf_nil {ls : List ALeaf} (h : ls.map (·.1) = []) : ls = [] := by simpa using h
/-- a law that is known, at data where it is true -/
theorem kn_law {P : Program} {k : Kn} (h : KnOk P k) {args : List A1} {a : Ans} (ha : k.ca args [] = some a) {y : a.β} (hy : a.o = some y) (hr : a.g y = ⟨[.one ⟨.bool, true⟩], []⟩) : CallSound P k.f args [] ⟨[.one ⟨.bool, true⟩], []⟩ := hr ▸ h args [] a ha y hy

/-- an argument that is no struct -/
theorem open_one {r : Reach} {b0 : Nat} (hT : TabOk P ti) (hT2 : ∀ t, tyOk2 P ti t (ti t) = true) {t : TypeId} {u : Ty} {v : Value} {d : DataW H} {ps : List MemPlace} (hts : (ti t).cells = some [u]) (hag : (ti t).isAgg = false)
    (hval : Value.okWide P w r b0 t v) (h : DataW.Trod enc P w 0 (fun _ => true) true t v d ps) : ∃ x : u.frz.D, Fits u.frz x ∧ ∀ ms, A1Ok w Any ms (.one ⟨u.frz, x⟩) v [] := by
  obtain ⟨fuel, h⟩ := h
  obtain ⟨ls, h1, h2, h3⟩ := trod_open hT hT2 fuel t _ _ hts h
  match ls, h1, h2, h3 with
  | [⟨t', x⟩], h1, h2, h3 =>
    simp only [List.map_cons, List.map_nil, List.cons.injEq, and_true] at h1
    subst h1
    obtain ⟨v', vs, F1, F2, e1, e, k1, rfl, rfl⟩ := h2
    obtain rfl : F1 = [] := by simpa using e.symm
    refine ⟨x, h3 ⟨u.frz, x⟩ (by simp), fun ms => ?_⟩
    have : v.cells = #[v'] := Array.toList_inj.1 e1
    have hv : v = v' := by
      have h9 : v.cells = #[v] := by
        cases ht : ti t with
        | cell u' =>
          obtain ⟨⟨d', hd', hdd⟩, _⟩ := hT.cell ht
          cases u' <;> cases d' <;> first
            | (simp [descIs] at hdd; done)
            | (obtain ⟨n, rfl⟩ := okWide_int hd' hval; rfl)
            | (obtain ⟨n, rfl⟩ := okWide_bool hd' hval; rfl)
            | (obtain ⟨n, rfl⟩ := okWide_string hd' hval; rfl)
        | slice e ts' b =>
          obtain ⟨a, len, cap, rfl⟩ := okWide_slice (hT.slice ht).1 hval
          rfl
        | struct fs row eq => rw [ht] at hag; cases hag
        | ptr e => rw [ht] at hts; cases hts
        | other => rw [ht] at hts; cases hts
      rw [h9] at this
      simpa using this
    subst hv
    exact k1
/-- a struct -/
theorem open_ag {r : Reach} {b0 : Nat} (hT : TabOk P ti) (hT2 : ∀ t, tyOk2 P ti t (ti t) = true) {t : TypeId} {ts : List Ty} {v : Value} {d : DataW H} {ps : List MemPlace} (hts : (ti t).cells = some ts) (hag : (ti t).isAgg = true)
    (hval : Value.okWide P w r b0 t v) (h : DataW.Trod enc P w 0 (fun _ => true) true t v d ps) : ∃ ls : List ALeaf, ls.map (·.1) = ts.map Ty.frz ∧ (∀ l ∈ ls, Fits l.1 l.2) ∧ ∀ ms, A1Ok w Any ms (.ag ls) v [] := by
  obtain ⟨fuel, h⟩ := h
  obtain ⟨ls, h1, h2, h3⟩ := trod_open hT hT2 fuel t _ _ hts h
  refine ⟨ls, h1, h3, fun ms => ?_⟩
  obtain ⟨i, _, _, ⟨d', hd', hdd⟩, _⟩ := size_of hT hts
  rw [hag] at hdd
  have : ∃ cs, v = .agg cs := by
    cases d' <;> simp [isAggD] at hdd <;> (simp only [Value.okWide, hd'] at hval; obtain ⟨cs, h, _⟩ := hval; exact ⟨cs, h⟩)
  obtain ⟨cs, rfl⟩ := this
  exact ⟨cs.toList, rfl, h2⟩
end
end Go.V
