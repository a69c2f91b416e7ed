import Derived.Test.YtijemcbcchnnjaaQTrD
import Derived.WalkKit
import Derived.ProofKit
import Derived.ChangeOld
import Derived.DataReads
namespace Go.V
open Go.ChangeShapes Go.WideShapes Go.ChangeAt Go.RowKit
def Fits : (t : Ty) → t.D → Prop
  | .int k, n => (Lit.int k n).wf = true
  | .str, s => List.length s ≤ maxLen
  | .pair a b, x => Fits a x.1 ∧ Fits b x.2
  | .sl _ _ r, xs => List.length xs ≤ maxLen ∧ ∀ x ∈ (show List r.D from xs), Fits r x
  | _, _ => True
def rowOfF (ti : TypeId → TI) : List Field → Option (List Ty)
  | [] => some []
  | f :: fs => match (ti f.type).cells, rowOfF ti fs with
    | some a, some b => some (a ++ b)
    | _, _ => none
def offsF (ti : TypeId → TI) : List Field → Nat → Bool
  | [], _ => true
  | f :: fs, n => f.offset == n && offsF ti fs (n + (((ti f.type).cells).getD []).length)
def tyOk2 (P : Program) (ti : TypeId → TI) (t : TypeId) : TI → Bool
  | .slice e ts _ => decide ((ti e).cells = some ts)
  | .struct _ row _ => match P.underlying t with
    | some (.struct fields) => decide (rowOfF ti fields.toList = some row) && offsF ti fields.toList 0
    | _ => false
  | _ => true
def allOk2 (P : Program) (ti : TypeId → TI) : List TI → Nat → Bool
  | [], _ => true
  | x :: l, n => tyOk2 P ti n x && allOk2 P ti l (n + 1)
theorem allOk2_at {P : Program} {ti : TypeId → TI} : ∀ (l : List TI) (n : Nat), allOk2 P ti l n = true → ∀ t, tyOk2 P ti (n + t) (l.getD t .other) = true
  | [], n, _, t => by simp [tyOk2]
  | x :: l, n, h, t => by
    simp only [allOk2, Bool.and_eq_true] at h
    cases t with
    | zero => exact h.1
    | succ t => have := allOk2_at l (n + 1) h.2 t; rw [show n + (t + 1) = n + 1 + t by omega]; exact this
theorem tabOf2 (P : Program) (l : List TI) (h : allOk2 P (fun t => l.getD t .other) l 0 = true) : ∀ t, tyOk2 P (fun t => l.getD t .other) t (l.getD t .other) = true := fun t => by
  have := allOk2_at l 0 h t; rwa [Nat.zero_add] at this
section
variable {H : Type} {enc : TypeId × Value → H} {P : Program} {w : World} {ti : TypeId → TI}
abbrev Any : Nat → Prop := fun _ => True
theorem row_of : ∀ (ts : List Ty) (ls : List ALeaf) (cs : List Value), ls.map (·.1) = ts.map Ty.frz → FL (ALOk w Any) ls cs [] → (∀ l ∈ ls, Fits l.1 l.2) →
    ∃ x : (rowTy ts).frz.D, Rp w Any (rowTy ts).frz x cs [] ∧ Fits (rowTy ts).frz x
  | [], ls, cs, h1, h2, _ => by
    obtain rfl : ls = [] := by simpa using h1
    obtain ⟨rfl, _⟩ := h2
    exact ⟨(), ⟨rfl, rfl⟩, trivial⟩
  | [t], ls, cs, h1, h2, h3 => by
    match ls, h1, h2, h3 with
    | [⟨t', x⟩], h1, h2, h3 =>
      simp only [List.map_cons, List.map_nil, List.cons.injEq, and_true] at h1
      subst h1
      obtain ⟨v, vs, F1, F2, rfl, e, k1, rfl, rfl⟩ := h2
      obtain rfl : F1 = [] := by simpa using e.symm
      exact ⟨x, k1.1, h3 ⟨t.frz, x⟩ (by simp)⟩
  | t :: u :: ts, ls, cs, h1, h2, h3 => by
    match ls, h1, h2, h3 with
    | ⟨t', x⟩ :: ls, h1, h2, h3 =>
      simp only [List.map_cons, List.cons.injEq] at h1
      obtain ⟨e1, e2⟩ := h1
      subst e1
      obtain ⟨v, vs, F1, F2, rfl, e, k1, k2⟩ := h2
      obtain ⟨rfl, rfl⟩ : F1 = [] ∧ F2 = [] := by simpa using e.symm
      obtain ⟨y, k3, k4⟩ := row_of (u :: ts) ls vs (by simpa using e2) k2 (fun l hl => h3 l (by simp [hl]))
      exact ⟨(x, y), ⟨[v], vs, [], [], rfl, rfl, k1.1, k3⟩, h3 ⟨t.frz, x⟩ (by simp), k4⟩
theorem trod_open (hT : TabOk P ti) (hT2 : ∀ t, tyOk2 P ti t (ti t) = true) : ∀ (fuel : Nat) (t : TypeId) (cs : List Value) (ts : List Ty) {x : DataW H × List MemPlace}, (ti t).cells = some ts →
    DataW.trod enc P w 0 (fun _ => true) true fuel t cs = some x → ∃ ls : List ALeaf, ls.map (·.1) = ts.map Ty.frz ∧ FL (ALOk w Any) ls cs [] ∧ ∀ l ∈ ls, Fits l.1 l.2 := by
  intro fuel
  induction fuel with
  | zero => intro t cs ts x _ h; simp [DataW.trod] at h
  | succ n ih =>
    intro t cs ts x hts h
    cases ht : ti t with
    | cell u =>
      rw [ht] at hts
      simp only [TI.cells, Option.some.injEq] at hts
      subst hts
      obtain ⟨⟨d, hd, hdd⟩, _⟩ := hT.cell ht
      cases u with
      | pt t => cases d <;> simp [descIs] at hdd
      | int k =>
        cases d <;> simp [descIs] at hdd
        subst hdd
        obtain ⟨m, rfl, _, hw⟩ := DataW.trod_int hd h
        exact ⟨[⟨.int k, m⟩], rfl, ⟨_, [], [], [], rfl, rfl, ⟨⟨rfl, rfl⟩, fun _ => rfl⟩, rfl, rfl⟩, fun l hl => by rw [List.mem_singleton.1 hl]; exact hw⟩
      | bool =>
        cases d <;> simp [descIs] at hdd
        obtain ⟨m, rfl, _⟩ := DataW.trod_bool hd h
        exact ⟨[⟨.bool, m⟩], rfl, ⟨_, [], [], [], rfl, rfl, ⟨⟨rfl, rfl⟩, fun _ => rfl⟩, rfl, rfl⟩, fun l hl => by rw [List.mem_singleton.1 hl]; exact trivial⟩
      | str =>
        cases d <;> simp [descIs] at hdd
        obtain ⟨⟨⟨s⟩⟩, rfl, _, hs⟩ := DataW.trod_string hd h
        exact ⟨[⟨.str, s⟩], rfl, ⟨_, [], [], [], rfl, rfl, ⟨⟨rfl, rfl⟩, fun _ => rfl⟩, rfl, rfl⟩, fun l hl => by rw [List.mem_singleton.1 hl]; exact (show List.length s ≤ maxLen by simpa [ByteArray.size] using hs)⟩
      | unit => simp [descIs] at hdd
      | pair a b => simp [descIs] at hdd
      | sl o e r => simp [descIs] at hdd
    | slice e ts' bytes =>
      rw [ht] at hts
      simp only [TI.cells, Option.some.injEq] at hts
      subst hts
      obtain ⟨hu, _, _, hlen, i, z, hi, hsz, _⟩ := hT.slice ht
      have he : (ti e).cells = some ts' := by have := hT2 t; rw [ht] at this; simpa [tyOk2] using this
      have hce : P.cellsOf e = ts'.length := by simp [Program.cellsOf, hi, hsz]
      rcases DataW.trod_slice hu h with ⟨rfl, _⟩ | ⟨a, len, cap, elems, rest, m, hfm, rfl, _, _, hl, hm, hel, hels, _⟩
      · refine ⟨[⟨.sl false e (rowTy ts').frz, []⟩], rfl, ⟨_, [], [], [], rfl, rfl, ⟨?_, fun _ => rfl⟩, rfl, rfl⟩, fun l hl => by rw [List.mem_singleton.1 hl]; exact ⟨Nat.zero_le _, fun _ h => by cases h⟩⟩
        exact ⟨rfl, none, 0, [], rfl, Nat.le_refl _, ⟨rfl, rfl⟩, .inl rfl⟩
      · obtain rfl : n = m := by omega
        have key : ∀ q, q ≤ len → ∃ (xs : List (rowTy ts').frz.D) (ws : List Value), xs.length = q ∧ ws.length = q * ts'.length ∧ RpL (Rp w Any (rowTy ts').frz) xs ws [] ∧
            (∀ j, j < ws.length → w.cell? (a.add j) = ws[j]?) ∧ (∀ x ∈ xs, Fits (rowTy ts').frz x) := by
          intro q
          induction q with
          | zero => intro _; exact ⟨[], [], rfl, by simp, ⟨rfl, rfl⟩, fun j hj => by simp at hj, fun _ h => by cases h⟩
          | succ q ihq =>
            intro hq
            obtain ⟨xs, ws, h1, h2, h3, h4, h5⟩ := ihq (by omega)
            have hq' := hels q (by omega)
            rw [List.getElem?_eq_getElem (by omega), Option.bind_eq_some_iff] at hq'
            obtain ⟨cs', hcs, hy⟩ := hq'
            obtain ⟨ls, k1, k2, k3⟩ := ih e cs' ts' he hy
            obtain ⟨x, k4, k5⟩ := row_of ts' ls cs' k1 k2 k3
            obtain ⟨_, c2, c3⟩ := World.cells?_some hcs
            refine ⟨xs ++ [x], ws ++ cs', by simp [h1], ?_, ?_, ?_, ?_⟩
            · rw [List.length_append, h2, c2, hce, Nat.succ_mul]
            · have := h3.append (show RpL (Rp w Any (rowTy ts').frz) [x] cs' [] from ⟨cs', [], [], [], by simp, rfl, k4, rfl, rfl⟩)
              simpa using this
            · intro j hj
              by_cases hjw : j < ws.length
              · rw [h4 j hjw, List.getElem?_append_left hjw]
              · rw [List.getElem?_append_right (by omega)]
                have := c3 (j - ws.length) (by rw [List.length_append] at hj; omega)
                rw [← this]
                congr 1
                rw [hce, h2, Addr.add_add]
                congr 1; omega
            · intro y hy
              rcases List.mem_append.1 hy with hy | hy
              · exact h5 y hy
              · rw [List.mem_singleton.1 hy]; exact k5
        obtain ⟨xs, ws, h1, h2, h3, h4, h5⟩ := key len (Nat.le_refl _)
        have hxl : List.length xs = len := h1
        refine ⟨[⟨.sl false e (rowTy ts').frz, xs⟩], rfl, ⟨_, [], [], [], rfl, rfl, ⟨?_, fun _ => rfl⟩, rfl, rfl⟩, fun l hl => by rw [List.mem_singleton.1 hl]; exact ⟨show List.length xs ≤ maxLen by omega, h5⟩⟩
        refine ⟨rfl, some a, cap, ws, by rw [hxl], by rw [hxl]; exact hl, h3, ?_⟩
        rcases Nat.eq_zero_or_pos len with hz | hz
        · left; exact List.eq_nil_of_length_eq_zero (show List.length xs = 0 by omega)
        · right
          refine ⟨a, rfl, trivial, ?_, h4⟩
          have h0 := hels 0 hz
          rw [List.getElem?_eq_getElem (by omega), Option.bind_eq_some_iff] at h0
          obtain ⟨cs', hcs, _⟩ := h0
          have := World.cells?_block hcs (by rw [hce]; exact hlen)
          rwa [add_block] at this
    | struct fs row eq =>
      rw [ht] at hts
      simp only [TI.cells, Option.some.injEq] at hts
      subst hts
      obtain ⟨fields, hu, _, _, i, hi, hsz, _⟩ := hT.struct ht
      have h2 := hT2 t
      rw [ht] at h2
      simp only [tyOk2, hu, Bool.and_eq_true, decide_eq_true_eq] at h2
      obtain ⟨hr, ho⟩ := h2
      obtain ⟨xs, m, hfm, _, hcl, hxl, hf⟩ := DataW.trod_struct hu h
      obtain rfl : n = m := by omega
      have hcl' : cs.length = row.length := by rw [hcl]; simp [Program.cellsOf, hi, hsz]
      have key : ∀ (fl : List Field) (off : Nat) (row : List Ty), rowOfF ti fl = some row → offsF ti fl off = true → off + row.length = cs.length →
          (∀ f ∈ fl, ∃ y, DataW.trod enc P w 0 (fun _ => true) true n f.type ((cs.drop f.offset).take (P.cellsOf f.type)) = some y) →
          ∃ ls : List ALeaf, ls.map (·.1) = row.map Ty.frz ∧ FL (ALOk w Any) ls (cs.drop off) [] ∧ ∀ l ∈ ls, Fits l.1 l.2 := by
        intro fl
        induction fl with
        | nil =>
          intro off row h1 _ h3 _
          simp only [rowOfF, Option.some.injEq] at h1
          subst h1
          simp only [List.length_nil, Nat.add_zero] at h3
          exact ⟨[], rfl, ⟨by rw [h3]; simp, rfl⟩, fun _ h => by cases h⟩
        | cons f fl ihf =>
          intro off row h1 h2 h3 h4
          simp only [rowOfF] at h1
          split at h1
          · rename_i a b ha hb
            injection h1 with h1
            subst h1
            simp only [offsF, Bool.and_eq_true, beq_iff_eq, ha, Option.getD_some] at h2
            obtain ⟨ho, h2⟩ := h2
            rw [List.length_append] at h3
            obtain ⟨ls2, q1, q2, q3⟩ := ihf (off + a.length) b hb h2 (by omega) (fun g hg => h4 g (by simp [hg]))
            obtain ⟨y, hy⟩ := h4 f (by simp)
            obtain ⟨ls1, p1, p2, p3⟩ := ih _ _ a ha hy
            obtain ⟨i', hi', hsz', _⟩ := size_of hT ha
            have hc : P.cellsOf f.type = a.length := by simp [Program.cellsOf, hi', hsz']
            refine ⟨ls1 ++ ls2, by rw [List.map_append, List.map_append, p1, q1], ?_, ?_⟩
            · have := p2.append q2
              rw [ho, hc] at this
              rw [← List.drop_drop, List.take_append_drop] at this
              simpa using this
            · intro l hl
              rcases List.mem_append.1 hl with hl | hl
              · exact p3 l hl
              · exact q3 l hl
          · cases h1
      have := key fields.toList 0 row hr ho (by omega) (fun f hfm => by
        obtain ⟨j, hj⟩ := List.getElem?_of_mem hfm
        have hj' : fields[j]? = some f := by simpa using hj
        have hjl : j < fields.size := (Array.getElem?_eq_some_iff.1 hj').1
        rw [hf j f hj']
        exact ⟨_, List.getElem?_eq_getElem (by omega)⟩)
      simpa using this
    | ptr e => rw [ht] at hts; cases hts
    | other => rw [ht] at hts; cases hts
theorem kn_law {P : Program} {k : Kn} (h : KnOk P k) {args : List A1} {a : Ans} (ha : k.ca args [] = some a) {y : a.β} (hy : a.o = some y) (hr : a.g y = ⟨[.one ⟨.bool, true⟩], [], []⟩) : CallSound P k.f args [] ⟨[.one ⟨.bool, true⟩], [], []⟩ := hr ▸ h args [] a ha y hy
theorem open_one {r : Reach} {b0 : Nat} (hT : TabOk P ti) (hT2 : ∀ t, tyOk2 P ti t (ti t) = true) {t : TypeId} {u : Ty} {v : Value} {d : DataW H} {ps : List MemPlace} (hts : (ti t).cells = some [u]) (hag : (ti t).isAgg = false)
    (hval : Value.okWide P w r b0 t v) (h : DataW.Trod enc P w 0 (fun _ => true) true t v d ps) : ∃ x : u.frz.D, Fits u.frz x ∧ ∀ ms, A1Ok w Any ms (.one ⟨u.frz, x⟩) v [] := by
  obtain ⟨fuel, h⟩ := h
  obtain ⟨ls, h1, h2, h3⟩ := trod_open hT hT2 fuel t _ _ hts h
  match ls, h1, h2, h3 with
  | [⟨t', x⟩], h1, h2, h3 =>
    simp only [List.map_cons, List.map_nil, List.cons.injEq, and_true] at h1
    subst h1
    obtain ⟨v', vs, F1, F2, e1, e, k1, rfl, rfl⟩ := h2
    obtain rfl : F1 = [] := by simpa using e.symm
    refine ⟨x, h3 ⟨u.frz, x⟩ (by simp), fun ms => ?_⟩
    have : v.cells = #[v'] := Array.toList_inj.1 e1
    have hv : v = v' := by
      have h9 : v.cells = #[v] := by
        cases ht : ti t with
        | cell u' =>
          obtain ⟨⟨d', hd', hdd⟩, _⟩ := hT.cell ht
          cases u' <;> cases d' <;> first
            | (simp [descIs] at hdd; done)
            | (obtain ⟨n, rfl⟩ := okWide_int hd' hval; rfl)
            | (obtain ⟨n, rfl⟩ := okWide_bool hd' hval; rfl)
            | (obtain ⟨n, rfl⟩ := okWide_string hd' hval; rfl)
        | slice e ts' b =>
          obtain ⟨a, len, cap, rfl⟩ := okWide_slice (hT.slice ht).1 hval
          rfl
        | struct fs row eq => rw [ht] at hag; cases hag
        | ptr e => rw [ht] at hts; cases hts
        | other => rw [ht] at hts; cases hts
      rw [h9] at this
      simpa using this
    subst hv
    exact k1
end
end Go.V

set_option linter.unusedVariables false
set_option linter.unusedSimpArgs false
set_option maxRecDepth 100000
namespace Go.V.G
open Go.V
theorem u8_of9 {n : Int} (h : Fits (.int .u8) n) : 0 ≤ n ∧ n ≤ 255 := by
  have h2 : (Lit.int .u8 n).wf = true := h
  simp [Lit.wf, IntKind.min, IntKind.max, IntKind.bits, IntKind.signed] at h2
  omega
def Kb (ks : List Kv) : Prop := ∀ s ∈ ks, ∃ j : Nat, s.1 = ((j : Nat) : Int) ∧ j < 1024
theorem kb_Kl (f : Nat → Int) : Kb (Kl f 1024) := fun s hs => by
  obtain ⟨j, rfl, hj⟩ := Kl_key s hs
  exact ⟨j, rfl, hj⟩
theorem kb_Ks {l : List Kv} (h : Ks l) : Kb l := fun s hs => by
  have := h s hs
  exact ⟨s.1.toNat, by omega, by omega⟩
section
variable {root : Int} {l now ks : List Kv} {want : List Int} {b : Bls} {x y z : List Int} {b' : Bls} {x' y' z' : List Int}
theorem tr_L1 (hk : Kb ks) (hl : ks.length ≤ 2000) (hw : want.length = 1024) : loopG l_FnTrees_L1 (root, l, now, want, ks, ((ks.length : Nat) : Int), 0, b, x, y, z, b', x', y', z') = some (root, l, now, fillF ks want, b, x, y, z, b', x', y', z') := by
  have h := loop_run l_FnTrees_L1 (fun i => (root, l, now, fillF (ks.take i) want, ks, ((ks.length : Nat) : Int), ((i : Nat) : Int), b, x, y, z, b', x', y', z')) ks.length (root, l, now, fillF (ks.take ks.length) want, b, x, y, z, b', x', y', z') (fun i hi => by
      have hs := sg_some hi
      generalize sg ks i = s at hs
      obtain ⟨j, ej, hj⟩ := hk s (List.mem_of_getElem? hs)
      have hfl := fill_len (ks.take i) want
      have hg : (fillF (ks.take i) want)[j]? = some (gb (fillF (ks.take i) want) j) := gb_some (by omega)
      unfold l_FnTrees_L1
      dsimp only
      rw [iy (by omega), iy (by omega), iy (by omega), Nat.zero_add, Int.toNat_natCast, hs, Option.bind_some, Option.bind_some, take_snocK hs, fill_snoc, ej, iy (by omega), iy (by omega), Nat.zero_add, Int.toNat_natCast, hg, Option.bind_some, Option.bind_some, ix64 (by omega)]) (by
      unfold l_FnTrees_L1
      dsimp only
      rw [ino (by omega)])
  rw [List.take_length] at h
  exact h
theorem tr_L2 (hk : Kb ks) (hl : ks.length ≤ 2000) (hw : want.length = 1024) : loopG l_FnTrees_L2 (root, ks, now, want, ((ks.length : Nat) : Int), 0, b, x, y, z, b', x', y', z') = some (root, ks, now, fillF ks want, b, x, y, z, b', x', y', z') := by
  have h := loop_run l_FnTrees_L2 (fun i => (root, ks, now, fillF (ks.take i) want, ((ks.length : Nat) : Int), ((i : Nat) : Int), b, x, y, z, b', x', y', z')) ks.length (root, ks, now, fillF (ks.take ks.length) want, b, x, y, z, b', x', y', z') (fun i hi => by
      have hs := sg_some hi
      generalize sg ks i = s at hs
      obtain ⟨j, ej, hj⟩ := hk s (List.mem_of_getElem? hs)
      have hfl := fill_len (ks.take i) want
      have hg : (fillF (ks.take i) want)[j]? = some (gb (fillF (ks.take i) want) j) := gb_some (by omega)
      unfold l_FnTrees_L2
      dsimp only
      rw [iy (by omega), iy (by omega), iy (by omega), Nat.zero_add, Int.toNat_natCast, hs, Option.bind_some, Option.bind_some, take_snocK hs, fill_snoc, ej, iy (by omega), iy (by omega), Nat.zero_add, Int.toNat_natCast, hg, Option.bind_some, Option.bind_some, ix64 (by omega)]) (by
      unfold l_FnTrees_L2
      dsimp only
      rw [ino (by omega)])
  rw [List.take_length] at h
  exact h
theorem tr_L3 {w2 : List Int} (hk : Kb ks) (hl : ks.length ≤ 2000) (hw : want.length = 1024) : loopG l_FnTrees_L3 (root, l, w2, want, ks, ((ks.length : Nat) : Int), 0, b, x, y, z, b', x', y', z') = some (root, l, w2, fillF ks want, b, x, y, z, b', x', y', z') := by
  have h := loop_run l_FnTrees_L3 (fun i => (root, l, w2, fillF (ks.take i) want, ks, ((ks.length : Nat) : Int), ((i : Nat) : Int), b, x, y, z, b', x', y', z')) ks.length (root, l, w2, fillF (ks.take ks.length) want, b, x, y, z, b', x', y', z') (fun i hi => by
      have hs := sg_some hi
      generalize sg ks i = s at hs
      obtain ⟨j, ej, hj⟩ := hk s (List.mem_of_getElem? hs)
      have hfl := fill_len (ks.take i) want
      have hg : (fillF (ks.take i) want)[j]? = some (gb (fillF (ks.take i) want) j) := gb_some (by omega)
      unfold l_FnTrees_L3
      dsimp only
      rw [iy (by omega), iy (by omega), iy (by omega), Nat.zero_add, Int.toNat_natCast, hs, Option.bind_some, Option.bind_some, take_snocK hs, fill_snoc, ej, iy (by omega), iy (by omega), Nat.zero_add, Int.toNat_natCast, hg, Option.bind_some, Option.bind_some, ix64 (by omega)]) (by
      unfold l_FnTrees_L3
      dsimp only
      rw [ino (by omega)])
  rw [List.take_length] at h
  exact h
theorem tr_L4 {p : List Int} (hp : ∀ v ∈ p, ∃ m : Nat, v = ((m : Nat) : Int) ∧ m < b.length ∧ m < b'.length ∧ blk b' m = blk b m) (hl : p.length ≤ 2000) : loopG l_FnTrees_L4 (root, l, p, ((p.length : Nat) : Int), 0, b, x, y, z, b', x', y', z') = some (.inl (root, l, b, x, y, z, b', x', y', z')) := by
  exact loop_run l_FnTrees_L4 (fun i => (root, l, p, ((p.length : Nat) : Int), ((i : Nat) : Int), b, x, y, z, b', x', y', z')) p.length (.inl (root, l, b, x, y, z, b', x', y', z')) (fun i hi => by
      have hs := gb_some hi
      obtain ⟨m, em, h1, h2, h3⟩ := hp _ (List.mem_of_getElem? hs)
      unfold l_FnTrees_L4
      dsimp only
      rw [iy (by omega), iy (by omega), iy (by omega), Nat.zero_add, Int.toNat_natCast, hs, Option.bind_some, em, iy (by omega), iy (by omega), Nat.zero_add, Int.toNat_natCast, blk_some h1, Option.bind_some, Option.bind_some, iy (by omega), iy (by omega), blk_some h2, Option.bind_some, Option.bind_some, h3, if_neg (by simp), ix64 (by omega)]) (by
      unfold l_FnTrees_L4
      dsimp only
      rw [ino (by omega)])
end
theorem rm1024 : roomFor (Int.toNat 1024) 8 = true := by simp [roomFor]
theorem trees (x0 : List Int) (hb0 : Bytes x0) : l_FnTrees x0 = some true := by
  apply Ok.eq
  unfold l_FnTrees
  refine Ok.ite (fun _ => Ok.mk rfl) fun _ => ?_
  refine (drawKeys_ok hb0).bind ?_
  rintro _ ⟨root, l, b, x, y, z, rfl, hl, d⟩
  dsimp only
  have hsb := d.sb (show 500 ≤ 1000 by omega)
  have hcase : (s_SetKeys b x y z root l = some (0, false, [], [], [], []) ∧ i_SetKeys b x y z root l = some (0, false, [], [], [], [])) ∨
      ∃ top at_ b' x' y' z', GS b x y z ∧ tre b x y root = some top ∧ setsB b x y l = true ∧ Tn b x y z top l root at_ b' x' y' z' ∧ cnt x' b.length + ndK b top l = cnt x b.length ∧ y'.length ≤ 1100 ∧ z'.length ≤ 200 ∧
        s_SetKeys b x y z root l = some (at_, true, b', x', y', z') ∧ i_SetKeys b x y z root l = some (at_, true, b', x', y', z') := by
    rcases setKeys_cases (l := l) (root := root) hsb d.hu d.hux (by omega) with h | ⟨top, g, ht, hs, ⟨h0, h1, h2⟩ | ⟨h0, at_, b', x', y', z', sk, hc, h1, h2⟩⟩
    · exact .inl h
    · obtain rfl : l = [] := List.length_eq_zero_iff.1 h0
      obtain ⟨_, hyl⟩ := g.ylen
      have hzl : z.length ≤ 127 := ris_len (ris_of g.hz).1 (fun i hi => by have := (ris_of g.hz).2 i hi; have := g.hb; omega)
      exact .inr ⟨top, root, b, x, y, z, g, ht, hs, ⟨g, d.hu, rfl, d.hux, ⟨top, ht, fun k hk => rfl⟩, fun i _ _ => rfl⟩, rfl, by omega, by omega, h1, h2⟩
    · obtain ⟨hyr, hyl⟩ := g.ylen
      obtain ⟨_, y2, _⟩ := sk.yl hyr (by omega)
      exact .inr ⟨top, at_, b', x', y', z', g, ht, hs, sk.tn g d.hu ht hs, hc, y2, sk.wk.hz, h1, h2⟩
  rcases hcase with ⟨h1, h2⟩ | ⟨top, at_, b', x', y', z', g, ht, hs, tn, hc, hy', hz', h1, h2⟩
  · exact Ok.bind_eq h2 (Ok.bind_eq h1 (Ok.no (by simp) (Ok.yes (by simp) (Ok.mk rfl))))
  obtain ⟨nx, htn, hlf⟩ := tn.tr
  obtain ⟨hl64, hks, _, _⟩ := sets_ks hs
  have hgb := gsp_of g
  have hgb' := gsp_of tn.gs
  have hb := g.hb
  have hb' := tn.gs.hb
  have hsb' : SB b' x' y' z' := ⟨by omega, by omega, by omega⟩
  have htl := tre_len ht
  refine Ok.bind_eq h2 (Ok.bind_eq h1 (Ok.no (by simp) (Ok.no (by simp) (Ok.bind_eq (s_KeysIn_eq hsb d.hu hgb ht) (Ok.bind_eq (i_KeysIn_eq hsb' tn.bu hgb' htn) (Ok.no (by simp) ?_))))))
  dsimp only
  refine Ok.yes (by simp) (Ok.yes (by simp) (Ok.yes rm1024 ?_))
  have hk1 := Kl_len (vf b top) 1024
  have hk2 := Kl_len (vf b' nx) 1024
  refine Ok.bind_eq (tr_L1 (kb_Kl _) (by omega) (by simp)) ?_
  dsimp only
  refine Ok.bind_eq (tr_L2 (kb_Ks hks) (by omega) (by rw [fill_len]; simp)) ?_
  dsimp only
  refine Ok.yes (by simp) (Ok.yes (by simp) (Ok.yes rm1024 ?_))
  refine Ok.bind_eq (tr_L3 (kb_Kl _) (by omega) (by simp)) ?_
  dsimp only
  have e1 : fillF l (fillF (Kl (vf b top) 1024) (List.replicate (Int.toNat 1024) 0)) = (List.range 1024).map (fun j => gb (av b top l (j / 32)) (j % 32)) := by
    rw [show Int.toNat 1024 = 1024 from rfl, fill_Kl, map_all]
    have := fill_sets (b := b) (top := top) hks l.length (Nat.le_refl _)
    rwa [List.take_length] at this
  have e2 : fillF (Kl (vf b' nx) 1024) (List.replicate (Int.toNat 1024) 0) = (List.range 1024).map (fun j => gb (av b top l (j / 32)) (j % 32)) := by
    rw [show Int.toNat 1024 = 1024 from rfl, fill_Kl, map_all]
    refine List.map_congr_left fun j hj => ?_
    have hj' := List.mem_range.1 hj
    unfold vf
    rw [hlf (j / 32) (by omega)]
  rw [e1, e2]
  refine Ok.bind_eq (same_selfK (by simp)) (Ok.no (by simp) ?_)
  obtain ⟨p, hp, hpl, hpm⟩ := s_PagesIn_eq hsb d.hu hgb ht
  refine Ok.bind_eq hp ?_
  dsimp only
  have hpages : ∀ v ∈ p, ∃ m : Nat, v = ((m : Nat) : Int) ∧ m < b.length ∧ m < b'.length ∧ blk b' m = blk b m := fun v hv => by
    obtain ⟨hv, hv0⟩ := (hpm v).1 hv
    have hlv : liv b x y v = true := by
      rcases hv with hv | rfl
      · obtain ⟨k, hk, rfl⟩ := List.getElem_of_mem hv
        have e : top[k] = gb top k := by unfold gb; rw [List.getElem?_eq_getElem hk]; rfl
        rw [e] at hv0 ⊢
        exact (tre_lf ht (by omega) hv0).lv
      · exact (tre_root ht hv0).1
    obtain ⟨m, rfl, h33, hm, hbx, _⟩ := liv_nat hlv
    exact ⟨m, rfl, hm, by rw [tn.bl]; exact hm, tn.ot m (by omega) hbx⟩
  refine Ok.bind_eq (tr_L4 hpages (by omega)) ?_
  dsimp only
  have hF1 : i_FreeIn b x y z = some (((cnt x b.length : Nat) : Int), true) := by rw [i_FreeIn_eq hsb, hgb]; rfl
  have hF2 : i_FreeIn b' x' y' z' = some (((cnt x' b'.length : Nat) : Int), true) := by rw [i_FreeIn_eq hsb', hgb']; rfl
  refine Ok.bind_eq (i_NeedFor_eq hsb d.hu hgb ht hs) (Ok.bind_eq hF1 (Ok.bind_eq hF2 ?_))
  have hcl := cnt_le (x := x) b.length
  refine Ok.bind (Q := fun r => r = true) ?_ (fun r hr => Ok.mk hr)
  refine Ok.yes rfl (Ok.mk ?_)
  dsimp only
  rw [tn.bl, w64 (by omega) (by omega), decide_eq_true (by omega)]
end Go.V.G
namespace Go.Proofs.Ytijemcbcchnnjaa
open Go.V
theorem pure_FnTrees {e1 : TypeId} (x0 : List Int) (g0 : Fits (.sl false e1 (.int .u8)) x0) : G.l_FnTrees x0 = some true := G.trees x0 (fun v hv => G.u8_of9 (g0.2 v hv))
end Go.Proofs.Ytijemcbcchnnjaa
