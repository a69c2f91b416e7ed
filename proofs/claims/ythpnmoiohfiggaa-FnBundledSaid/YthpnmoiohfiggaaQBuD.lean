import Derived.Test.YthpnmoiohfiggaaQBuC
import Derived.WalkKit
import Derived.ProofKit
import Derived.ChangeOld
import Derived.DataReads
namespace Go.V
open Go.ChangeShapes Go.WideShapes Go.ChangeAt Go.RowKit
def Fits : (t : Ty) → t.D → Prop
  | .int k, n => (Lit.int k n).wf = true
  | .str, s => List.length s ≤ maxLen
  | .pair a b, x => Fits a x.1 ∧ Fits b x.2
  | .sl _ _ r, xs => List.length xs ≤ maxLen ∧ ∀ x ∈ (show List r.D from xs), Fits r x
  | _, _ => True
def rowOfF (ti : TypeId → TI) : List Field → Option (List Ty)
  | [] => some []
  | f :: fs => match (ti f.type).cells, rowOfF ti fs with
    | some a, some b => some (a ++ b)
    | _, _ => none
def offsF (ti : TypeId → TI) : List Field → Nat → Bool
  | [], _ => true
  | f :: fs, n => f.offset == n && offsF ti fs (n + (((ti f.type).cells).getD []).length)
def tyOk2 (P : Program) (ti : TypeId → TI) (t : TypeId) : TI → Bool
  | .slice e ts _ => decide ((ti e).cells = some ts)
  | .struct _ row _ => match P.underlying t with
    | some (.struct fields) => decide (rowOfF ti fields.toList = some row) && offsF ti fields.toList 0
    | _ => false
  | _ => true
def allOk2 (P : Program) (ti : TypeId → TI) : List TI → Nat → Bool
  | [], _ => true
  | x :: l, n => tyOk2 P ti n x && allOk2 P ti l (n + 1)
theorem allOk2_at {P : Program} {ti : TypeId → TI} : ∀ (l : List TI) (n : Nat), allOk2 P ti l n = true → ∀ t, tyOk2 P ti (n + t) (l.getD t .other) = true
  | [], n, _, t => by simp [tyOk2]
  | x :: l, n, h, t => by
    simp only [allOk2, Bool.and_eq_true] at h
    cases t with
    | zero => exact h.1
    | succ t => have := allOk2_at l (n + 1) h.2 t; rw [show n + (t + 1) = n + 1 + t by omega]; exact this
theorem tabOf2 (P : Program) (l : List TI) (h : allOk2 P (fun t => l.getD t .other) l 0 = true) : ∀ t, tyOk2 P (fun t => l.getD t .other) t (l.getD t .other) = true := fun t => by
  have := allOk2_at l 0 h t; rwa [Nat.zero_add] at this
section
variable {H : Type} {enc : TypeId × Value → H} {P : Program} {w : World} {ti : TypeId → TI}
abbrev Any : Nat → Prop := fun _ => True
theorem row_of : ∀ (ts : List Ty) (ls : List ALeaf) (cs : List Value), ls.map (·.1) = ts.map Ty.frz → FL (ALOk w Any) ls cs [] → (∀ l ∈ ls, Fits l.1 l.2) →
    ∃ x : (rowTy ts).frz.D, Rp w Any (rowTy ts).frz x cs [] ∧ Fits (rowTy ts).frz x
  | [], ls, cs, h1, h2, _ => by
    obtain rfl : ls = [] := by simpa using h1
    obtain ⟨rfl, _⟩ := h2
    exact ⟨(), ⟨rfl, rfl⟩, trivial⟩
  | [t], ls, cs, h1, h2, h3 => by
    match ls, h1, h2, h3 with
    | [⟨t', x⟩], h1, h2, h3 =>
      simp only [List.map_cons, List.map_nil, List.cons.injEq, and_true] at h1
      subst h1
      obtain ⟨v, vs, F1, F2, rfl, e, k1, rfl, rfl⟩ := h2
      obtain rfl : F1 = [] := by simpa using e.symm
      exact ⟨x, k1.1, h3 ⟨t.frz, x⟩ (by simp)⟩
  | t :: u :: ts, ls, cs, h1, h2, h3 => by
    match ls, h1, h2, h3 with
    | ⟨t', x⟩ :: ls, h1, h2, h3 =>
      simp only [List.map_cons, List.cons.injEq] at h1
      obtain ⟨e1, e2⟩ := h1
      subst e1
      obtain ⟨v, vs, F1, F2, rfl, e, k1, k2⟩ := h2
      obtain ⟨rfl, rfl⟩ : F1 = [] ∧ F2 = [] := by simpa using e.symm
      obtain ⟨y, k3, k4⟩ := row_of (u :: ts) ls vs (by simpa using e2) k2 (fun l hl => h3 l (by simp [hl]))
      exact ⟨(x, y), ⟨[v], vs, [], [], rfl, rfl, k1.1, k3⟩, h3 ⟨t.frz, x⟩ (by simp), k4⟩
theorem trod_open (hT : TabOk P ti) (hT2 : ∀ t, tyOk2 P ti t (ti t) = true) : ∀ (fuel : Nat) (t : TypeId) (cs : List Value) (ts : List Ty) {x : DataW H × List MemPlace}, (ti t).cells = some ts →
    DataW.trod enc P w 0 (fun _ => true) true fuel t cs = some x → ∃ ls : List ALeaf, ls.map (·.1) = ts.map Ty.frz ∧ FL (ALOk w Any) ls cs [] ∧ ∀ l ∈ ls, Fits l.1 l.2 := by
  intro fuel
  induction fuel with
  | zero => intro t cs ts x _ h; simp [DataW.trod] at h
  | succ n ih =>
    intro t cs ts x hts h
    cases ht : ti t with
    | cell u =>
      rw [ht] at hts
      simp only [TI.cells, Option.some.injEq] at hts
      subst hts
      obtain ⟨⟨d, hd, hdd⟩, _⟩ := hT.cell ht
      cases u with
      | int k =>
        cases d <;> simp [descIs] at hdd
        subst hdd
        obtain ⟨m, rfl, _, hw⟩ := DataW.trod_int hd h
        exact ⟨[⟨.int k, m⟩], rfl, ⟨_, [], [], [], rfl, rfl, ⟨⟨rfl, rfl⟩, fun _ => rfl⟩, rfl, rfl⟩, fun l hl => by rw [List.mem_singleton.1 hl]; exact hw⟩
      | bool =>
        cases d <;> simp [descIs] at hdd
        obtain ⟨m, rfl, _⟩ := DataW.trod_bool hd h
        exact ⟨[⟨.bool, m⟩], rfl, ⟨_, [], [], [], rfl, rfl, ⟨⟨rfl, rfl⟩, fun _ => rfl⟩, rfl, rfl⟩, fun l hl => by rw [List.mem_singleton.1 hl]; exact trivial⟩
      | str =>
        cases d <;> simp [descIs] at hdd
        obtain ⟨⟨⟨s⟩⟩, rfl, _, hs⟩ := DataW.trod_string hd h
        exact ⟨[⟨.str, s⟩], rfl, ⟨_, [], [], [], rfl, rfl, ⟨⟨rfl, rfl⟩, fun _ => rfl⟩, rfl, rfl⟩, fun l hl => by rw [List.mem_singleton.1 hl]; exact (show List.length s ≤ maxLen by simpa [ByteArray.size] using hs)⟩
      | unit => simp [descIs] at hdd
      | pair a b => simp [descIs] at hdd
      | sl o e r => simp [descIs] at hdd
    | slice e ts' bytes =>
      rw [ht] at hts
      simp only [TI.cells, Option.some.injEq] at hts
      subst hts
      obtain ⟨hu, _, _, hlen, i, z, hi, hsz, _⟩ := hT.slice ht
      have he : (ti e).cells = some ts' := by have := hT2 t; rw [ht] at this; simpa [tyOk2] using this
      have hce : P.cellsOf e = ts'.length := by simp [Program.cellsOf, hi, hsz]
      rcases DataW.trod_slice hu h with ⟨rfl, _⟩ | ⟨a, len, cap, elems, rest, m, hfm, rfl, _, _, hl, hm, hel, hels, _⟩
      · refine ⟨[⟨.sl false e (rowTy ts').frz, []⟩], rfl, ⟨_, [], [], [], rfl, rfl, ⟨?_, fun _ => rfl⟩, rfl, rfl⟩, fun l hl => by rw [List.mem_singleton.1 hl]; exact ⟨Nat.zero_le _, fun _ h => by cases h⟩⟩
        exact ⟨rfl, none, 0, [], rfl, Nat.le_refl _, ⟨rfl, rfl⟩, .inl rfl⟩
      · obtain rfl : n = m := by omega
        have key : ∀ q, q ≤ len → ∃ (xs : List (rowTy ts').frz.D) (ws : List Value), xs.length = q ∧ ws.length = q * ts'.length ∧ RpL (Rp w Any (rowTy ts').frz) xs ws [] ∧
            (∀ j, j < ws.length → w.cell? (a.add j) = ws[j]?) ∧ (∀ x ∈ xs, Fits (rowTy ts').frz x) := by
          intro q
          induction q with
          | zero => intro _; exact ⟨[], [], rfl, by simp, ⟨rfl, rfl⟩, fun j hj => by simp at hj, fun _ h => by cases h⟩
          | succ q ihq =>
            intro hq
            obtain ⟨xs, ws, h1, h2, h3, h4, h5⟩ := ihq (by omega)
            have hq' := hels q (by omega)
            rw [List.getElem?_eq_getElem (by omega), Option.bind_eq_some_iff] at hq'
            obtain ⟨cs', hcs, hy⟩ := hq'
            obtain ⟨ls, k1, k2, k3⟩ := ih e cs' ts' he hy
            obtain ⟨x, k4, k5⟩ := row_of ts' ls cs' k1 k2 k3
            obtain ⟨_, c2, c3⟩ := World.cells?_some hcs
            refine ⟨xs ++ [x], ws ++ cs', by simp [h1], ?_, ?_, ?_, ?_⟩
            · rw [List.length_append, h2, c2, hce, Nat.succ_mul]
            · have := h3.append (show RpL (Rp w Any (rowTy ts').frz) [x] cs' [] from ⟨cs', [], [], [], by simp, rfl, k4, rfl, rfl⟩)
              simpa using this
            · intro j hj
              by_cases hjw : j < ws.length
              · rw [h4 j hjw, List.getElem?_append_left hjw]
              · rw [List.getElem?_append_right (by omega)]
                have := c3 (j - ws.length) (by rw [List.length_append] at hj; omega)
                rw [← this]
                congr 1
                rw [hce, h2, Addr.add_add]
                congr 1; omega
            · intro y hy
              rcases List.mem_append.1 hy with hy | hy
              · exact h5 y hy
              · rw [List.mem_singleton.1 hy]; exact k5
        obtain ⟨xs, ws, h1, h2, h3, h4, h5⟩ := key len (Nat.le_refl _)
        have hxl : List.length xs = len := h1
        refine ⟨[⟨.sl false e (rowTy ts').frz, xs⟩], rfl, ⟨_, [], [], [], rfl, rfl, ⟨?_, fun _ => rfl⟩, rfl, rfl⟩, fun l hl => by rw [List.mem_singleton.1 hl]; exact ⟨show List.length xs ≤ maxLen by omega, h5⟩⟩
        refine ⟨rfl, some a, cap, ws, by rw [hxl], by rw [hxl]; exact hl, h3, ?_⟩
        rcases Nat.eq_zero_or_pos len with hz | hz
        · left; exact List.eq_nil_of_length_eq_zero (show List.length xs = 0 by omega)
        · right
          refine ⟨a, rfl, trivial, ?_, h4⟩
          have h0 := hels 0 hz
          rw [List.getElem?_eq_getElem (by omega), Option.bind_eq_some_iff] at h0
          obtain ⟨cs', hcs, _⟩ := h0
          have := World.cells?_block hcs (by rw [hce]; exact hlen)
          rwa [add_block] at this
    | struct fs row eq =>
      rw [ht] at hts
      simp only [TI.cells, Option.some.injEq] at hts
      subst hts
      obtain ⟨fields, hu, _, _, i, hi, hsz, _⟩ := hT.struct ht
      have h2 := hT2 t
      rw [ht] at h2
      simp only [tyOk2, hu, Bool.and_eq_true, decide_eq_true_eq] at h2
      obtain ⟨hr, ho⟩ := h2
      obtain ⟨xs, m, hfm, _, hcl, hxl, hf⟩ := DataW.trod_struct hu h
      obtain rfl : n = m := by omega
      have hcl' : cs.length = row.length := by rw [hcl]; simp [Program.cellsOf, hi, hsz]
      have key : ∀ (fl : List Field) (off : Nat) (row : List Ty), rowOfF ti fl = some row → offsF ti fl off = true → off + row.length = cs.length →
          (∀ f ∈ fl, ∃ y, DataW.trod enc P w 0 (fun _ => true) true n f.type ((cs.drop f.offset).take (P.cellsOf f.type)) = some y) →
          ∃ ls : List ALeaf, ls.map (·.1) = row.map Ty.frz ∧ FL (ALOk w Any) ls (cs.drop off) [] ∧ ∀ l ∈ ls, Fits l.1 l.2 := by
        intro fl
        induction fl with
        | nil =>
          intro off row h1 _ h3 _
          simp only [rowOfF, Option.some.injEq] at h1
          subst h1
          simp only [List.length_nil, Nat.add_zero] at h3
          exact ⟨[], rfl, ⟨by rw [h3]; simp, rfl⟩, fun _ h => by cases h⟩
        | cons f fl ihf =>
          intro off row h1 h2 h3 h4
          simp only [rowOfF] at h1
          split at h1
          · rename_i a b ha hb
            injection h1 with h1
            subst h1
            simp only [offsF, Bool.and_eq_true, beq_iff_eq, ha, Option.getD_some] at h2
            obtain ⟨ho, h2⟩ := h2
            rw [List.length_append] at h3
            obtain ⟨ls2, q1, q2, q3⟩ := ihf (off + a.length) b hb h2 (by omega) (fun g hg => h4 g (by simp [hg]))
            obtain ⟨y, hy⟩ := h4 f (by simp)
            obtain ⟨ls1, p1, p2, p3⟩ := ih _ _ a ha hy
            obtain ⟨i', hi', hsz', _⟩ := size_of hT ha
            have hc : P.cellsOf f.type = a.length := by simp [Program.cellsOf, hi', hsz']
            refine ⟨ls1 ++ ls2, by rw [List.map_append, List.map_append, p1, q1], ?_, ?_⟩
            · have := p2.append q2
              rw [ho, hc] at this
              rw [← List.drop_drop, List.take_append_drop] at this
              simpa using this
            · intro l hl
              rcases List.mem_append.1 hl with hl | hl
              · exact p3 l hl
              · exact q3 l hl
          · cases h1
      have := key fields.toList 0 row hr ho (by omega) (fun f hfm => by
        obtain ⟨j, hj⟩ := List.getElem?_of_mem hfm
        have hj' : fields[j]? = some f := by simpa using hj
        have hjl : j < fields.size := (Array.getElem?_eq_some_iff.1 hj').1
        rw [hf j f hj']
        exact ⟨_, List.getElem?_eq_getElem (by omega)⟩)
      simpa using this
    | ptr e => rw [ht] at hts; cases hts
    | other => rw [ht] at hts; cases hts
theorem kn_law {P : Program} {k : Kn} (h : KnOk P k) {args : List A1} {a : Ans} (ha : k.ca args [] = some a) {y : a.β} (hy : a.o = some y) (hr : a.g y = ⟨[.one ⟨.bool, true⟩], [], []⟩) : CallSound P k.f args [] ⟨[.one ⟨.bool, true⟩], [], []⟩ := hr ▸ h args [] a ha y hy
theorem open_one {r : Reach} {b0 : Nat} (hT : TabOk P ti) (hT2 : ∀ t, tyOk2 P ti t (ti t) = true) {t : TypeId} {u : Ty} {v : Value} {d : DataW H} {ps : List MemPlace} (hts : (ti t).cells = some [u]) (hag : (ti t).isAgg = false)
    (hval : Value.okWide P w r b0 t v) (h : DataW.Trod enc P w 0 (fun _ => true) true t v d ps) : ∃ x : u.frz.D, Fits u.frz x ∧ ∀ ms, A1Ok w Any ms (.one ⟨u.frz, x⟩) v [] := by
  obtain ⟨fuel, h⟩ := h
  obtain ⟨ls, h1, h2, h3⟩ := trod_open hT hT2 fuel t _ _ hts h
  match ls, h1, h2, h3 with
  | [⟨t', x⟩], h1, h2, h3 =>
    simp only [List.map_cons, List.map_nil, List.cons.injEq, and_true] at h1
    subst h1
    obtain ⟨v', vs, F1, F2, e1, e, k1, rfl, rfl⟩ := h2
    obtain rfl : F1 = [] := by simpa using e.symm
    refine ⟨x, h3 ⟨u.frz, x⟩ (by simp), fun ms => ?_⟩
    have : v.cells = #[v'] := Array.toList_inj.1 e1
    have hv : v = v' := by
      have h9 : v.cells = #[v] := by
        cases ht : ti t with
        | cell u' =>
          obtain ⟨⟨d', hd', hdd⟩, _⟩ := hT.cell ht
          cases u' <;> cases d' <;> first
            | (simp [descIs] at hdd; done)
            | (obtain ⟨n, rfl⟩ := okWide_int hd' hval; rfl)
            | (obtain ⟨n, rfl⟩ := okWide_bool hd' hval; rfl)
            | (obtain ⟨n, rfl⟩ := okWide_string hd' hval; rfl)
        | slice e ts' b =>
          obtain ⟨a, len, cap, rfl⟩ := okWide_slice (hT.slice ht).1 hval
          rfl
        | struct fs row eq => rw [ht] at hag; cases hag
        | ptr e => rw [ht] at hts; cases hts
        | other => rw [ht] at hts; cases hts
      rw [h9] at this
      simpa using this
    subst hv
    exact k1
end
end Go.V

set_option linter.unusedVariables false
set_option linter.unusedSimpArgs false
set_option maxRecDepth 100000
namespace Go.V.G
open Go.V
def pre (P : List (List UInt8)) (S : List Bool) : Nat → Int
  | 0 => 0
  | k + 1 => pre P S k + (((P.getD k []).length : Nat) : Int) + (if S.getD k false = true then 1 else 0)
def nK : List Atom → Nat
  | [] => 0
  | .keep :: l => nK l + 1
  | .ins _ :: l => nK l
  | .drop :: l => nK l
theorem nK_append : ∀ a b : List Atom, nK (a ++ b) = nK a + nK b
  | [], b => by simp [nK]
  | .keep :: a, b => by simp only [List.cons_append, nK, nK_append a b]; omega
  | .ins _ :: a, b => nK_append a b
  | .drop :: a, b => nK_append a b
theorem nK_map : ∀ s : List UInt8, nK (s.map Atom.ins) = 0
  | [] => rfl
  | _ :: s => nK_map s
theorem nK_rep (f : Bool) : ∀ m : Nat, nK (List.replicate m (mk f)) = if f = true then m else 0
  | 0 => by cases f <;> rfl
  | m + 1 => by
    have := nK_rep f m
    rw [List.replicate_succ]
    cases f
    · exact this
    · simp only [if_true] at this ⊢
      show nK (.keep :: _) = _
      simp only [nK]
      rw [this]
theorem Some1.z {p : Prt} (h : Some1 p) : 0 < p.1 → p.2.1 = 0 := by
  intro h0
  have := h.ne
  unfold kd at this
  split at this
  · rename_i h; exact h.2.1
  · split at this
    · rename_i h; omega
    · split at this
      · rename_i h; omega
      · exact absurd rfl this
theorem tgt_atoms : ∀ {c : List Prt}, (∀ p ∈ c, Some1 p) → tgt c = ((nIns (atoms c) + nK (atoms c) : Nat) : Int)
  | [], _ => rfl
  | p :: c, h => by
    have ih := tgt_atoms (c := c) fun q hq => h q (by simp [hq])
    have h1 := h p (by simp)
    have k0 := h1.k; have d0 := h1.d; have z := h1.z
    show p.1 + ((p.2.2.length : Nat) : Int) + tgt c = ((nIns (pa p ++ atoms c) + nK (pa p ++ atoms c) : Nat) : Int)
    have e : nK (pa p) = p.1.toNat := by
      rw [pa, nK_append, nK_map, nK_rep, Nat.zero_add]
      by_cases h0 : 0 < p.1
      · simp [h0, z h0]
      · simp [h0]; omega
    rw [nIns_append, nIns_pa, nK_append, e]
    omega
section
variable {B : Nat} {c : List Prt} (h : Sm B c) (hB : B ≤ 1099511627000)
include h hB
end
theorem bytes_of {e : TypeId} {x : List Int} (h : Fits (.sl false e (.int .u8)) x) : Bytes x := fun n hn => by
  have := h.2 n hn
  have h2 : (Lit.int .u8 n).wf = true := this
  simp [Lit.wf, IntKind.min, IntKind.max, IntKind.bits, IntKind.signed] at h2
  omega
end Go.V.G

set_option linter.unusedVariables false
set_option linter.unusedSimpArgs false
set_option maxRecDepth 100000
namespace Go.V.G
open Go.V
theorem kd_cases {p : Prt} (h : kd p ≠ 0) : (∃ a : Int, 0 < a ∧ p = (a, 0, []) ∧ kd p = 1) ∨ (∃ b : Int, 0 < b ∧ p = (0, b, []) ∧ kd p = 2) ∨ ∃ s : List UInt8, s ≠ [] ∧ p = (0, 0, s) ∧ kd p = 3 := by
  obtain ⟨a, b, s⟩ := p
  unfold kd at h ⊢
  by_cases h1 : 0 < a ∧ b = 0 ∧ s = []
  · obtain ⟨g1, g2, g3⟩ := h1; subst g2 g3
    left; exact ⟨a, g1, rfl, by simp [g1]⟩
  by_cases h2 : 0 < b ∧ a = 0 ∧ s = []
  · obtain ⟨g1, g2, g3⟩ := h2; subst g2 g3
    right; left; exact ⟨b, g1, rfl, by simp [g1]⟩
  by_cases h3 : s ≠ [] ∧ a = 0 ∧ b = 0
  · obtain ⟨g1, g2, g3⟩ := h3; subst g2 g3
    right; right; exact ⟨s, g1, rfl, by simp [g1]⟩
  rw [if_neg h1, if_neg h2, if_neg h3] at h
  exact absurd rfl h
def enc1 (p : Prt) : List Int := [kd p, p.1 + p.2.1 + p.2.2.length] ++ bytesOf p.2.2
def enc (c : List Prt) : List Int := c.flatMap enc1
theorem enc_len : ∀ c : List Prt, (enc c).length = 2 * c.length + psum c
  | [] => rfl
  | p :: c => by
    show (enc1 p ++ enc c).length = _
    rw [List.length_append, enc_len c]
    simp [enc1, bytesOf, psum]; omega
theorem part_small {c : List Prt} (hg : good c = true) {p : Prt} (hp : p ∈ c) : p.1 + p.2.1 + p.2.2.length ≤ 120 ∧ 0 ≤ p.1 + p.2.1 := by
  obtain ⟨h1, h2, h3⟩ := good_spec hg
  have hs := okk_some h1
  obtain ⟨i, hi, rfl⟩ := List.getElem_of_mem hp
  have n1 := src_nonneg (l := c.take i) fun p h => hs p (mem_take h)
  have n2 := tgt_nonneg (l := c.take i) fun p h => hs p (mem_take h)
  have n3 := src_nonneg (l := c.drop (i + 1)) fun p h => hs p (mem_drop h)
  have n4 := tgt_nonneg (l := c.drop (i + 1)) fun p h => hs p (mem_drop h)
  have a1 := src_at hi
  have a2 := tgt_at hi
  have q := hs _ hp
  rcases kd_cases q.ne with ⟨a, ha, e, _⟩ | ⟨b, hb, e, _⟩ | ⟨s, _, e, _⟩ <;> (rw [e] at a1 a2 ⊢; simp only [List.length_nil] at a1 a2 ⊢; omega)
theorem kd_u8 (p : Prt) : IntKind.wrap .u8 (kd p) = kd p := by
  apply wu8 <;> (unfold kd; split; omega; split; omega; split <;> omega)
section
variable {B : Nat} {c : List Prt} (h : Sm B c) (hB : B ≤ 1099511627776) (hg : good c = true)
include h hB hg
theorem write_round {i : Nat} (hlt : i < c.length) : enc (c.take i) ++ [IntKind.wrap .u8 (kd c[i]), IntKind.wrap .u8 (IntKind.wrap .i64 ((IntKind.wrap .i64 (c[i].1 + c[i].2.1)) + ((List.length c[i].2.2 : Nat) : Int)))] ++ bytesOf c[i].2.2 = enc (c.take (i + 1)) ∧
    (enc (c.take i)).length + 2 + (bytesOf c[i].2.2).length ≤ 4398046511104 := by
  obtain ⟨h1, h2⟩ := part_small hg (List.getElem_mem hlt)
  rw [w64 (n := c[i].1 + c[i].2.1) (by omega) (by omega), w64 (by omega) (by omega), kd_u8, wu8 (by omega) (by omega)]
  constructor
  · rw [List.take_succ_eq_append_getElem hlt]
    simp only [enc, List.flatMap_append, List.flatMap_cons, List.flatMap_nil, List.append_nil, enc1, List.append_assoc]
  · rw [enc_len]
    have h3 : psum c = psum (c.take i) + psum (c.drop i) := by rw [← psum_append, List.take_append_drop]
    have := h.len; have := h.put
    have : (bytesOf c[i].2.2).length = c[i].2.2.length := by simp [bytesOf]
    rw [List.length_take]
    omega
theorem i_write_eq : i_writeChange c = some (enc c) := by
  have hlen := Nat.le_trans h.len hB
  unfold i_writeChange
  have : loopG i_writeChange_L1 ([], c, ((List.length c : Nat) : Int), 0) = some (enc c) := by
    have := loop_run i_writeChange_L1 (fun k => (enc (c.take k), c, ((List.length c : Nat) : Int), ((k : Nat) : Int))) c.length (enc c) (by
      intro i hlt
      obtain ⟨e1, e2⟩ := write_round h hB hg hlt
      have hi : ((i : Nat) : Int) < ((List.length c : Nat) : Int) := by omega
      have r1 : ∀ x y : Int, roomFor (List.length (enc (c.take i)) + List.length [x, y]) 1 = true := fun x y => by simp [roomFor]; omega
      have r2 : ∀ x y : Int, roomFor (List.length (enc (c.take i) ++ [x, y]) + List.length (bytesOf c[i].2.2)) 1 = true := fun x y => by simp [roomFor]; omega
      unfold i_writeChange_L1
      simp only [hi, show (0 : Int) ≤ ((i : Nat) : Int) from by omega, decide_true, if_true, Int.toNat_natCast, List.getElem?_eq_getElem hlt, Option.bind_some, i_kind_eq, r1, r2, idx_succ hlen hlt]
      rw [show kd (c[i].1, c[i].2.1, c[i].2.2) = kd c[i] from rfl, e1]) (by simp [i_writeChange_L1])
    simpa [enc] using this
  rw [this]; rfl
theorem s_write_eq : s_l1Write c = some (enc c) := by
  have hlen := Nat.le_trans h.len hB
  unfold s_l1Write
  have : loopG s_l1Write_L1 ([], c, ((List.length c : Nat) : Int), 0) = some (enc c) := by
    have := loop_run s_l1Write_L1 (fun k => (enc (c.take k), c, ((List.length c : Nat) : Int), ((k : Nat) : Int))) c.length (enc c) (by
      intro i hlt
      obtain ⟨e1, e2⟩ := write_round h hB hg hlt
      have hi : ((i : Nat) : Int) < ((List.length c : Nat) : Int) := by omega
      have r1 : ∀ x y : Int, roomFor (List.length (enc (c.take i)) + List.length [x, y]) 1 = true := fun x y => by simp [roomFor]; omega
      have r2 : ∀ x y : Int, roomFor (List.length (enc (c.take i) ++ [x, y]) + List.length (bytesOf c[i].2.2)) 1 = true := fun x y => by simp [roomFor]; omega
      unfold s_l1Write_L1
      simp only [hi, show (0 : Int) ≤ ((i : Nat) : Int) from by omega, decide_true, if_true, Int.toNat_natCast, List.getElem?_eq_getElem hlt, Option.bind_some, s_kind_eq, r1, r2, idx_succ hlen hlt]
      rw [show kd (c[i].1, c[i].2.1, c[i].2.2) = kd c[i] from rfl, e1]) (by simp [s_l1Write_L1])
    simpa [enc] using this
  rw [this]; rfl
end
theorem text_bytes (s : List UInt8) : textOf (bytesOf s) = s := by
  unfold textOf bytesOf
  rw [List.map_map]
  conv => rhs; rw [← List.map_id s]
  apply List.map_congr_left
  intro b _
  show UInt8.ofNat (Int.toNat ((b.toNat : Nat) : Int)) = b
  rw [Int.toNat_natCast]
  exact UInt8.ofNat_toNat
theorem tail2 (x y : Int) (r : List Int) : (List.drop (Int.toNat 2) (x :: y :: r)).take (Int.toNat ((List.length (x :: y :: r) : Nat) : Int) - Int.toNat 2) = r := by
  simp only [Int.toNat_natCast, show Int.toNat 2 = 2 from rfl, List.length_cons, List.drop_succ_cons, List.drop_zero]
  exact List.take_of_length_le (by omega)
theorem read_round {out rest : List Int} {p : Prt} {l : List Prt} (hp : kd p ≠ 0) (hsm : p.1 + p.2.1 + p.2.2.length ≤ 120) (hl : l.length ≤ 1099511627776) : i_ReadChange_L1 (enc1 p ++ rest, l) = some (.inl (rest, l ++ [p])) := by
  have room : ∀ x : Prt, roomFor (List.length l + List.length [x]) 32 = true := fun x => by simp [roomFor]; omega
  rcases kd_cases hp with ⟨a, ha, rfl, hk⟩ | ⟨b, hb, rfl, hk⟩ | ⟨s, hs, rfl, hk⟩
  · have e : enc1 (a, 0, []) ++ rest = 1 :: a :: rest := by simp [enc1, hk, bytesOf]
    have w : IntKind.wrap .i64 a = a := by simp only [List.length_nil] at hsm; exact w64 (by omega) (by omega)
    rw [e]
    unfold i_ReadChange_L1
    dsimp only
    rw [tail2]
    have hl2 : ¬ (((List.length (1 :: a :: rest) : Nat) : Int)) < 2 := by simp; omega
    have hl0 : (0 : Int) < (((List.length (1 :: a :: rest) : Nat) : Int)) := by simp; omega
    have hl3 : (2 : Int) ≤ (((List.length (1 :: a :: rest) : Nat) : Int)) := by simp; omega
    have g0 : (1 :: a :: rest)[Int.toNat 0]? = some 1 := rfl
    have g1 : (1 :: a :: rest)[Int.toNat 1]? = some a := rfl
    simp only [hl0, hl2, hl3, g0, g1, decide_true, decide_false, if_true, Bool.false_eq_true, if_false, Option.bind_some, Int.le_refl, show (0 : Int) ≤ 1 from by omega, show (0 : Int) ≤ 2 from by omega, w, room]
  · have e : enc1 (0, b, []) ++ rest = 2 :: b :: rest := by simp [enc1, hk, bytesOf]
    have w : IntKind.wrap .i64 b = b := by simp only [List.length_nil] at hsm; exact w64 (by omega) (by omega)
    rw [e]
    unfold i_ReadChange_L1
    dsimp only
    rw [tail2]
    have hl2 : ¬ (((List.length (2 :: b :: rest) : Nat) : Int)) < 2 := by simp; omega
    have hl0 : (0 : Int) < (((List.length (2 :: b :: rest) : Nat) : Int)) := by simp; omega
    have hl3 : (2 : Int) ≤ (((List.length (2 :: b :: rest) : Nat) : Int)) := by simp; omega
    have g0 : (2 :: b :: rest)[Int.toNat 0]? = some 2 := rfl
    have g1 : (2 :: b :: rest)[Int.toNat 1]? = some b := rfl
    simp only [hl0, hl2, hl3, g0, g1, decide_true, decide_false, if_true, Bool.false_eq_true, if_false, Option.bind_some, Int.le_refl, show (0 : Int) ≤ 1 from by omega, show (0 : Int) ≤ 2 from by omega, show ¬ (2 : Int) = 1 from by omega, w, room]
  · have hn : (bytesOf s).length = s.length := by simp [bytesOf]
    have e : enc1 (0, 0, s) ++ rest = 3 :: ((s.length : Nat) : Int) :: (bytesOf s ++ rest) := by simp [enc1, hk]
    have w : IntKind.wrap .i64 ((s.length : Nat) : Int) = ((s.length : Nat) : Int) := by dsimp only at hsm; exact w64 (by omega) (by omega)
    rw [e]
    unfold i_ReadChange_L1
    dsimp only
    rw [tail2]
    have hl2 : ¬ (((List.length (3 :: ((s.length : Nat) : Int) :: (bytesOf s ++ rest)) : Nat) : Int)) < 2 := by simp; omega
    have hl0 : (0 : Int) < (((List.length (3 :: ((s.length : Nat) : Int) :: (bytesOf s ++ rest)) : Nat) : Int)) := by simp; omega
    have hl3 : (2 : Int) ≤ (((List.length (3 :: ((s.length : Nat) : Int) :: (bytesOf s ++ rest)) : Nat) : Int)) := by simp; omega
    have g0 : (3 :: ((s.length : Nat) : Int) :: (bytesOf s ++ rest))[Int.toNat 0]? = some 3 := rfl
    have g1 : (3 :: ((s.length : Nat) : Int) :: (bytesOf s ++ rest))[Int.toNat 1]? = some ((s.length : Nat) : Int) := rfl
    have hle : ((s.length : Nat) : Int) ≤ ((List.length (bytesOf s ++ rest) : Nat) : Int) := by rw [List.length_append, hn]; omega
    have hge : (0 : Int) ≤ ((s.length : Nat) : Int) := by omega
    have tk : (List.drop (Int.toNat 0) (bytesOf s ++ rest)).take (Int.toNat ((s.length : Nat) : Int) - Int.toNat 0) = bytesOf s := by
      show (bytesOf s ++ rest).take (Int.toNat ((s.length : Nat) : Int) - 0) = _
      rw [Nat.sub_zero, Int.toNat_natCast, ← hn, List.take_left]
    have dr : (List.drop (Int.toNat ((s.length : Nat) : Int)) (bytesOf s ++ rest)).take (Int.toNat ((List.length (bytesOf s ++ rest) : Nat) : Int) - Int.toNat ((s.length : Nat) : Int)) = rest := by
      rw [Int.toNat_natCast, Int.toNat_natCast, ← hn, List.drop_left]
      exact List.take_of_length_le (by rw [List.length_append]; omega)
    simp only [hl0, hl2, hl3, g0, g1, decide_true, decide_false, if_true, Bool.false_eq_true, if_false, Option.bind_some, Int.le_refl, show (0 : Int) ≤ 1 from by omega, show (0 : Int) ≤ 2 from by omega, show ¬ (3 : Int) = 1 from by omega, show ¬ (3 : Int) = 2 from by omega, w, hle, hge, tk, dr, text_bytes, room]
theorem read_enc {B : Nat} {c : List Prt} (h : Sm B c) (hB : B ≤ 1099511627776) (hg : good c = true) : i_ReadChange (enc c) = some (c, true) := by
  have hlen := Nat.le_trans h.len hB
  obtain ⟨h1, h2, h3⟩ := good_spec hg
  have hs := okk_some h1
  unfold i_ReadChange
  have : loopG i_ReadChange_L1 (enc c, []) = some (.inl c) := by
    have := loop_run i_ReadChange_L1 (fun k => (enc (c.drop k), c.take k)) c.length (.inl c) (by
      intro i hlt
      have e : enc (c.drop i) = enc1 c[i] ++ enc (c.drop (i + 1)) := by rw [List.drop_eq_getElem_cons hlt]; rfl
      have hm := List.getElem_mem hlt
      show i_ReadChange_L1 (enc (c.drop i), c.take i) = _
      rw [e, read_round (out := []) (hs _ hm).ne (part_small hg hm).1 (by rw [List.length_take]; omega), List.take_succ_eq_append_getElem hlt]) (by
      show i_ReadChange_L1 (enc (c.drop c.length), c.take c.length) = _
      rw [List.drop_length, List.take_length]; rfl)
    simpa using this
  rw [this, Option.bind_some]
  show Option.bind (i_GoodChange c) _ = _
  rw [i_Good_eq h hB, hg]; rfl
def norm (l : List Prt) : List Prt := l.foldl addp []
theorem kd_zero : kd (0, 0, []) = 0 := by simp [kd]
theorem good_len : ∀ {c : List Prt}, (∀ p ∈ c, Some1 p) → ((c.length : Nat) : Int) ≤ src c + tgt c
  | [], _ => by simp [src, tgt]
  | p :: c, h => by
    have ih := good_len (c := c) fun q hq => h q (by simp [hq])
    have s := h p (by simp)
    have k0 := s.k; have d0 := s.d
    simp only [src, tgt, List.length_cons]
    rcases kd_cases s.ne with ⟨a, ha, e, _⟩ | ⟨b, hb, e, _⟩ | ⟨t, ht, e, _⟩
    · rw [e]; simp only; omega
    · rw [e]; simp only; omega
    · rw [e]; simp only
      have := List.length_pos_iff.2 ht
      omega
theorem good_psum : ∀ {c : List Prt}, (∀ p ∈ c, Some1 p) → ((psum c : Nat) : Int) ≤ tgt c
  | [], _ => by simp [psum, tgt]
  | p :: c, h => by
    have ih := good_psum (c := c) fun q hq => h q (by simp [hq])
    have k0 := (h p (by simp)).k
    simp only [psum, tgt]; omega
theorem good_sm {c : List Prt} (h : good c = true) : Sm 240 c := by
  obtain ⟨h1, h2, h3⟩ := good_spec h
  have hs := okk_some h1
  have := good_len hs
  have := good_psum hs
  refine ⟨by omega, by omega, fun p hp => ?_⟩
  have := part_small h hp
  have k0 := (hs p hp).k; have d0 := (hs p hp).d
  unfold I64
  omega
end Go.V.G

set_option linter.unusedVariables false
set_option linter.unusedSimpArgs false
set_option maxRecDepth 100000
namespace Go.V.G
open Go.V
def Fine (p : Prt) : Prop := p = (0, 0, []) ∨ kd p ≠ 0
theorem Fine.put (s : List UInt8) : Fine (0, 0, s) := by
  by_cases h : s = []
  · subst h; exact .inl rfl
  · exact .inr (by simp [kd, h])
theorem Fine.keep {n : Int} (h : 0 ≤ n) : Fine (n, 0, []) := by
  by_cases h0 : n = 0
  · subst h0; exact .inl rfl
  · have : 0 < n := by omega
    exact .inr (by simp [kd, this])
theorem Fine.drop {n : Int} (h : 0 ≤ n) : Fine (0, n, []) := by
  by_cases h0 : n = 0
  · subst h0; exact .inl rfl
  · have : 0 < n := by omega
    exact .inr (by simp [kd, this])
theorem pa_zero : pa (0, 0, []) = [] := by simp [pa]
theorem pa_put (s : List UInt8) : pa (0, 0, s) = s.map Atom.ins := by simp [pa]
theorem pa_keep {n : Int} (h : 0 ≤ n) : pa (n, 0, []) = List.replicate n.toNat .keep := by
  by_cases h0 : n = 0
  · subst h0; rfl
  · have : 0 < n := by omega
    simp [pa, this, mk]
theorem pa_drop {n : Int} (h : 0 ≤ n) : pa (0, n, []) = List.replicate n.toNat .drop := by simp [pa, mk]
def lastk (k : Int) (l : List Prt) : Int := match l.getLast? with
  | some q => kd q
  | none => k
theorem okk_append (k : Int) : ∀ (a b : List Prt), okk k (a ++ b) = (okk k a && okk (lastk k a) b)
  | [], b => by simp [okk, lastk]
  | p :: a, b => by
    have this : lastk (kd p) a = lastk k (p :: a) := by
      unfold lastk
      cases a with
      | nil => rfl
      | cons q a =>
        rw [List.getLast?_cons_cons]
        cases h : (q :: a).getLast? with
        | none => simp at h
        | some x => rfl
    show (_ && okk (kd p) (a ++ b)) = ((_ && okk (kd p) a) && okk _ b)
    rw [okk_append (kd p) a b, this]
    simp only [Bool.and_assoc]
def Small (l : List Prt) : Prop := src l ≤ 1000000000 ∧ tgt l ≤ 1000000000
theorem same_kind {q p : Prt} (hq : kd q ≠ 0) (h : kd q = kd p) (b1 : q.1 + p.1 ≤ 1000000000) (b2 : q.2.1 + p.2.1 ≤ 1000000000) :
    kd (IntKind.wrap .i64 (q.1 + p.1), IntKind.wrap .i64 (q.2.1 + p.2.1), q.2.2 ++ p.2.2) = kd q ∧ pa (IntKind.wrap .i64 (q.1 + p.1), IntKind.wrap .i64 (q.2.1 + p.2.1), q.2.2 ++ p.2.2) = pa q ++ pa p := by
  have hp : kd p ≠ 0 := by rw [← h]; exact hq
  rcases kd_cases hq with ⟨a, ha, e, k1⟩ | ⟨a, ha, e, k1⟩ | ⟨a, ha, e, k1⟩ <;> rcases kd_cases hp with ⟨b, hb, e', k2⟩ | ⟨b, hb, e', k2⟩ | ⟨b, hb, e', k2⟩ <;> try (rw [k1, k2] at h; omega)
  · subst e e'
    dsimp only at b1 b2 ⊢
    rw [w64 (n := a + b) (by omega) (by omega), show IntKind.wrap .i64 ((0 : Int) + 0) = 0 from w64 (by omega) (by omega)]
    have : 0 < a + b := by omega
    refine ⟨by simp [kd, this, ha], ?_⟩
    rw [List.append_nil, pa_keep (by omega), pa_keep (by omega), pa_keep (by omega), List.replicate_append_replicate]
    congr 1; omega
  · subst e e'
    dsimp only at b1 b2 ⊢
    rw [w64 (n := a + b) (by omega) (by omega), show IntKind.wrap .i64 ((0 : Int) + 0) = 0 from w64 (by omega) (by omega)]
    have : 0 < a + b := by omega
    refine ⟨by simp [kd, this, ha], ?_⟩
    rw [List.append_nil, pa_drop (by omega), pa_drop (by omega), pa_drop (by omega), List.replicate_append_replicate]
    congr 1; omega
  · subst e e'
    dsimp only at b1 b2 ⊢
    rw [show IntKind.wrap .i64 ((0 : Int) + 0) = 0 from w64 (by omega) (by omega)]
    refine ⟨by simp [kd, ha], ?_⟩
    rw [pa_put, pa_put, pa_put, List.map_append]
theorem addp_norm {l : List Prt} {p : Prt} (hl : okk 0 l = true) (hp : Fine p) (hb : Small (l ++ [p])) : okk 0 (addp l p) = true ∧ atoms (addp l p) = atoms l ++ pa p ∧ src (addp l p) = src l + (p.1 + p.2.1) ∧ tgt (addp l p) = tgt l + (p.1 + p.2.2.length) := by
  unfold addp
  rcases hp with rfl | hp
  · simp [hl, pa_zero]
  · have h0 : p ≠ (0, 0, []) := fun h => hp (by rw [h]; exact kd_zero)
    rw [if_neg h0]
    have hs := okk_some hl
    have sp := some1_of hp
    have k0 := sp.k; have d0 := sp.d
    cases hq : l.getLast? with
    | none =>
      obtain rfl : l = [] := by simpa using hq
      simp [okk, hp, atoms, src, tgt]
    | some q =>
      obtain ⟨l', rfl⟩ := List.getLast?_eq_some_iff.1 hq
      have sq := hs q (by simp)
      have k1 := sq.k; have d1 := sq.d
      have n1 := src_nonneg (l := l') fun p h => hs p (by simp [h])
      have n2 := tgt_nonneg (l := l') fun p h => hs p (by simp [h])
      have b1 := hb.1
      have b2 := hb.2
      simp only [src_append, tgt_append, src, tgt] at b1 b2
      rw [okk_append] at hl
      simp only [Bool.and_eq_true] at hl
      obtain ⟨hl1, hl2⟩ := hl
      simp only
      split
      · rename_i hk
        obtain ⟨e1, e2⟩ := same_kind sq.ne hk (by omega) (by omega)
        rw [List.dropLast_concat]
        refine ⟨?_, ?_, ?_, ?_⟩
        · rw [okk_append, hl1, Bool.true_and]
          simp only [okk, e1] at hl2 ⊢
          exact hl2
        · rw [atoms_append, atoms_append, List.append_assoc]
          congr 1
          show pa _ ++ [] = (pa q ++ []) ++ pa p
          rw [e2, List.append_nil, List.append_nil]
        · rw [src_append, src_append]
          simp only [src]
          rw [w64 (n := q.1 + p.1) (by omega) (by omega), w64 (n := q.2.1 + p.2.1) (by omega) (by omega)]
          omega
        · rw [tgt_append, tgt_append]
          simp only [tgt, List.length_append]
          rw [w64 (n := q.1 + p.1) (by omega) (by omega)]
          omega
      · rename_i hk
        refine ⟨?_, ?_, ?_, ?_⟩
        · rw [okk_append, okk_append, hl1, hl2]
          simp only [okk, lastk, List.getLast?_append, List.getLast?_singleton, Option.some_or, Bool.and_true, Bool.true_and, Bool.and_eq_true, Bool.not_eq_true', decide_eq_false_iff_not]
          exact ⟨hp, fun h => hk h.symm⟩
        · rw [atoms_append]; simp [atoms]
        · rw [src_append]; simp [src]
        · rw [tgt_append]; simp [tgt]
theorem fine_nonneg {p : Prt} (h : Fine p) : 0 ≤ p.1 ∧ 0 ≤ p.2.1 := by
  rcases h with rfl | h
  · simp
  · exact ⟨(some1_of h).k, (some1_of h).d⟩
theorem fines_nonneg : ∀ {l : List Prt}, (∀ p ∈ l, Fine p) → 0 ≤ src l ∧ 0 ≤ tgt l
  | [], _ => by simp [src, tgt]
  | p :: l, h => by
    have h1 := fine_nonneg (h p (by simp))
    have h2 := fines_nonneg (l := l) fun q hq => h q (by simp [hq])
    simp only [src, tgt]; omega
theorem fold_norm : ∀ (m l : List Prt), okk 0 l = true → (∀ p ∈ m, Fine p) → Small (l ++ m) → okk 0 (m.foldl addp l) = true ∧ atoms (m.foldl addp l) = atoms l ++ atoms m ∧ src (m.foldl addp l) = src l + src m ∧ tgt (m.foldl addp l) = tgt l + tgt m
  | [], l, hl, _, _ => by simp [hl, atoms, src, tgt]
  | p :: m, l, hl, hm, hb => by
    have hm' : ∀ p ∈ m, Fine p := fun q hq => hm q (by simp [hq])
    obtain ⟨g1, g2⟩ := fines_nonneg hm'
    have b1 := hb.1
    have b2 := hb.2
    simp only [src_append, tgt_append, src, tgt] at b1 b2
    obtain ⟨h1, h2, h3, h4⟩ := addp_norm hl (hm p (by simp)) ⟨by simp only [src_append, src]; omega, by simp only [tgt_append, tgt]; omega⟩
    rw [List.foldl_cons]
    obtain ⟨k1, k2, k3, k4⟩ := fold_norm m (addp l p) h1 hm' ⟨by rw [src_append, h3]; omega, by rw [tgt_append, h4]; omega⟩
    refine ⟨k1, ?_, ?_, ?_⟩
    · rw [k2, h2]; simp [atoms]
    · rw [k3, h3]; simp only [src]; omega
    · rw [k4, h4]; simp only [tgt]; omega
theorem norm_spec {m : List Prt} (hm : ∀ p ∈ m, Fine p) (hb : Small m) : okk 0 (norm m) = true ∧ atoms (norm m) = atoms m ∧ src (norm m) = src m ∧ tgt (norm m) = tgt m := by
  have := fold_norm m [] rfl hm hb
  simpa [norm, atoms, src, tgt] using this
def hd : List Atom → Option Atom
  | [] => none
  | a :: _ => some a
end Go.V.G

set_option linter.unusedVariables false
set_option linter.unusedSimpArgs false
set_option maxRecDepth 100000
namespace Go.V.G
open Go.V
def carryT : List Atom → List Atom → List Atom
  | .ins b :: x, y => .ins b :: carryT x y
  | [], .ins _ :: y => .keep :: carryT [] y
  | .keep :: x, .ins _ :: y => .keep :: carryT (.keep :: x) y
  | .drop :: x, .ins _ :: y => .keep :: carryT (.drop :: x) y
  | .keep :: x, .keep :: y => .keep :: carryT x y
  | .drop :: x, .keep :: y => .drop :: carryT x y
  | .keep :: x, .drop :: y => carryT x y
  | .drop :: x, .drop :: y => carryT x y
  | _, _ => []
termination_by x y => x.length + y.length
def carryF : List Atom → List Atom → List Atom
  | x, .ins _ :: y => .keep :: carryF x y
  | .ins b :: x, [] => .ins b :: carryF x []
  | .ins b :: x, .keep :: y => .ins b :: carryF x (.keep :: y)
  | .ins b :: x, .drop :: y => .ins b :: carryF x (.drop :: y)
  | .keep :: x, .keep :: y => .keep :: carryF x y
  | .drop :: x, .keep :: y => .drop :: carryF x y
  | .keep :: x, .drop :: y => carryF x y
  | .drop :: x, .drop :: y => carryF x y
  | _, _ => []
termination_by x y => x.length + y.length
def carryA (first : Bool) (x y : List Atom) : List Atom := if first = true then carryT x y else carryF x y
def comp : List Atom → List Atom → List Atom
  | x, .ins b :: y => .ins b :: comp x y
  | .drop :: x, [] => .drop :: comp x []
  | .drop :: x, .keep :: y => .drop :: comp x (.keep :: y)
  | .drop :: x, .drop :: y => .drop :: comp x (.drop :: y)
  | .ins b :: x, .keep :: y => .ins b :: comp x y
  | .ins _ :: x, .drop :: y => comp x y
  | .keep :: x, .keep :: y => .keep :: comp x y
  | .keep :: x, .drop :: y => .drop :: comp x y
  | _, _ => []
termination_by x y => x.length + y.length
def ap : List Atom → List UInt8 → List UInt8
  | .ins b :: l, t => b :: ap l t
  | .keep :: l, c :: t => c :: ap l t
  | .drop :: l, _ :: t => ap l t
  | _, _ => []
def nS : List Atom → Nat
  | [] => 0
  | .ins _ :: l => nS l
  | .keep :: l => nS l + 1
  | .drop :: l => nS l + 1
def nT : List Atom → Nat
  | [] => 0
  | .ins _ :: l => nT l + 1
  | .keep :: l => nT l + 1
  | .drop :: l => nT l
theorem nS_stays : ∀ l : List Atom, nS l = (stays l).length
  | [] => rfl
  | .ins _ :: l => nS_stays l
  | .keep :: l => by simp [nS, stays, nS_stays l]
  | .drop :: l => by simp [nS, stays, nS_stays l]
theorem nT_eq : ∀ l : List Atom, nT l = nIns l + nK l
  | [] => rfl
  | .ins _ :: l => by simp only [nT, nIns, nK, nT_eq l]; omega
  | .keep :: l => by simp only [nT, nIns, nK, nT_eq l]; omega
  | .drop :: l => by simp only [nT, nIns, nK, nT_eq l]
theorem ap_len : ∀ (l : List Atom) (t : List UInt8), nS l = t.length → (ap l t).length = nT l
  | [], t, _ => by cases t <;> simp [ap, nT]
  | .ins b :: l, t, h => by simp only [ap, nT, List.length_cons]; rw [ap_len l t h]
  | .keep :: l, c :: t, h => by simp only [ap, nT, List.length_cons]; rw [ap_len l t (by simpa [nS] using h)]
  | .drop :: l, c :: t, h => by simp only [ap, nT]; rw [ap_len l t (by simpa [nS] using h)]
  | .keep :: l, [], h => by simp [nS] at h
  | .drop :: l, [], h => by simp [nS] at h
end Go.V.G

set_option linter.unusedVariables false
set_option linter.unusedSimpArgs false
set_option maxRecDepth 100000
namespace Go.V.G
open Go.V
def stPart : Option (Bool × Bool) → List Prt
  | some (true, true) => [(1, 0, [])]
  | some (false, true) => [(0, 1, [])]
  | _ => []
def gap (first : Bool) (p q : List UInt8) (st : Option (Bool × Bool)) : List Prt :=
  (if first = true then [(0, 0, p), (((q.length : Nat) : Int), 0, [])] else [(((q.length : Nat) : Int), 0, []), (0, 0, p)]) ++ stPart st
def gaps (first : Bool) : List Bool → List (List UInt8) → List Bool → List (List UInt8) → List Prt
  | [], p :: _, _, q :: _ => gap first p q none
  | sx :: Sx, p :: Px, sy :: Sy, q :: Py => gap first p q (some (sx, sy)) ++ gaps first Sx Px Sy Py
  | _, _, _, _ => []
def stA : Option (Bool × Bool) → List Atom
  | some (true, true) => [.keep]
  | some (false, true) => [.drop]
  | _ => []
def gapA (first : Bool) (p q : List UInt8) (st : Option (Bool × Bool)) : List Atom :=
  (if first = true then p.map Atom.ins ++ List.replicate q.length .keep else List.replicate q.length .keep ++ p.map Atom.ins) ++ stA st
theorem gap_atoms (first : Bool) (p q : List UInt8) (st : Option (Bool × Bool)) : atoms (gap first p q st) = gapA first p q st := by
  have h1 : atoms (stPart st) = stA st := by
    match st with
    | some (true, true) => rfl
    | some (false, true) => rfl
    | some (true, false) => rfl
    | some (false, false) => rfl
    | none => rfl
  unfold gap gapA
  rw [atoms_append, h1]
  cases first
  · simp [atoms, pa_put, pa_keep]
  · simp [atoms, pa_put, pa_keep]
def gapsA (first : Bool) : List Bool → List (List UInt8) → List Bool → List (List UInt8) → List Atom
  | [], p :: _, _, q :: _ => gapA first p q none
  | sx :: Sx, p :: Px, sy :: Sy, q :: Py => gapA first p q (some (sx, sy)) ++ gapsA first Sx Px Sy Py
  | _, _, _, _ => []
theorem gaps_atoms (first : Bool) : ∀ (Sx : List Bool) (Px : List (List UInt8)) (Sy : List Bool) (Py : List (List UInt8)), atoms (gaps first Sx Px Sy Py) = gapsA first Sx Px Sy Py
  | [], [], _, _ => rfl
  | [], p :: _, _, [] => rfl
  | [], p :: _, _, q :: _ => gap_atoms first p q none
  | _ :: _, [], _, _ => rfl
  | _ :: _, _ :: _, [], _ => rfl
  | _ :: _, _ :: _, _ :: _, [] => rfl
  | sx :: Sx, p :: Px, sy :: Sy, q :: Py => by
    show atoms (gap first p q (some (sx, sy)) ++ gaps first Sx Px Sy Py) = _
    rw [atoms_append, gap_atoms, gaps_atoms first Sx Px Sy Py]; rfl
theorem gapsA_insT (b : UInt8) {Sx : List Bool} {p : List UInt8} {ps : List (List UInt8)} {Sy : List Bool} {Py : List (List UInt8)} (h : Sx.length = Sy.length) (h1 : ps.length = Sx.length) (h2 : Py.length = Sy.length + 1) :
    gapsA true Sx ((b :: p) :: ps) Sy Py = .ins b :: gapsA true Sx (p :: ps) Sy Py := by
  match Sx, Sy, Py, h, h2 with
  | [], _, q :: Py, _, _ => rfl
  | sx :: Sx, sy :: Sy, q :: Py, _, _ => rfl
theorem gapsA_keepT (b : UInt8) {Sx : List Bool} {Px : List (List UInt8)} {Sy : List Bool} {q : List UInt8} {qs : List (List UInt8)} (h : Sx.length = Sy.length) (h1 : Px.length = Sx.length) :
    gapsA true Sx ([] :: Px) Sy ((b :: q) :: qs) = .keep :: gapsA true Sx ([] :: Px) Sy (q :: qs) := by
  match Sx, Sy, h with
  | [], _, _ => rfl
  | sx :: Sx, sy :: Sy, _ => rfl
theorem gapsA_keepF (b : UInt8) {Sx : List Bool} {p : List UInt8} {Px : List (List UInt8)} {Sy : List Bool} {q : List UInt8} {qs : List (List UInt8)} (h : Sx.length = Sy.length) (h1 : Px.length = Sx.length) :
    gapsA false Sx (p :: Px) Sy ((b :: q) :: qs) = .keep :: gapsA false Sx (p :: Px) Sy (q :: qs) := by
  match Sx, Sy, h with
  | [], _, _ => rfl
  | sx :: Sx, sy :: Sy, _ => rfl
theorem gapsA_insF (b : UInt8) {Sx : List Bool} {p : List UInt8} {ps : List (List UInt8)} {Sy : List Bool} {qs : List (List UInt8)} (h : Sx.length = Sy.length) (h1 : ps.length = Sx.length) :
    gapsA false Sx ((b :: p) :: ps) Sy ([] :: qs) = .ins b :: gapsA false Sx (p :: ps) Sy ([] :: qs) := by
  match Sx, Sy, h with
  | [], _, _ => rfl
  | sx :: Sx, sy :: Sy, _ => rfl
theorem puts_cons (l : List Atom) : ∃ p ps, puts l = p :: ps ∧ ps.length = (stays l).length := by
  have h := puts_len l
  match hp : puts l, puts_ne l with
  | p :: ps, _ => rw [hp] at h; exact ⟨p, ps, rfl, by simpa using h⟩
theorem gapsA_T : ∀ (x y : List Atom), nS x = nS y → gapsA true (stays x) (puts x) (stays y) (puts y) = carryT x y := by
  intro x y
  induction x, y using carryT.induct with
  | case1 b x y ih =>
    intro h
    rw [carryT, ← ih h]
    obtain ⟨p, ps, e, hl⟩ := puts_cons x
    show gapsA true (stays x) (consHead b (puts x)) (stays y) (puts y) = _
    rw [e]
    exact gapsA_insT b (by rw [← nS_stays, ← nS_stays]; exact h) hl (puts_len y)
  | case2 c y ih =>
    intro h
    rw [carryT, ← ih h]
    obtain ⟨p, ps, e, hl⟩ := puts_cons y
    show gapsA true [] [[]] (stays y) (consHead c (puts y)) = _
    rw [e]; rfl
  | case3 x c y ih =>
    intro h
    rw [carryT, ← ih h]
    obtain ⟨p, ps, e, hl⟩ := puts_cons y
    show gapsA true (true :: stays x) ([] :: puts x) (stays y) (consHead c (puts y)) = _
    rw [e]
    have : (true :: stays x).length = (stays y).length := by rw [← nS_stays y, ← show nS (.ins c :: y) = nS y from rfl, ← h]; simp [nS, nS_stays]
    exact gapsA_keepT c this (by rw [puts_len]; simp)
  | case4 x c y ih =>
    intro h
    rw [carryT, ← ih h]
    obtain ⟨p, ps, e, hl⟩ := puts_cons y
    show gapsA true (false :: stays x) ([] :: puts x) (stays y) (consHead c (puts y)) = _
    rw [e]
    have : (false :: stays x).length = (stays y).length := by rw [← nS_stays y, ← show nS (.ins c :: y) = nS y from rfl, ← h]; simp [nS, nS_stays]
    exact gapsA_keepT c this (by rw [puts_len]; simp)
  | case5 x y ih => intro h; rw [carryT, ← ih (by simpa [nS] using h)]; rfl
  | case6 x y ih => intro h; rw [carryT, ← ih (by simpa [nS] using h)]; rfl
  | case7 x y ih => intro h; rw [carryT, ← ih (by simpa [nS] using h)]; rfl
  | case8 x y ih => intro h; rw [carryT, ← ih (by simpa [nS] using h)]; rfl
  | case9 x y h1 h2 h3 h4 h5 h6 h7 h8 =>
    intro g
    match x, y with
    | .ins b :: x, y => exact absurd rfl (h1 b x)
    | [], .ins c :: y => exact absurd rfl (h2 c y rfl)
    | [], [] => simp [carryT, gapsA, stays, puts, gapA, stA]
    | [], .keep :: y => simp [nS] at g
    | [], .drop :: y => simp [nS] at g
    | .keep :: x, [] => simp [nS] at g
    | .drop :: x, [] => simp [nS] at g
    | .keep :: x, .ins c :: y => exact absurd rfl (h3 x c y rfl)
    | .drop :: x, .ins c :: y => exact absurd rfl (h4 x c y rfl)
    | .keep :: x, .keep :: y => exact absurd rfl (h5 x y rfl)
    | .drop :: x, .keep :: y => exact absurd rfl (h6 x y rfl)
    | .keep :: x, .drop :: y => exact absurd rfl (h7 x y rfl)
    | .drop :: x, .drop :: y => exact absurd rfl (h8 x y rfl)
theorem gapsA_F : ∀ (x y : List Atom), nS x = nS y → gapsA false (stays x) (puts x) (stays y) (puts y) = carryF x y := by
  intro x y
  induction x, y using carryF.induct with
  | case1 x c y ih =>
    intro h
    rw [carryF, ← ih h]
    obtain ⟨p, ps, e, hl⟩ := puts_cons y
    obtain ⟨p', ps', e', hl'⟩ := puts_cons x
    show gapsA false (stays x) (puts x) (stays y) (consHead c (puts y)) = _
    rw [e, e']
    exact gapsA_keepF c (by rw [← nS_stays, ← nS_stays]; exact h) hl'
  | case2 b x ih =>
    intro h
    rw [carryF, ← ih h]
    obtain ⟨p, ps, e, hl⟩ := puts_cons x
    show gapsA false (stays x) (consHead b (puts x)) [] [[]] = _
    rw [e]
    exact gapsA_insF b (by rw [← nS_stays]; exact h) hl
  | case3 b x y ih =>
    intro h
    rw [carryF, ← ih h]
    obtain ⟨p, ps, e, hl⟩ := puts_cons x
    show gapsA false (stays x) (consHead b (puts x)) (true :: stays y) ([] :: puts y) = _
    rw [e]
    exact gapsA_insF b (by rw [← nS_stays, ← show nS (.ins b :: x) = nS x from rfl, h]; simp [nS, nS_stays]) hl
  | case4 b x y ih =>
    intro h
    rw [carryF, ← ih h]
    obtain ⟨p, ps, e, hl⟩ := puts_cons x
    show gapsA false (stays x) (consHead b (puts x)) (false :: stays y) ([] :: puts y) = _
    rw [e]
    exact gapsA_insF b (by rw [← nS_stays, ← show nS (.ins b :: x) = nS x from rfl, h]; simp [nS, nS_stays]) hl
  | case5 x y ih => intro h; rw [carryF, ← ih (by simpa [nS] using h)]; rfl
  | case6 x y ih => intro h; rw [carryF, ← ih (by simpa [nS] using h)]; rfl
  | case7 x y ih => intro h; rw [carryF, ← ih (by simpa [nS] using h)]; rfl
  | case8 x y ih => intro h; rw [carryF, ← ih (by simpa [nS] using h)]; rfl
  | case9 x y h1 h2 h3 h4 h5 h6 h7 h8 =>
    intro g
    match x, y with
    | x, .ins c :: y => exact absurd rfl (h1 c y)
    | .ins b :: x, [] => exact absurd rfl (h2 b x rfl)
    | .ins b :: x, .keep :: y => exact absurd rfl (h3 b x y rfl)
    | .ins b :: x, .drop :: y => exact absurd rfl (h4 b x y rfl)
    | [], [] => simp [carryF, gapsA, stays, puts, gapA, stA]
    | [], .keep :: y => simp [nS] at g
    | [], .drop :: y => simp [nS] at g
    | .keep :: x, [] => simp [nS] at g
    | .drop :: x, [] => simp [nS] at g
    | .keep :: x, .keep :: y => exact absurd rfl (h5 x y rfl)
    | .drop :: x, .keep :: y => exact absurd rfl (h6 x y rfl)
    | .keep :: x, .drop :: y => exact absurd rfl (h7 x y rfl)
    | .drop :: x, .drop :: y => exact absurd rfl (h8 x y rfl)
theorem gapsA_carry (first : Bool) (x y : List Atom) (h : nS x = nS y) : gapsA first (stays x) (puts x) (stays y) (puts y) = carryA first x y := by
  cases first
  · exact gapsA_F x y h
  · exact gapsA_T x y h
def rest (first : Bool) (Sx : List Bool) (Px : List (List UInt8)) (Sy : List Bool) (Py : List (List UInt8)) (k : Nat) : List Prt := gaps first (Sx.drop k) (Px.drop k) (Sy.drop k) (Py.drop k)
def stAt (Sx Sy : List Bool) (k : Nat) : Option (Bool × Bool) := match Sx[k]?, Sy[k]? with
  | some a, some b => some (a, b)
  | _, _ => none
theorem rest_step (first : Bool) {Sx : List Bool} {Px : List (List UInt8)} {Sy : List Bool} {Py : List (List UInt8)} {k : Nat} (hs : Sx.length = Sy.length) (hx : k < Px.length) (hy : k < Py.length) (hl : Px.length = Sx.length + 1) (hl2 : Py.length = Sy.length + 1) :
    rest first Sx Px Sy Py k = gap first Px[k] Py[k] (stAt Sx Sy k) ++ rest first Sx Px Sy Py (k + 1) := by
  unfold rest
  rw [List.drop_eq_getElem_cons hx, List.drop_eq_getElem_cons hy]
  by_cases h : k < Sx.length
  · have h' : k < Sy.length := by omega
    rw [List.drop_eq_getElem_cons h, List.drop_eq_getElem_cons h']
    simp only [gaps, stAt, List.getElem?_eq_getElem h, List.getElem?_eq_getElem h']
  · have e : Sx.drop k = [] := List.drop_eq_nil_of_le (by omega)
    have e2 : Sx.drop (k + 1) = [] := List.drop_eq_nil_of_le (by omega)
    have e3 : Px.drop (k + 1) = [] := List.drop_eq_nil_of_le (by omega)
    rw [e, e2, e3]
    simp only [gaps, stAt, List.getElem?_eq_none (show Sx.length ≤ k by omega), List.append_nil]
structure Rows (Sx : List Bool) (Px : List (List UInt8)) (Sy : List Bool) (Py : List (List UInt8)) : Prop where
  s : Sx.length = Sy.length
  x : Px.length = Sx.length + 1
  y : Py.length = Sy.length + 1
  n : Sx.length ≤ 1000
  px : ∀ p ∈ Px, p.length ≤ 1000
  py : ∀ p ∈ Py, p.length ≤ 1000
theorem one_I : I64 1 ∧ I64 0 := by unfold I64; omega
end Go.V.G

set_option linter.unusedVariables false
set_option linter.unusedSimpArgs false
set_option maxRecDepth 100000
namespace Go.V.G
open Go.V
theorem s_carry_loop {first : Bool} {Sx : List Bool} {Px : List (List UInt8)} {Sy : List Bool} {Py : List (List UInt8)} (h : Rows Sx Px Sy Py) :
    Ok (loopG s_l1Carry_L1 (first, [], Px, ((List.length Px : Nat) : Int), 0, Sx, Sy, Py)) fun z => z = norm (rest first Sx Px Sy Py 0) ∧ Sm 4004004 z := by
  refine (Ok.loop (fun y => y.1 = first ∧ y.2.2.2.1 = ((List.length Px : Nat) : Int) ∧ y.2.2.2.2.2.1 = Sx ∧ y.2.2.1 = Px ∧ y.2.2.2.2.2.2.1 = Sy ∧ y.2.2.2.2.2.2.2 = Py ∧ ∃ k : Nat, y.2.2.2.2.1 = ((k : Nat) : Int) ∧ k ≤ Px.length ∧
      Sm (k * 4000) y.2.1 ∧ (rest first Sx Px Sy Py k).foldl addp y.2.1 = norm (rest first Sx Px Sy Py 0)) (fun y => (((List.length Px : Nat) : Int) - y.2.2.2.2.1).toNat)
    ⟨rfl, rfl, rfl, rfl, rfl, rfl, 0, rfl, Nat.zero_le _, Sm.nil _, rfl⟩ ?_)
  rintro ⟨f, o, px, n, k', sx, sy, py⟩ ⟨e1, e2, e3, e4, e5, e6, k, e7, hk, ho, hf⟩
  dsimp only at e1 e2 e3 e4 e5 e6 e7 ho hf
  subst e1 e2 e3 e4 e5 e6 e7
  obtain ⟨hs, hx, hy, hn, hpx, hpy⟩ := h
  unfold s_l1Carry_L1
  dsimp only
  refine Ok.ite (fun hc => ?_) fun hc => ?_
  · have hlt : k < px.length := by simpa using hc
    have hlt2 : k < py.length := by omega
    have z := one_I.2
    have lp := hpx _ (List.getElem_mem hlt)
    have lq := hpy _ (List.getElem_mem hlt2)
    rw [rest_step f hs hlt hlt2 hx hy, List.foldl_append] at hf
    refine Ok.bind (Q := fun v => ∃ O4, v = (f, O4, px, ((List.length px : Nat) : Int), ((k : Nat) : Int), sx, sy, py) ∧ Sm ((k + 1) * 4000) O4 ∧ (rest f sx px sy py (k + 1)).foldl addp O4 = norm (rest f sx px sy py 0)) ?_ ?_
    rotate_left
    · rintro _ ⟨O4, rfl, so4, hf⟩
      exact Ok.mk ⟨⟨rfl, rfl, rfl, rfl, rfl, rfl, k + 1, idx_succ (n := px.length) (by omega) hlt, by omega, so4, hf⟩, by rw [idx_succ (n := px.length) (by omega) hlt]; dsimp only; omega⟩
    refine Ok.yes (by simp) (Ok.yes (by simpa using hlt) (Ok.bind_eq (r := px[k]) (by simp [List.getElem?_eq_getElem hlt]) ?_))
    refine Ok.bind (Q := fun v => v = (f, (if f = true then addp o (0, 0, px[k]) else o), ((k : Nat) : Int), px[k], px, ((List.length px : Nat) : Int), ((k : Nat) : Int), sx, sy, py)) ?_ ?_
    · refine Ok.ite (fun hf1 => ?_) fun hf1 => Ok.mk (by rw [if_neg hf1])
      exact Ok.bind_eq (s_l1Add_eq ho (by omega) 0 0 _ (by omega)) (Ok.mk (by rw [if_pos hf1]))
    rintro _ rfl
    dsimp only
    have so1 : Sm (k * 4000 + 1000) (if f = true then addp o (0, 0, px[k]) else o) := by
      split
      · exact addp_sm ho ⟨z, z⟩ (by omega) (by dsimp only; omega)
      · exact ho.mono (by omega)
    have iq : I64 ((List.length py[k] : Nat) : Int) := by unfold I64; omega
    refine Ok.yes (by simp) (Ok.yes (by simp; omega) (Ok.bind_eq (r := py[k]) (by simp [List.getElem?_eq_getElem hlt2]) (Ok.bind_eq (s_l1Add_eq so1 (by omega) _ 0 [] (by simp)) ?_)))
    have so2 := addp_sm (p := (((List.length py[k] : Nat) : Int), 0, [])) (C := k * 4000 + 1001) so1 ⟨iq, z⟩ (by omega) (by simp)
    refine Ok.bind (Q := fun v => v = (f, (if f = true then addp (addp o (0, 0, px[k])) (((List.length py[k] : Nat) : Int), 0, []) else addp (addp o (((List.length py[k] : Nat) : Int), 0, [])) (0, 0, px[k])), ((k : Nat) : Int), px, ((List.length px : Nat) : Int), ((k : Nat) : Int), sx, sy, py)) ?_ ?_
    · cases f with
      | true => exact Ok.no (by simp) (Ok.mk (by simp))
      | false =>
        refine Ok.yes (by simp) (Ok.bind_eq (s_l1Add_eq so2 (by omega) 0 0 _ (by omega)) (Ok.mk (by simp)))
    rintro _ rfl
    dsimp only
    have so3 : Sm (k * 4000 + 2001) (if f = true then addp (addp o (0, 0, px[k])) (((List.length py[k] : Nat) : Int), 0, []) else addp (addp o (((List.length py[k] : Nat) : Int), 0, [])) (0, 0, px[k])) := by
      cases f with
      | true => exact so2.mono (by omega)
      | false => exact addp_sm so2 ⟨z, z⟩ (by omega) (by dsimp only; omega)
    generalize hO : (if f = true then addp (addp o (0, 0, px[k])) (((List.length py[k] : Nat) : Int), 0, []) else addp (addp o (((List.length py[k] : Nat) : Int), 0, [])) (0, 0, px[k])) = O at so3
    have hgap : (gap f px[k] py[k] (stAt sx sy k)).foldl addp o = (stPart (stAt sx sy k)).foldl addp O := by
      subst hO
      unfold gap
      rw [List.foldl_append]
      cases f <;> rfl
    rw [hgap] at hf
    refine Ok.bind (Q := fun v => ∃ b : Bool, v = (f, O, ((k : Nat) : Int), px, ((List.length px : Nat) : Int), ((k : Nat) : Int), b, sx, sy, py) ∧ (b = true → stPart (stAt sx sy k) = []) ∧ (b = false → ∃ h1 : k < sx.length, stPart (stAt sx sy k) = if sx[k] = true then [(1, 0, [])] else [(0, 1, [])])) ?_ ?_
    · refine Ok.ite (fun hq => ?_) fun hq => ?_
      · have : k = sx.length := by
          have : ((k : Nat) : Int) = ((List.length sx : Nat) : Int) := by simpa using hq
          omega
        refine Ok.mk ⟨true, rfl, fun _ => ?_, fun h => by cases h⟩
        simp [stAt, this, stPart]
      · have hks : k < sx.length := by
          have : ¬ ((k : Nat) : Int) = ((List.length sx : Nat) : Int) := by simpa using hq
          omega
        have hks2 : k < sy.length := by omega
        refine Ok.yes (by simp) (Ok.yes (by simp; omega) (Ok.bind_eq (r := sy[k]) (by simp [List.getElem?_eq_getElem hks2]) (Ok.mk ⟨_, rfl, fun hb => ?_, fun hb => ⟨hks, ?_⟩⟩)))
        · have : sy[k] = false := by simpa using hb
          simp only [stAt, List.getElem?_eq_getElem hks, List.getElem?_eq_getElem hks2, this]
          cases sx[k] <;> rfl
        · have : sy[k] = true := by simpa using hb
          simp only [stAt, List.getElem?_eq_getElem hks, List.getElem?_eq_getElem hks2, this]
          cases sx[k] <;> rfl
    rintro _ ⟨b, rfl, hb1, hb2⟩
    dsimp only
    have so4 : Sm ((k + 1) * 4000) ((stPart (stAt sx sy k)).foldl addp O) := by
      cases b with
      | true => rw [hb1 rfl]; exact so3.mono (by omega)
      | false =>
        obtain ⟨hks, hst⟩ := hb2 rfl
        rw [hst]
        split
        · exact addp_sm (p := (1, 0, [])) (C := (k + 1) * 4000) so3 ⟨one_I.1, z⟩ (by omega) (by simp; omega)
        · exact addp_sm (p := (0, 1, [])) (C := (k + 1) * 4000) so3 ⟨z, one_I.1⟩ (by omega) (by simp; omega)
    cases b with
    | true => exact Ok.yes rfl (Ok.mk ⟨O, rfl, so3.mono (by omega), by rw [hb1 rfl] at hf; exact hf⟩)
    | false =>
      obtain ⟨hks, hst⟩ := hb2 rfl
      refine Ok.no (by simp) (Ok.yes (by simp) (Ok.yes (by simp; omega) (Ok.bind_eq (r := sx[k]) (by simp [List.getElem?_eq_getElem hks]) ?_)))
      refine Ok.bind (Q := fun v => v = (f, (stPart (stAt sx sy k)).foldl addp O, px, ((List.length px : Nat) : Int), ((k : Nat) : Int), sx, sy, py)) ?_ (fun v hv => Ok.mk ⟨_, hv, so4, hf⟩)
      rw [hst]
      refine Ok.ite (fun h1 => Ok.bind_eq (s_l1Add_eq so3 (by omega) 1 0 [] (by simp)) (Ok.mk (by rw [if_pos h1]; rfl))) fun h1 => Ok.bind_eq (s_l1Add_eq so3 (by omega) 0 1 [] (by simp)) (Ok.mk (by rw [if_neg h1]; rfl))
  · have : k = px.length := by
      have : ¬ ((k : Int) < ((List.length px : Nat) : Int)) := by simpa using hc
      omega
    subst this
    refine Ok.mk ⟨?_, ho.mono (by omega)⟩
    rw [← hf]
    have : rest f sx px sy py px.length = [] := by
      unfold rest
      rw [List.drop_length, List.drop_eq_nil_of_le (show sx.length ≤ px.length by omega)]; rfl
    rw [this]; rfl
end Go.V.G

set_option linter.unusedVariables false
set_option linter.unusedSimpArgs false
set_option maxRecDepth 100000
namespace Go.V.G
open Go.V
theorem src_nS {c : List Prt} (h : ∀ p ∈ c, Some1 p) : src c = ((nS (atoms c) : Nat) : Int) := by rw [← stays_len h, nS_stays]
theorem tgt_nT {c : List Prt} (h : ∀ p ∈ c, Some1 p) : tgt c = ((nT (atoms c) : Nat) : Int) := by rw [tgt_atoms h, nT_eq]
theorem rows_good {a b : List Prt} (ha : good a = true) (hb : good b = true) (h : src a = src b) : Rows (stays (atoms a)) (puts (atoms a)) (stays (atoms b)) (puts (atoms b)) := by
  have sa := okk_some (good_spec ha).1
  have sb := okk_some (good_spec hb).1
  have la := stays_len sa
  have lb := stays_len sb
  have := (good_spec ha).2.1
  refine ⟨by omega, puts_len _, puts_len _, by omega, fun p hp => ?_, fun p hp => ?_⟩
  · have := put_le _ p hp; rw [nIns_atoms] at this; have := (good_sm ha).put; omega
  · have := put_le _ p hp; rw [nIns_atoms] at this; have := (good_sm hb).put; omega
def carried (first : Bool) (a b : List Prt) : List Prt := norm (gaps first (stays (atoms a)) (puts (atoms a)) (stays (atoms b)) (puts (atoms b)))
theorem gap_fine (first : Bool) (p q : List UInt8) (st : Option (Bool × Bool)) : ∀ r ∈ gap first p q st, Fine r := by
  intro r hr
  unfold gap at hr
  rcases List.mem_append.1 hr with hr | hr
  · split at hr <;> (simp only [List.mem_cons, List.not_mem_nil, or_false] at hr; rcases hr with rfl | rfl <;> first | exact Fine.put _ | exact Fine.keep (by omega))
  · match st, hr with
    | some (true, true), hr => rw [List.mem_singleton.1 hr]; exact Fine.keep (by omega)
    | some (false, true), hr => rw [List.mem_singleton.1 hr]; exact Fine.drop (by omega)
theorem gaps_fine (first : Bool) : ∀ (Sx : List Bool) (Px : List (List UInt8)) (Sy : List Bool) (Py : List (List UInt8)), ∀ r ∈ gaps first Sx Px Sy Py, Fine r
  | [], [], _, _, r, hr => by cases hr
  | [], p :: _, _, [], r, hr => by cases hr
  | [], p :: _, _, q :: _, r, hr => gap_fine _ _ _ _ r hr
  | _ :: _, [], _, _, r, hr => by cases hr
  | _ :: _, _ :: _, [], _, r, hr => by cases hr
  | _ :: _, _ :: _, _ :: _, [], r, hr => by cases hr
  | sx :: Sx, p :: Px, sy :: Sy, q :: Py, r, hr => by
    rcases List.mem_append.1 hr with hr | hr
    · exact gap_fine _ _ _ _ r hr
    · exact gaps_fine first Sx Px Sy Py r hr
theorem nS_pa (p : Prt) : nS (pa p) = (p.1 + p.2.1).toNat := by rw [nS_stays, stays_pa, List.length_replicate]
theorem src_fine : ∀ {l : List Prt}, (∀ p ∈ l, Fine p) → src l = ((nS (atoms l) : Nat) : Int)
  | [], _ => rfl
  | p :: l, h => by
    have ih := src_fine (l := l) fun q hq => h q (by simp [hq])
    have e : ∀ a b : List Atom, nS (a ++ b) = nS a + nS b := fun a b => by rw [nS_stays, nS_stays, nS_stays, stays_append, List.length_append]
    show p.1 + p.2.1 + src l = ((nS (pa p ++ atoms l) : Nat) : Int)
    have := fine_nonneg (h p (by simp))
    rw [e, ih, nS_pa]
    omega
theorem nT_append (a b : List Atom) : nT (a ++ b) = nT a + nT b := by rw [nT_eq, nT_eq, nT_eq, nIns_append, nK_append]; omega
theorem tgt_fine : ∀ {l : List Prt}, (∀ p ∈ l, Fine p) → tgt l = ((nT (atoms l) : Nat) : Int)
  | [], _ => rfl
  | p :: l, h => by
    have ih := tgt_fine (l := l) fun q hq => h q (by simp [hq])
    show p.1 + ((p.2.2.length : Nat) : Int) + tgt l = ((nT (pa p ++ atoms l) : Nat) : Int)
    rw [nT_append, ih]
    rcases h p (by simp) with rfl | hk
    · simp [pa_zero, nT]
    · have := tgt_nT (c := [p]) (fun q hq => by rw [List.mem_singleton.1 hq]; exact some1_of hk)
      have e : atoms [p] = pa p := by simp [atoms]
      rw [e] at this
      simp only [tgt] at this
      omega
theorem carryT_nS : ∀ x y : List Atom, nS x = nS y → nS (carryT x y) = nT y := by
  intro x y
  induction x, y using carryT.induct with
  | case1 b x y ih => intro h; rw [carryT]; exact ih h
  | case2 c y ih => intro h; rw [carryT]; simp only [nS, nT]; rw [ih h]
  | case3 x c y ih => intro h; rw [carryT]; simp only [nT]; rw [← ih h]; simp [nS]
  | case4 x c y ih => intro h; rw [carryT]; simp only [nT]; rw [← ih h]; simp [nS]
  | case5 x y ih => intro h; rw [carryT]; simp only [nS, nT]; rw [ih (by simpa [nS] using h)]
  | case6 x y ih => intro h; rw [carryT]; simp only [nS, nT]; rw [ih (by simpa [nS] using h)]
  | case7 x y ih => intro h; rw [carryT]; simp only [nT]; rw [ih (by simpa [nS] using h)]
  | case8 x y ih => intro h; rw [carryT]; simp only [nT]; rw [ih (by simpa [nS] using h)]
  | case9 x y h1 h2 h3 h4 h5 h6 h7 h8 =>
    intro g
    match x, y with
    | .ins b :: x, y => exact absurd rfl (h1 b x)
    | [], .ins c :: y => exact absurd rfl (h2 c y rfl)
    | [], [] => simp [carryT, nS, nT]
    | [], .keep :: y => simp [nS] at g
    | [], .drop :: y => simp [nS] at g
    | .keep :: x, [] => simp [nS] at g
    | .drop :: x, [] => simp [nS] at g
    | .keep :: x, .ins c :: y => exact absurd rfl (h3 x c y rfl)
    | .drop :: x, .ins c :: y => exact absurd rfl (h4 x c y rfl)
    | .keep :: x, .keep :: y => exact absurd rfl (h5 x y rfl)
    | .drop :: x, .keep :: y => exact absurd rfl (h6 x y rfl)
    | .keep :: x, .drop :: y => exact absurd rfl (h7 x y rfl)
    | .drop :: x, .drop :: y => exact absurd rfl (h8 x y rfl)
theorem carryF_nS : ∀ x y : List Atom, nS x = nS y → nS (carryF x y) = nT y := by
  intro x y
  induction x, y using carryF.induct with
  | case1 x c y ih => intro h; rw [carryF]; simp only [nS, nT]; rw [ih h]
  | case2 b x ih => intro h; rw [carryF]; exact ih h
  | case3 b x y ih => intro h; rw [carryF]; exact ih h
  | case4 b x y ih => intro h; rw [carryF]; exact ih h
  | case5 x y ih => intro h; rw [carryF]; simp only [nS, nT]; rw [ih (by simpa [nS] using h)]
  | case6 x y ih => intro h; rw [carryF]; simp only [nS, nT]; rw [ih (by simpa [nS] using h)]
  | case7 x y ih => intro h; rw [carryF]; simp only [nT]; rw [ih (by simpa [nS] using h)]
  | case8 x y ih => intro h; rw [carryF]; simp only [nT]; rw [ih (by simpa [nS] using h)]
  | case9 x y h1 h2 h3 h4 h5 h6 h7 h8 =>
    intro g
    match x, y with
    | x, .ins c :: y => exact absurd rfl (h1 c y)
    | .ins b :: x, [] => exact absurd rfl (h2 b x rfl)
    | .ins b :: x, .keep :: y => exact absurd rfl (h3 b x y rfl)
    | .ins b :: x, .drop :: y => exact absurd rfl (h4 b x y rfl)
    | [], [] => simp [carryF, nS, nT]
    | [], .keep :: y => simp [nS] at g
    | [], .drop :: y => simp [nS] at g
    | .keep :: x, [] => simp [nS] at g
    | .drop :: x, [] => simp [nS] at g
    | .keep :: x, .keep :: y => exact absurd rfl (h5 x y rfl)
    | .drop :: x, .keep :: y => exact absurd rfl (h6 x y rfl)
    | .keep :: x, .drop :: y => exact absurd rfl (h7 x y rfl)
    | .drop :: x, .drop :: y => exact absurd rfl (h8 x y rfl)
theorem carryA_nS (first : Bool) (x y : List Atom) (h : nS x = nS y) : nS (carryA first x y) = nT y := by
  cases first
  · exact carryF_nS x y h
  · exact carryT_nS x y h
theorem carryT_nT : ∀ x y : List Atom, nT (carryT x y) ≤ nT x + nT y := by
  intro x y
  induction x, y using carryT.induct with
  | case1 b x y ih => rw [carryT]; simp only [nT]; omega
  | case2 c y ih => rw [carryT]; simp only [nT] at ih ⊢; omega
  | case3 x c y ih => rw [carryT]; simp only [nT] at ih ⊢; omega
  | case4 x c y ih => rw [carryT]; simp only [nT] at ih ⊢; omega
  | case5 x y ih => rw [carryT]; simp only [nT]; omega
  | case6 x y ih => rw [carryT]; simp only [nT]; omega
  | case7 x y ih => rw [carryT]; simp only [nT]; omega
  | case8 x y ih => rw [carryT]; simp only [nT]; omega
  | case9 x y h1 h2 h3 h4 h5 h6 h7 h8 => rw [carryT.eq_def]; split <;> first | exact Nat.zero_le _ | simp_all
theorem carryF_nT : ∀ x y : List Atom, nT (carryF x y) ≤ nT x + nT y := by
  intro x y
  induction x, y using carryF.induct with
  | case1 x c y ih => rw [carryF]; simp only [nT] at ih ⊢; omega
  | case2 b x ih => rw [carryF]; simp only [nT] at ih ⊢; omega
  | case3 b x y ih => rw [carryF]; simp only [nT] at ih ⊢; omega
  | case4 b x y ih => rw [carryF]; simp only [nT] at ih ⊢; omega
  | case5 x y ih => rw [carryF]; simp only [nT]; omega
  | case6 x y ih => rw [carryF]; simp only [nT]; omega
  | case7 x y ih => rw [carryF]; simp only [nT]; omega
  | case8 x y ih => rw [carryF]; simp only [nT]; omega
  | case9 x y h1 h2 h3 h4 h5 h6 h7 h8 => rw [carryF.eq_def]; split <;> first | exact Nat.zero_le _ | simp_all
theorem carryA_nT (first : Bool) (x y : List Atom) : nT (carryA first x y) ≤ nT x + nT y := by
  cases first
  · exact carryF_nT x y
  · exact carryT_nT x y
theorem carried_spec {a b : List Prt} (first : Bool) (ha : good a = true) (hb : good b = true) (h : src a = src b) :
    okk 0 (carried first a b) = true ∧ atoms (carried first a b) = carryA first (atoms a) (atoms b) := by
  have sa := okk_some (good_spec ha).1
  have sb := okk_some (good_spec hb).1
  have hn : nS (atoms a) = nS (atoms b) := by have := src_nS sa; have := src_nS sb; omega
  have hf := gaps_fine first (stays (atoms a)) (puts (atoms a)) (stays (atoms b)) (puts (atoms b))
  have he : atoms (gaps first (stays (atoms a)) (puts (atoms a)) (stays (atoms b)) (puts (atoms b))) = carryA first (atoms a) (atoms b) := by rw [gaps_atoms, gapsA_carry first _ _ hn]
  have h1 := carryA_nS first _ _ hn
  have h2 := carryA_nT first (atoms a) (atoms b)
  have t1 := tgt_nT sa
  have t2 := tgt_nT sb
  have := (good_spec ha).2.2
  have := (good_spec hb).2.2
  obtain ⟨k1, k2, _⟩ := norm_spec hf ⟨by rw [src_fine hf, he, h1]; omega, by rw [tgt_fine hf, he]; omega⟩
  exact ⟨k1, by rw [← he]; exact k2⟩
def carryOf (a b : List Prt) (first : Bool) : List Prt × Bool :=
  if good a = true ∧ good b = true ∧ src a = src b ∧ good (carried first a b) = true then (carried first a b, true) else ([], false)
theorem s_carry_eq {a b : List Prt} (first : Bool) (ha : good a = true) (hb : good b = true) (h : src a = src b) : Ok (s_l1Carry a b first) fun z => z = carried first a b ∧ Sm 4004004 z := by
  have sa := okk_some (good_spec ha).1
  have sb := okk_some (good_spec hb).1
  have := (good_spec ha).2.1
  have := (good_spec hb).2.1
  unfold s_l1Carry
  rw [s_Open_eq (good_sm ha) (by omega) sa (by omega), s_Open_eq (good_sm hb) (by omega) sb (by omega), Option.bind_some, Option.bind_some]
  exact (s_carry_loop (first := first) (rows_good ha hb h)).bind fun z hz => Ok.mk hz
theorem s_CarryChange_eq {A B : Nat} {a b : List Prt} (ha : Sm A a) (hA : A ≤ 1099511627776) (hb : Sm B b) (hB : B ≤ 1099511627776) (first : Bool) : s_CarryChange a b first = some (carryOf a b first) := by
  unfold s_CarryChange carryOf
  rw [s_Good_eq ha hA, Option.bind_some]
  cases ga : good a with
  | false => simp
  | true =>
    simp only [if_true, Bool.not_true, Bool.false_eq_true, if_false, s_Good_eq hb hB, Option.bind_some]
    cases gb : good b with
    | false => simp
    | true =>
      have sa := okk_some (good_spec ga).1
      have sb := okk_some (good_spec gb).1
      have := (good_spec ga).2.1
      have := (good_spec gb).2.1
      simp only [Bool.not_true, Bool.false_eq_true, if_false, s_Source_eq ha hA sa (by omega), s_Source_eq hb hB sb (by omega), Option.bind_some]
      by_cases hs : src a = src b
      · have hnn : ¬ ¬ src a = src b := fun h => h hs
        simp only [hs, not_true, decide_false, Bool.false_eq_true, if_false, true_and]
        refine Ok.eq ((s_carry_eq first ga gb hs).bind ?_)
        rintro _ ⟨rfl, sm⟩
        refine Ok.bind_eq (s_Good_eq sm (by omega)) ?_
        cases hg : good (carried first a b) with
        | false => exact Ok.yes (by simp) (Ok.mk (by simp))
        | true => exact Ok.no (by simp) (Ok.mk (by simp))
      · simp [hs]
def apply (t : List UInt8) (c : List Prt) : List UInt8 := ap (atoms c) t
theorem ap_append : ∀ (x y : List Atom) (t : List UInt8), nS x ≤ t.length → ap (x ++ y) t = ap x (t.take (nS x)) ++ ap y (t.drop (nS x))
  | [], y, t, _ => by cases t <;> simp [ap, nS]
  | .ins b :: x, y, t, h => by simp only [List.cons_append, ap, nS]; rw [ap_append x y t h]
  | .keep :: x, y, c :: t, h => by
    simp only [List.cons_append, ap, nS, List.take_succ_cons, List.drop_succ_cons]; rw [ap_append x y t (by simpa [nS] using h)]
  | .drop :: x, y, c :: t, h => by
    simp only [List.cons_append, ap, nS, List.take_succ_cons, List.drop_succ_cons]; rw [ap_append x y t (by simpa [nS] using h)]
  | .keep :: x, y, [], h => by simp [nS] at h
  | .drop :: x, y, [], h => by simp [nS] at h
theorem ap_map (s : List UInt8) : ap (s.map Atom.ins) [] = s := by
  induction s with
  | nil => rfl
  | cons b s ih => simp [ap, ih]
theorem ap_keep : ∀ (n : Nat) (t : List UInt8), t.length = n → ap (List.replicate n .keep) t = t
  | 0, [], _ => rfl
  | n + 1, c :: t, h => by rw [List.replicate_succ]; simp only [ap]; rw [ap_keep n t (by simpa using h)]
theorem ap_drop : ∀ (n : Nat) (t : List UInt8), t.length = n → ap (List.replicate n .drop) t = []
  | 0, [], _ => rfl
  | n + 1, c :: t, h => by rw [List.replicate_succ]; simp only [ap]; rw [ap_drop n t (by simpa using h)]
theorem ap_pa {p : Prt} (h : kd p ≠ 0) (t : List UInt8) (ht : t.length = (p.1 + p.2.1).toNat) : ap (pa p) t = t.take p.1.toNat ++ p.2.2 := by
  rcases kd_cases h with ⟨a, ha, rfl, _⟩ | ⟨a, ha, rfl, _⟩ | ⟨s, hs, rfl, _⟩
  · simp only [Int.add_zero] at ht
    rw [pa_keep (by omega), ap_keep _ t ht, List.append_nil, List.take_of_length_le (by dsimp only; omega)]
  · simp only [Int.zero_add] at ht
    rw [pa_drop (by omega), ap_drop _ t ht]; simp
  · have : t = [] := List.eq_nil_of_length_eq_zero (by simpa using ht)
    subst this
    rw [pa_put, ap_map]; simp
theorem i_apply_eq {c : List Prt} (hg : good c = true) {t : List UInt8} (ht : ((t.length : Nat) : Int) = src c) : i_apply t c = some (apply t c) := by
  have hs := okk_some (good_spec hg).1
  have sm := good_sm hg
  have sle := (good_spec hg).2.1
  have hlen : c.length ≤ 1099511627776 := by have := sm.len; omega
  unfold i_apply
  have : loopG i_apply_L1 (t, ([] : List UInt8), 0, c, ((List.length c : Nat) : Int), 0) = some (apply t c) := by
    have := loop_run i_apply_L1 (fun k => (t, ap (atoms (c.take k)) (t.take (nS (atoms (c.take k)))), src (c.take k), c, ((List.length c : Nat) : Int), ((k : Nat) : Int))) c.length (apply t c) (by
      intro i hlt
      have p1 := hs _ (List.getElem_mem hlt)
      have k0 := p1.k; have d0 := p1.d
      have a1 := src_at hlt
      have n1 := src_nonneg (l := c.take i) fun p h => hs p (mem_take h)
      have n3 := src_nonneg (l := c.drop (i + 1)) fun p h => hs p (mem_drop h)
      have psm := part_small hg (List.getElem_mem hlt)
      have e0 := src_nS (c := c.take i) fun p h => hs p (mem_take h)
      have hi : ((i : Nat) : Int) < ((List.length c : Nat) : Int) := by omega
      have w1 : IntKind.wrap .i64 (src (c.take i) + c[i].1) = src (c.take i) + c[i].1 := w64 (by omega) (by omega)
      have w2 : IntKind.wrap .i64 (c[i].1 + c[i].2.1) = c[i].1 + c[i].2.1 := w64 (by omega) (by omega)
      have w3 : IntKind.wrap .i64 (src (c.take i) + (c[i].1 + c[i].2.1)) = src (c.take i) + (c[i].1 + c[i].2.1) := w64 (by omega) (by omega)
      have g1 : src (c.take i) ≤ src (c.take i) + c[i].1 := by omega
      have g2 : src (c.take i) + c[i].1 ≤ ((List.length t : Nat) : Int) := by omega
      have hnt : nS (atoms (c.take i)) + (c[i].1 + c[i].2.1).toNat ≤ t.length := by omega
      have al := ap_len (atoms (c.take i)) (t.take (nS (atoms (c.take i)))) (by rw [List.length_take]; omega)
      have tn := tgt_nT (c := c.take i) fun p h => hs p (mem_take h)
      have t3 := tgt_at hlt
      have t4 := tgt_nonneg (l := c.drop (i + 1)) fun p h => hs p (mem_drop h)
      have tle := (good_spec hg).2.2
      have hout : ap (atoms (c.take (i + 1))) (t.take (nS (atoms (c.take (i + 1))))) = ap (atoms (c.take i)) (t.take (nS (atoms (c.take i)))) ++ (((t.drop (Int.toNat (src (c.take i)))).take (Int.toNat (src (c.take i) + c[i].1) - Int.toNat (src (c.take i)))) ++ c[i].2.2) := by
        have e1 : nS (atoms (c.take (i + 1))) = nS (atoms (c.take i)) + (c[i].1 + c[i].2.1).toNat := by
          rw [atoms_take hlt, nS_stays, stays_append, List.length_append, ← nS_stays, stays_pa, List.length_replicate]
        rw [e1, atoms_take hlt, ap_append _ _ _ (by rw [List.length_take]; omega), List.take_take, Nat.min_eq_left (by omega)]
        congr 1
        rw [List.drop_take, show nS (atoms (c.take i)) + (c[i].1 + c[i].2.1).toNat - nS (atoms (c.take i)) = (c[i].1 + c[i].2.1).toNat by omega,
          ap_pa p1.ne _ (by rw [List.length_take, List.length_drop]; omega), List.take_take, Nat.min_eq_left (by omega)]
        rw [show Int.toNat (src (c.take i)) = nS (atoms (c.take i)) by omega, show Int.toNat (src (c.take i) + c[i].1) - nS (atoms (c.take i)) = c[i].1.toNat by omega]
      have r1 : List.length ((t.drop (Int.toNat (src (c.take i)))).take (Int.toNat (src (c.take i) + c[i].1) - Int.toNat (src (c.take i)))) + List.length c[i].2.2 ≤ 9223372036854775807 := by
        rw [List.length_take, List.length_drop]; omega
      have r2 : List.length (ap (atoms (c.take i)) (t.take (nS (atoms (c.take i))))) + List.length ((((t : List UInt8).drop (Int.toNat (src (c.take i)))).take (Int.toNat (src (c.take i) + c[i].1) - Int.toNat (src (c.take i))) : List UInt8) ++ c[i].2.2) ≤ 9223372036854775807 := by
        rw [List.length_append, List.length_take, List.length_drop, al]; omega
      unfold i_apply_L1
      simp only [hi, show (0 : Int) ≤ ((i : Nat) : Int) from by omega, decide_true, if_true, Int.toNat_natCast, List.getElem?_eq_getElem hlt, Option.bind_some, w1, w2, w3, n1, g1, g2, Int.le_refl, r1, r2, idx_succ hlen hlt, hout, src_take hlt]) (by
      have e : nS (atoms c) = t.length := by have := src_nS hs; omega
      simp only [List.take_length]
      rw [e, List.take_length]
      simp [i_apply_L1, apply])
    simpa [atoms, ap, src, nS] using this
  rw [this]; rfl
end Go.V.G

set_option linter.unusedVariables false
set_option linter.unusedSimpArgs false
set_option maxRecDepth 100000
namespace Go.V.G
open Go.V
def closeP : List Bool → List (List UInt8) → List Prt
  | [], p :: _ => [(0, 0, p)]
  | s :: S, p :: P => (0, 0, p) :: (if s = true then (1, 0, []) else (0, 1, [])) :: closeP S P
  | _, [] => []
theorem closeP_fine : ∀ (S : List Bool) (P : List (List UInt8)), ∀ r ∈ closeP S P, Fine r
  | [], [], r, h => by cases h
  | [], p :: _, r, h => by rw [List.mem_singleton.1 h]; exact Fine.put _
  | _ :: _, [], r, h => by cases h
  | s :: S, p :: P, r, h => by
    rcases List.mem_cons.1 h with rfl | h
    · exact Fine.put _
    rcases List.mem_cons.1 h with rfl | h
    · cases s
      · exact Fine.drop (by omega)
      · exact Fine.keep (by omega)
    · exact closeP_fine S P r h
theorem closeP_head (b : UInt8) {S : List Bool} {p : List UInt8} {P : List (List UInt8)} : atoms (closeP S ((b :: p) :: P)) = .ins b :: atoms (closeP S (p :: P)) := by
  cases S with
  | nil => simp [closeP, atoms, pa_put]
  | cons s S => simp [closeP, atoms, pa_put]
theorem closeP_atoms : ∀ l : List Atom, atoms (closeP (stays l) (puts l)) = l
  | [] => by simp [closeP, stays, puts, atoms, pa_zero]
  | .ins b :: l => by
    obtain ⟨p, ps, e, _⟩ := puts_cons l
    have ih := closeP_atoms l
    show atoms (closeP (stays l) (consHead b (puts l))) = _
    rw [e] at ih ⊢
    show atoms (closeP (stays l) ((b :: p) :: ps)) = _
    rw [closeP_head, ih]
  | .keep :: l => by
    have ih := closeP_atoms l
    show pa (0, 0, []) ++ (pa (1, 0, []) ++ atoms (closeP (stays l) (puts l))) = _
    rw [ih, pa_zero, pa_keep (by omega)]; rfl
  | .drop :: l => by
    have ih := closeP_atoms l
    show pa (0, 0, []) ++ (pa (0, 1, []) ++ atoms (closeP (stays l) (puts l))) = _
    rw [ih, pa_zero, pa_drop (by omega)]; rfl
def inn : List Bool → List (List UInt8) → List UInt8 → List UInt8
  | sc :: Sc, _ :: q :: Pc, b :: s => (if sc = true then [b] else []) ++ q ++ inn Sc (q :: Pc) s
  | _, _, _ => []
def cmpG : List UInt8 → List Bool → List (List UInt8) → List Bool → List (List UInt8) → List Bool × List (List UInt8)
  | be, sb :: Sb, p :: Pb, Sc, Pc =>
    if sb = true then
      let r := cmpG ((Pc.drop p.length).getD 1 []) Sb Pb ((Sc.drop p.length).drop 1) ((Pc.drop p.length).drop 1)
      ((Sc.drop p.length).getD 0 false :: r.1, (be ++ inn Sc Pc p) :: r.2)
    else
      let r := cmpG [] Sb Pb (Sc.drop p.length) (Pc.drop p.length)
      (false :: r.1, (be ++ inn Sc Pc p) :: r.2)
  | be, _, p :: _, Sc, Pc => ([], [be ++ inn Sc Pc p])
  | _, _, [], _, _ => ([], [])
def strip : List Atom → List Atom
  | .ins _ :: l => strip l
  | l => l
theorem strip_stays : ∀ l, stays (strip l) = stays l
  | [] => rfl
  | .ins _ :: l => strip_stays l
  | .keep :: _ => rfl
  | .drop :: _ => rfl
theorem strip_nS (l : List Atom) : nS (strip l) = nS l := by rw [nS_stays, nS_stays, strip_stays]
theorem strip_puts : ∀ l, puts (strip l) = [] :: (puts l).tail
  | [] => rfl
  | .ins b :: l => by
    obtain ⟨p, ps, e, _⟩ := puts_cons l
    show puts (strip l) = [] :: (consHead b (puts l)).tail
    rw [strip_puts l, e]; rfl
  | .keep :: _ => rfl
  | .drop :: _ => rfl
theorem comp_strip (x : List Atom) : ∀ y, comp x y = ((puts y).headD []).map Atom.ins ++ comp x (strip y)
  | [] => rfl
  | .ins b :: y => by
    obtain ⟨p, ps, e, _⟩ := puts_cons y
    have ih := comp_strip x y
    rw [comp]
    show .ins b :: comp x y = ((consHead b (puts y)).headD []).map Atom.ins ++ comp x (strip y)
    rw [ih, e]; rfl
  | .keep :: _ => rfl
  | .drop :: _ => rfl
theorem puts_head_ins (q : List UInt8) (l : List Atom) : puts (q.map Atom.ins ++ l) = (q ++ (puts l).headD []) :: (puts l).tail := by
  obtain ⟨p, ps, e, _⟩ := puts_cons l
  induction q with
  | nil => rw [List.map_nil, List.nil_append, e]; rfl
  | cons b q ih =>
    show consHead b (puts (q.map Atom.ins ++ l)) = _
    rw [ih]; rfl
theorem stays_head_ins (q : List UInt8) (l : List Atom) : stays (q.map Atom.ins ++ l) = stays l := by rw [stays_append, stays_ins]; rfl
theorem inn_nil : ∀ (Sc : List Bool) (Pc : List (List UInt8)), inn Sc Pc [] = []
  | [], _ => by simp [inn]
  | _ :: _, [] => by simp [inn]
  | _ :: _, [_] => by simp [inn]
  | _ :: _, _ :: _ :: _ => by simp [inn]
theorem inn_cons {sc : Bool} {Sc : List Bool} {r q : List UInt8} {Pc : List (List UInt8)} {b : UInt8} {s : List UInt8} : inn (sc :: Sc) (r :: q :: Pc) (b :: s) = (if sc = true then [b] else []) ++ q ++ inn Sc (q :: Pc) s := by rw [inn]
theorem cmpG_ins (be : List UInt8) (b : UInt8) {Sb : List Bool} {p : List UInt8} {Pb : List (List UInt8)} {sc : Bool} {Sc : List Bool} {r q : List UInt8} {Pc : List (List UInt8)} :
    cmpG be Sb ((b :: p) :: Pb) (sc :: Sc) (r :: q :: Pc) = cmpG (be ++ (if sc = true then [b] else []) ++ q) Sb (p :: Pb) Sc (q :: Pc) := by
  cases Sb with
  | nil =>
    simp only [cmpG, inn_cons, List.append_assoc]
  | cons sb Sb =>
    simp only [cmpG, inn_cons, List.append_assoc, List.length_cons, List.drop_succ_cons]
def front (be : List UInt8) (l : List Atom) : List Bool × List (List UInt8) := (stays l, (be ++ (puts l).headD []) :: (puts l).tail)
theorem front_ins (be q : List UInt8) (l : List Atom) : front be (q.map Atom.ins ++ l) = front (be ++ q) l := by
  unfold front
  rw [stays_head_ins, puts_head_ins]
  simp
theorem cmpG_eq : ∀ (x : List Atom) (be : List UInt8) (y : List Atom), nT x = nS y → cmpG be (stays x) (puts x) (stays y) (puts y) = front be (comp x (strip y))
  | [], be, y, h => by
    have : strip y = [] := by
      have hn : nS (strip y) = 0 := by rw [strip_nS]; exact h.symm
      match hs : strip y with
      | [] => rfl
      | .ins b :: l =>
        exfalso
        have := strip_puts y
        rw [hs] at this
        obtain ⟨p, ps, e, _⟩ := puts_cons l
        simp only [puts, e, consHead] at this
        injection this with h1 _
        cases h1
      | .keep :: l => rw [hs] at hn; simp [nS] at hn
      | .drop :: l => rw [hs] at hn; simp [nS] at hn
    rw [this]
    simp [comp, front, stays, puts, cmpG, inn]
  | .ins b :: x, be, y, h => by
    obtain ⟨p, ps, e, _⟩ := puts_cons x
    have hs := strip_stays y
    have hp := strip_puts y
    have hn : nS (strip y) = nT x + 1 := by rw [strip_nS]; exact h.symm
    have hpl : puts y = (puts y).headD [] :: (puts y).tail := by obtain ⟨a, as, e2, _⟩ := puts_cons y; rw [e2]; rfl
    match hy : strip y, hn with
    | .ins c :: l, _ =>
      exfalso
      rw [hy] at hp
      obtain ⟨p', ps', e', _⟩ := puts_cons l
      simp only [puts, e', consHead] at hp
      injection hp with h1 _
      cases h1
    | [], hn => simp [nS] at hn
    | .keep :: l, hn =>
      rw [hy] at hs hp
      simp only [stays, puts] at hs hp
      injection hp with _ hp
      obtain ⟨q, qs, e3, _⟩ := puts_cons l
      have ih := cmpG_eq x (be ++ [b] ++ q) l (by simpa [nS] using hn.symm)
      rw [comp]
      show cmpG be (stays x) (consHead b (puts x)) (stays y) (puts y) = _
      rw [← hs, hpl, ← hp, e, e3]
      show cmpG be (stays x) ((b :: p) :: ps) (true :: stays l) (_ :: q :: qs) = _
      rw [cmpG_ins, if_pos rfl, ← e3, ← e, ih]
      show _ = front be (.ins b :: comp x l)
      rw [comp_strip x l, e3]
      rw [show (Atom.ins b :: (List.map Atom.ins ((q :: qs).headD []) ++ comp x (strip l))) = (b :: q).map Atom.ins ++ comp x (strip l) from rfl, front_ins]
      simp
    | .drop :: l, hn =>
      rw [hy] at hs hp
      simp only [stays, puts] at hs hp
      injection hp with _ hp
      obtain ⟨q, qs, e3, _⟩ := puts_cons l
      have ih := cmpG_eq x (be ++ [] ++ q) l (by simpa [nS] using hn.symm)
      rw [comp]
      show cmpG be (stays x) (consHead b (puts x)) (stays y) (puts y) = _
      rw [← hs, hpl, ← hp, e, e3]
      show cmpG be (stays x) ((b :: p) :: ps) (false :: stays l) (_ :: q :: qs) = _
      rw [cmpG_ins, if_neg (by simp), ← e3, ← e, ih]
      rw [comp_strip x l, e3, show ((q :: qs).headD []) = q from rfl, front_ins]
      simp
  | .keep :: x, be, y, h => by
    have hs := strip_stays y
    have hp := strip_puts y
    have hn : nS (strip y) = nT x + 1 := by rw [strip_nS]; exact h.symm
    have hpl : puts y = (puts y).headD [] :: (puts y).tail := by obtain ⟨a, as, e2, _⟩ := puts_cons y; rw [e2]; rfl
    match hy : strip y, hn with
    | .ins c :: l, _ =>
      exfalso
      rw [hy] at hp
      obtain ⟨p', ps', e', _⟩ := puts_cons l
      simp only [puts, e', consHead] at hp
      injection hp with h1 _
      cases h1
    | [], hn => simp [nS] at hn
    | .keep :: l, hn =>
      rw [hy] at hs hp
      simp only [stays, puts] at hs hp
      injection hp with _ hp
      obtain ⟨q, qs, e3, _⟩ := puts_cons l
      have ih := cmpG_eq x q l (by simpa [nS] using hn.symm)
      rw [comp]
      show cmpG be (true :: stays x) ([] :: puts x) (stays y) (puts y) = _
      rw [← hs, hpl, ← hp, e3]
      simp only [cmpG, if_true, List.length_nil, List.drop_zero, List.getD_cons_zero, List.getD_cons_succ, List.drop_succ_cons, inn, List.append_nil]
      rw [← e3, ih]
      unfold front
      simp only [stays, puts, List.headD_cons, List.tail_cons, List.append_nil]
      rw [comp_strip x l, e3, stays_head_ins, puts_head_ins]
      simp
    | .drop :: l, hn =>
      rw [hy] at hs hp
      simp only [stays, puts] at hs hp
      injection hp with _ hp
      obtain ⟨q, qs, e3, _⟩ := puts_cons l
      have ih := cmpG_eq x q l (by simpa [nS] using hn.symm)
      rw [comp]
      show cmpG be (true :: stays x) ([] :: puts x) (stays y) (puts y) = _
      rw [← hs, hpl, ← hp, e3]
      simp only [cmpG, if_true, List.length_nil, List.drop_zero, List.getD_cons_zero, List.getD_cons_succ, List.drop_succ_cons, inn, List.append_nil]
      rw [← e3, ih]
      unfold front
      simp only [stays, puts, List.headD_cons, List.tail_cons, List.append_nil]
      rw [comp_strip x l, e3, stays_head_ins, puts_head_ins]
      simp
  | .drop :: x, be, y, h => by
    have ih := cmpG_eq x [] y h
    have hc : comp (.drop :: x) (strip y) = .drop :: comp x (strip y) := by
      match hy : strip y with
      | .ins c :: l =>
        exfalso
        have hp := strip_puts y
        rw [hy] at hp
        obtain ⟨p', ps', e', _⟩ := puts_cons l
        simp only [puts, e', consHead] at hp
        injection hp with h1 _
        cases h1
      | [] => rw [comp]
      | .keep :: l => rw [comp]
      | .drop :: l => rw [comp]
    rw [hc]
    show cmpG be (false :: stays x) ([] :: puts x) (stays y) (puts y) = _
    simp only [cmpG, Bool.false_eq_true, if_false, List.length_nil, List.drop_zero, inn_nil, List.append_nil]
    rw [ih]
    unfold front
    simp only [stays, puts, List.headD_cons, List.tail_cons, List.append_nil, List.nil_append]
    obtain ⟨a, as, e2, _⟩ := puts_cons (comp x (strip y))
    rw [e2]; rfl
theorem cmpG_comp (x y : List Atom) (h : nT x = nS y) : cmpG ((puts y).headD []) (stays x) (puts x) (stays y) (puts y) = (stays (comp x y), puts (comp x y)) := by
  rw [cmpG_eq x _ y h, comp_strip x y, stays_head_ins, puts_head_ins]; rfl
end Go.V.G

set_option linter.unusedVariables false
set_option linter.unusedSimpArgs false
set_option maxRecDepth 100000
namespace Go.V.G
open Go.V
def tot (P : List (List UInt8)) : Nat := (P.map List.length).sum
theorem tot_cons (p : List UInt8) (P : List (List UInt8)) : tot (p :: P) = p.length + tot P := by simp [tot]
theorem tot_drop (P : List (List UInt8)) : ∀ n, tot (P.drop n) ≤ tot P := by
  induction P with
  | nil => intro n; simp [tot]
  | cons p P ih =>
    intro n
    cases n with
    | zero => simp
    | succ n => rw [List.drop_succ_cons, tot_cons]; have := ih n; omega
theorem tot_mem : ∀ {P : List (List UInt8)} {p : List UInt8}, p ∈ P → p.length ≤ tot P
  | q :: P, p, h => by
    rw [tot_cons]
    rcases List.mem_cons.1 h with rfl | h
    · omega
    · have := tot_mem h; omega
def nTrue : List Bool → Nat
  | [] => 0
  | b :: l => (if b = true then 1 else 0) + nTrue l
def rem (S : List Bool) (P : List (List UInt8)) : Nat := tot P + nTrue S
theorem tot_puts : ∀ l : List Atom, tot (puts l) = nIns l
  | [] => rfl
  | .ins b :: l => by
    obtain ⟨p, ps, e, _⟩ := puts_cons l
    have ih := tot_puts l
    show tot (consHead b (puts l)) = nIns l + 1
    rw [e] at ih ⊢
    simp only [consHead, tot_cons, List.length_cons] at ih ⊢; omega
  | .keep :: l => by show tot ([] :: puts l) = nIns l; rw [tot_cons, tot_puts l]; simp
  | .drop :: l => by show tot ([] :: puts l) = nIns l; rw [tot_cons, tot_puts l]; simp
theorem nTrue_stays : ∀ l : List Atom, nTrue (stays l) = nK l
  | [] => rfl
  | .ins _ :: l => nTrue_stays l
  | .keep :: l => by show 1 + nTrue (stays l) = nK l + 1; rw [nTrue_stays l]; omega
  | .drop :: l => by show 0 + nTrue (stays l) = nK l; rw [nTrue_stays l]; omega
theorem rem_nT (l : List Atom) : rem (stays l) (puts l) = nT l := by rw [rem, tot_puts, nTrue_stays, nT_eq]
theorem inn_len : ∀ (Sc : List Bool) (Pc : List (List UInt8)) (s : List UInt8), (inn Sc Pc s).length ≤ s.length + tot Pc.tail
  | [], _, s => by simp [inn]
  | _ :: _, [], s => by simp [inn]
  | _ :: _, [_], s => by simp [inn]
  | _ :: _, _ :: _ :: _, [] => by rw [inn_nil]; simp
  | sc :: Sc, r :: q :: Pc, b :: s => by
    have ih := inn_len Sc (q :: Pc) s
    rw [inn_cons]
    simp only [List.length_append, List.length_cons, List.tail_cons, tot_cons] at ih ⊢
    split <;> simp <;> omega
theorem inn_snoc : ∀ (s : List UInt8) (Sc : List Bool) (Pc : List (List UInt8)) (b : UInt8) (h1 : s.length < Sc.length) (h2 : Pc.length = Sc.length + 1),
    inn Sc Pc (s ++ [b]) = inn Sc Pc s ++ ((if Sc[s.length] = true then [b] else []) ++ Pc[s.length + 1]'(by omega))
  | [], sc :: Sc, r :: q :: Pc, b, h1, h2 => by simp [inn_cons, inn_nil]
  | [], sc :: Sc, [], b, h1, h2 => by simp at h2
  | [], sc :: Sc, [_], b, h1, h2 => by simp at h2
  | [], [], _, b, h1, h2 => by simp at h1
  | a :: s, [], _, b, h1, h2 => by simp at h1
  | a :: s, sc :: Sc, [], b, h1, h2 => by simp at h2
  | a :: s, sc :: Sc, [_], b, h1, h2 => by simp at h2
  | a :: s, sc :: Sc, r :: q :: Pc, b, h1, h2 => by
    have ih := inn_snoc s Sc (q :: Pc) b (by simpa using h1) (by simpa using h2)
    rw [List.cons_append, inn_cons, inn_cons, ih]
    simp [List.append_assoc]
structure CR (Sb : List Bool) (Pb : List (List UInt8)) (Sc : List Bool) (Pc : List (List UInt8)) : Prop where
  x : Pb.length = Sb.length + 1
  y : Pc.length = Sc.length + 1
  r : rem Sb Pb = Sc.length
  n : Sb.length ≤ 1000
  m : Sc.length ≤ 1000
  py : tot Pc ≤ 1000
theorem rem_drop {S : List Bool} {P : List (List UInt8)} (h : P.length = S.length + 1) {g : Nat} (hg : g < P.length) : rem (S.drop g) (P.drop g) = P[g].length + (if h : g < S.length then (if S[g] = true then 1 else 0) else 0) + rem (S.drop (g + 1)) (P.drop (g + 1)) := by
  rw [List.drop_eq_getElem_cons hg]
  by_cases hs : g < S.length
  · rw [List.drop_eq_getElem_cons hs, dif_pos hs]
    simp only [rem, tot_cons, nTrue]; omega
  · rw [dif_neg hs, List.drop_eq_nil_of_le (show S.length ≤ g by omega), List.drop_eq_nil_of_le (show S.length ≤ g + 1 by omega)]
    simp only [rem, tot_cons, nTrue]; omega
section
variable {Sb : List Bool} {Pb : List (List UInt8)} {Sc : List Bool} {Pc : List (List UInt8)} (h : CR Sb Pb Sc Pc)
include h
theorem cmpG_at {g t : Nat} (hg : g < Pb.length) (be : List UInt8) (ht : t + rem (Sb.drop g) (Pb.drop g) = Sc.length) :
    t + Pb[g].length ≤ Sc.length ∧ (g = Sb.length → cmpG be (Sb.drop g) (Pb.drop g) (Sc.drop t) (Pc.drop t) = ([], [be ++ inn (Sc.drop t) (Pc.drop t) Pb[g]])) ∧
    ∀ h1 : g < Sb.length, (Sb[g] = false → t + Pb[g].length + rem (Sb.drop (g + 1)) (Pb.drop (g + 1)) = Sc.length ∧ cmpG be (Sb.drop g) (Pb.drop g) (Sc.drop t) (Pc.drop t) =
        (false :: (cmpG [] (Sb.drop (g + 1)) (Pb.drop (g + 1)) (Sc.drop (t + Pb[g].length)) (Pc.drop (t + Pb[g].length))).1, (be ++ inn (Sc.drop t) (Pc.drop t) Pb[g]) :: (cmpG [] (Sb.drop (g + 1)) (Pb.drop (g + 1)) (Sc.drop (t + Pb[g].length)) (Pc.drop (t + Pb[g].length))).2)) ∧
      (Sb[g] = true → t + Pb[g].length + 1 + rem (Sb.drop (g + 1)) (Pb.drop (g + 1)) = Sc.length ∧ ∃ (h2 : t + Pb[g].length < Sc.length) (h3 : t + Pb[g].length + 1 < Pc.length), cmpG be (Sb.drop g) (Pb.drop g) (Sc.drop t) (Pc.drop t) =
        (Sc[t + Pb[g].length] :: (cmpG Pc[t + Pb[g].length + 1] (Sb.drop (g + 1)) (Pb.drop (g + 1)) (Sc.drop (t + Pb[g].length + 1)) (Pc.drop (t + Pb[g].length + 1))).1,
          (be ++ inn (Sc.drop t) (Pc.drop t) Pb[g]) :: (cmpG Pc[t + Pb[g].length + 1] (Sb.drop (g + 1)) (Pb.drop (g + 1)) (Sc.drop (t + Pb[g].length + 1)) (Pc.drop (t + Pb[g].length + 1))).2)) := by
  obtain ⟨hx, hy, hr, hn, hm, hpy⟩ := h
  have rd := rem_drop hx hg
  rw [rd] at ht
  refine ⟨by omega, fun he => ?_, fun h1 => ⟨fun hb => ⟨?_, ?_⟩, fun hb => ⟨?_, ?_⟩⟩⟩
  · subst he
    rw [List.drop_length, List.drop_eq_getElem_cons hg]
    simp [cmpG]
  · simp only [h1, hb, Bool.false_eq_true, if_false, dif_pos] at ht; omega
  · rw [List.drop_eq_getElem_cons hg, List.drop_eq_getElem_cons h1, hb]
    simp only [cmpG, Bool.false_eq_true, if_false, List.drop_drop]
  · simp only [h1, hb, if_true, dif_pos] at ht; omega
  · simp only [h1, hb, if_true, dif_pos] at ht
    have h2 : t + Pb[g].length < Sc.length := by omega
    have h3 : t + Pb[g].length + 1 < Pc.length := by omega
    refine ⟨h2, h3, ?_⟩
    rw [List.drop_eq_getElem_cons hg, List.drop_eq_getElem_cons h1, hb]
    simp only [cmpG, if_true, List.drop_drop]
    have e1 : (Sc.drop (t + Pb[g].length)).getD 0 false = Sc[t + Pb[g].length] := by rw [List.drop_eq_getElem_cons h2]; rfl
    have e2 : (Pc.drop (t + Pb[g].length)).getD 1 [] = Pc[t + Pb[g].length + 1] := by
      rw [List.drop_eq_getElem_cons (by omega), List.drop_eq_getElem_cons h3]; rfl
    rw [e1, e2]
end
end Go.V.G

set_option linter.unusedVariables false
set_option linter.unusedSimpArgs false
set_option maxRecDepth 100000
namespace Go.V.G
open Go.V
def stP (S : List Bool) (k : Nat) : List Prt := match S[k]? with
  | some true => [(1, 0, [])]
  | some false => [(0, 1, [])]
  | none => []
theorem closeP_step {S : List Bool} {P : List (List UInt8)} (h : P.length = S.length + 1) {k : Nat} (hk : k < P.length) : closeP (S.drop k) (P.drop k) = (0, 0, P[k]) :: (stP S k ++ closeP (S.drop (k + 1)) (P.drop (k + 1))) := by
  rw [List.drop_eq_getElem_cons hk]
  by_cases hs : k < S.length
  · rw [List.drop_eq_getElem_cons hs]
    simp only [closeP, stP, List.getElem?_eq_getElem hs]
    cases S[k] <;> rfl
  · rw [List.drop_eq_nil_of_le (show S.length ≤ k by omega), List.drop_eq_nil_of_le (show S.length ≤ k + 1 by omega), List.drop_eq_nil_of_le (show P.length ≤ k + 1 by omega)]
    simp [closeP, stP, List.getElem?_eq_none (show S.length ≤ k by omega)]
structure PR (S : List Bool) (P : List (List UInt8)) : Prop where
  x : P.length = S.length + 1
  n : S.length ≤ 1000
  p : ∀ q ∈ P, q.length ≤ 1000
theorem s_close_eq {S : List Bool} {P : List (List UInt8)} (h : PR S P) : Ok (s_l1Close S P) fun z => z = norm (closeP S P) ∧ Sm 4004004 z := by
  unfold s_l1Close
  refine Ok.bind (Q := fun z => z = norm (closeP S P) ∧ Sm 4004004 z) ?_ (fun z hz => Ok.mk hz)
  refine Ok.loop (fun y => y.2.1 = P ∧ y.2.2.1 = ((List.length P : Nat) : Int) ∧ y.2.2.2.2.1 = S ∧ ∃ k : Nat, y.2.2.2.1 = ((k : Nat) : Int) ∧ k ≤ P.length ∧ Sm (k * 4000) y.1 ∧ (closeP (S.drop k) (P.drop k)).foldl addp y.1 = norm (closeP S P)) (fun y => (((List.length P : Nat) : Int) - y.2.2.2.1).toNat)
    ⟨rfl, rfl, rfl, 0, rfl, Nat.zero_le _, Sm.nil _, rfl⟩ ?_
  rintro ⟨o, p1, n, k', s, p2⟩ ⟨e1, e2, e3, k, e4, hk, ho, hf⟩
  dsimp only at e1 e2 e3 e4 ho hf
  subst e1 e2 e3 e4
  obtain ⟨hx, hn, hp⟩ := h
  have z := one_I.2
  unfold s_l1Close_L1
  dsimp only
  refine Ok.ite (fun hc => ?_) fun hc => ?_
  · have hlt : k < p1.length := by simpa using hc
    have lp := hp _ (List.getElem_mem hlt)
    rw [closeP_step hx hlt, List.foldl_cons, List.foldl_append] at hf
    have so : Sm (k * 4000 + 1000) (addp o (0, 0, p1[k])) := addp_sm ho ⟨z, z⟩ (by omega) (by dsimp only; omega)
    refine Ok.yes (by simp) (Ok.bind_eq (r := p1[k]) (by simp [List.getElem?_eq_getElem hlt]) (Ok.bind_eq (s_l1Add_eq ho (by omega) 0 0 _ (by omega)) ?_))
    refine Ok.bind (Q := fun v => v = ((stP s k).foldl addp (addp o (0, 0, p1[k])), p1, ((List.length p1 : Nat) : Int), ((k : Nat) : Int), s, p2)) ?_ ?_
    · refine Ok.ite (fun hq => ?_) fun hq => Ok.mk ?_
      · have hks : k < s.length := by
          have : ((k : Nat) : Int) < ((List.length s : Nat) : Int) := by simpa using hq
          omega
        refine Ok.yes (by simp) (Ok.bind_eq (r := s[k]) (by simp [List.getElem?_eq_getElem hks]) ?_)
        refine Ok.bind (Q := fun v => v = ((stP s k).foldl addp (addp o (0, 0, p1[k])), p1, ((List.length p1 : Nat) : Int), ((k : Nat) : Int), s, p2)) ?_ (fun v hv => Ok.mk hv)
        simp only [stP, List.getElem?_eq_getElem hks]
        cases s[k] with
        | true => exact Ok.yes rfl (Ok.bind_eq (s_l1Add_eq so (by omega) 1 0 [] (by simp)) (Ok.mk rfl))
        | false => exact Ok.no (by simp) (Ok.bind_eq (s_l1Add_eq so (by omega) 0 1 [] (by simp)) (Ok.mk rfl))
      · have : s.length ≤ k := by
          have : ¬ ((k : Nat) : Int) < ((List.length s : Nat) : Int) := by simpa using hq
          omega
        simp [stP, List.getElem?_eq_none this]
    rintro _ rfl
    dsimp only
    have so4 : Sm ((k + 1) * 4000) ((stP s k).foldl addp (addp o (0, 0, p1[k]))) := by
      unfold stP
      split
      · exact addp_sm (p := (1, 0, [])) (C := (k + 1) * 4000) so ⟨one_I.1, z⟩ (by omega) (by simp; omega)
      · exact addp_sm (p := (0, 1, [])) (C := (k + 1) * 4000) so ⟨z, one_I.1⟩ (by omega) (by simp; omega)
      · exact so.mono (by omega)
    exact Ok.mk ⟨⟨rfl, rfl, rfl, k + 1, idx_succ (n := p1.length) (by omega) hlt, by omega, so4, hf⟩, by rw [idx_succ (n := p1.length) (by omega) hlt]; dsimp only; omega⟩
  · have : k = p1.length := by
      have : ¬ ((k : Int) < ((List.length p1 : Nat) : Int)) := by simpa using hc
      omega
    subst this
    refine Ok.mk ⟨?_, ho.mono (by omega)⟩
    rw [← hf, List.drop_length, List.drop_eq_nil_of_le (show s.length ≤ p1.length by omega)]; rfl
section
variable {Sb : List Bool} {Pb : List (List UInt8)} {Sc : List Bool} {Pc : List (List UInt8)} (h : CR Sb Pb Sc Pc)
include h
theorem s_compose_inner {t g : Nat} {n g2 : Int} {s text : List UInt8} {oS : List Bool} {oP : List (List UInt8)} (hs : t + s.length ≤ Sc.length) (ht : text.length ≤ 1000) (hg : oP[g]? = some text) :
    loopG s_l1Compose_L1 (((t : Nat) : Int), ((g : Nat) : Int), s, 0, Pb, n, g2, Sb, Sc, Pc, oS, oP) =
      some (((t + s.length : Nat) : Int), ((g : Nat) : Int), Pb, n, g2, Sb, Sc, Pc, oS, oP.set g (text ++ inn (Sc.drop t) (Pc.drop t) s)) := by
  obtain ⟨hx, hy, hr, hn, hm, hpy⟩ := h
  have hgl : g < oP.length := (List.getElem?_eq_some_iff.1 hg).1
  have h0 : oP.set g text = oP := by
    have := (List.getElem?_eq_some_iff.1 hg).2
    rw [← this]; exact List.set_getElem_self hgl
  have := loop_run s_l1Compose_L1 (fun i => (((t + i : Nat) : Int), ((g : Nat) : Int), s, ((i : Nat) : Int), Pb, n, g2, Sb, Sc, Pc, oS, oP.set g (text ++ inn (Sc.drop t) (Pc.drop t) (s.take i)))) s.length
    (((t + s.length : Nat) : Int), ((g : Nat) : Int), Pb, n, g2, Sb, Sc, Pc, oS, oP.set g (text ++ inn (Sc.drop t) (Pc.drop t) s)) (by
      intro i hi
      have hti : t + i < Sc.length := by omega
      have htp : t + i + 1 < Pc.length := by omega
      have hl : (s.take i).length = i := by rw [List.length_take]; omega
      have sn := inn_snoc (s.take i) (Sc.drop t) (Pc.drop t) s[i] (by rw [hl, List.length_drop]; omega) (by rw [List.length_drop, List.length_drop]; omega)
      rw [← List.take_succ_eq_append_getElem hi] at sn
      simp only [hl, List.getElem_drop] at sn
      have il := inn_len (Sc.drop t) (Pc.drop t) (s.take i)
      have tl : tot (Pc.drop t).tail ≤ tot Pc := by rw [List.tail_drop]; exact tot_drop _ _
      have pq : (Pc[t + i + 1]).length ≤ tot Pc := tot_mem (List.getElem_mem htp)
      have e1 : IntKind.wrap .i64 (((i : Nat) : Int) + 1) = ((i + 1 : Nat) : Int) := idx_succ (n := s.length) (by omega) hi
      have e2 : IntKind.wrap .i64 (((t + i : Nat) : Int) + 1) = ((t + i + 1 : Nat) : Int) := idx_succ (n := Sc.length) (by omega) hti
      have g0 : (0 : Int) ≤ ((t + i : Nat) : Int) := by omega
      have g1 : ((t + i : Nat) : Int) < ((List.length Sc : Nat) : Int) := by omega
      have g2' : (0 : Int) ≤ ((i : Nat) : Int) := by omega
      have g3 : ((i : Nat) : Int) ≤ ((i + 1 : Nat) : Int) := by omega
      have g4 : ((i + 1 : Nat) : Int) ≤ ((List.length s : Nat) : Int) := by omega
      have g5 : ((i : Nat) : Int) < ((List.length s : Nat) : Int) := by omega
      have g6 : ((t + i + 1 : Nat) : Int) < ((List.length Pc : Nat) : Int) := by omega
      have g7 : (0 : Int) ≤ ((t + i + 1 : Nat) : Int) := by omega
      have g8 : (0 : Int) ≤ ((g : Nat) : Int) := by omega
      have cut : (s.drop i).take (i + 1 - i) = [s[i]] := by rw [show i + 1 - i = 1 by omega, List.drop_eq_getElem_cons hi]; rfl
      have b1 : List.length (text ++ inn (Sc.drop t) (Pc.drop t) (s.take i)) + List.length [s[i]] ≤ 9223372036854775807 := by rw [List.length_append]; simp only [List.length_singleton]; omega
      have b2 : ∀ z : List UInt8, z.length ≤ 1 → List.length (text ++ inn (Sc.drop t) (Pc.drop t) (s.take i) ++ z) + List.length (Pc[t + i + 1]) ≤ 9223372036854775807 := fun z hz => by rw [List.length_append, List.length_append]; omega
      have gl : ∀ z, ((g : Nat) : Int) < ((List.length (oP.set g z) : Nat) : Int) := fun z => by rw [List.length_set]; omega
      have gs : ∀ z, (oP.set g z)[g]? = some z := fun z => List.getElem?_set_self hgl
      unfold s_l1Compose_L1
      simp only [g0, g1, g2', g3, g4, g5, g8, gl, gs, e1, e2, decide_true, if_true, Int.toNat_natCast, Nat.zero_add, List.getElem?_eq_getElem hti, Option.bind_some, Int.le_refl, cut, b1, List.set_set]
      cases hb : Sc[t + i] with
      | true =>
        rw [hb, if_pos rfl] at sn
        have b3 := b2 [s[i]] (by simp)
        simp only [if_true, Option.bind_some, e1, e2, g6, g7, g8, gl, gs, decide_true, Int.toNat_natCast, List.getElem?_eq_getElem htp, b3, List.set_set]
        simp only [sn, List.append_assoc, Nat.add_assoc]
      | false =>
        rw [hb, if_neg (by simp)] at sn
        have b3 := b2 [] (by simp)
        rw [List.append_nil] at b3
        simp only [Bool.false_eq_true, if_false, Option.bind_some, e1, e2, g6, g7, g8, gl, gs, decide_true, if_true, Int.toNat_natCast, List.getElem?_eq_getElem htp, b3, List.set_set]
        simp only [sn, List.append_assoc, Nat.add_assoc, List.nil_append]) (by
      simp only [List.take_length]
      simp [s_l1Compose_L1])
  simpa [inn_nil, h0] using this
theorem s_compose_loop (be : List UInt8) (hbe : be.length ≤ 1000) : loopG s_l1Compose_L2 (0, Pb, ((List.length Pb : Nat) : Int), 0, Sb, Sc, Pc, [], be :: List.replicate (Pb.length - 1) []) = some (cmpG be Sb Pb Sc Pc) := by
  refine Ok.eq (Ok.loop (fun y => y.2.1 = Pb ∧ y.2.2.1 = ((List.length Pb : Nat) : Int) ∧ y.2.2.2.2.1 = Sb ∧ y.2.2.2.2.2.1 = Sc ∧ y.2.2.2.2.2.2.1 = Pc ∧ ∃ (t g : Nat) (be2 : List UInt8) (done : List (List UInt8)), y.1 = ((t : Nat) : Int) ∧ y.2.2.2.1 = ((g : Nat) : Int) ∧ g < Pb.length ∧
      be2.length ≤ 1000 ∧ t + rem (Sb.drop g) (Pb.drop g) = Sc.length ∧ y.2.2.2.2.2.2.2.1.length = g ∧ done.length = g ∧ y.2.2.2.2.2.2.2.2 = done ++ be2 :: List.replicate (Pb.length - 1 - g) [] ∧
      (y.2.2.2.2.2.2.2.1 ++ (cmpG be2 (Sb.drop g) (Pb.drop g) (Sc.drop t) (Pc.drop t)).1, done ++ (cmpG be2 (Sb.drop g) (Pb.drop g) (Sc.drop t) (Pc.drop t)).2) = cmpG be Sb Pb Sc Pc) (fun y => (((List.length Pb : Nat) : Int) - y.2.2.2.1).toNat)
    ⟨rfl, rfl, rfl, rfl, rfl, 0, 0, be, [], rfl, rfl, by rw [h.x]; omega, hbe, by have := h.r; simpa using this, rfl, rfl, by simp, by simp⟩ ?_)
  rintro ⟨t', pb, n, g', sb, sc, pc, oS, oP⟩ ⟨e1, e2, e3, e4, e5, t, g, be', done, e6, e7, hg, hbe', hrem, hoS, hdone, hoP, hf⟩
  dsimp only at e1 e2 e3 e4 e5 e6 e7 hbe' hoS hoP hf
  subst e1 e2 e3 e4 e5 e6 e7 hoP
  have hCR := h
  obtain ⟨hx, hy, hr, hn, hm, hpy⟩ := h
  obtain ⟨c1, c2, c3⟩ := cmpG_at hCR hg be' hrem
  unfold s_l1Compose_L2
  dsimp only
  refine Ok.yes (by simpa using hg) ?_
  have r1 : ∀ z : Bool, roomFor (List.length oS + List.length [z]) 1 = true := fun z => room1 (by omega) (by omega)
  have hat : (done ++ be' :: List.replicate (pb.length - 1 - g) ([] : List UInt8))[g]? = some be' := by rw [List.getElem?_append_right (by omega), hdone, Nat.sub_self]; rfl
  have hin := s_compose_inner hCR (g := g) (n := ((List.length pb : Nat) : Int)) (g2 := ((g : Nat) : Int)) (oS := oS) c1 hbe' hat
  have hset : (done ++ be' :: List.replicate (pb.length - 1 - g) ([] : List UInt8)).set g (be' ++ inn (sc.drop t) (pc.drop t) pb[g]) = done ++ (be' ++ inn (sc.drop t) (pc.drop t) pb[g]) :: List.replicate (pb.length - 1 - g) [] := by
    rw [List.set_append_right _ _ (by omega), hdone, Nat.sub_self]; rfl
  rw [hset] at hin
  refine Ok.bind (Q := fun v => match v with
      | .inl y => ∃ t2 be2 oS2 done2, y = (((t2 : Nat) : Int), pb, ((List.length pb : Nat) : Int), ((g : Nat) : Int), sb, sc, pc, oS2, done2 ++ be2 :: List.replicate (pb.length - 1 - (g + 1)) []) ∧ g + 1 < pb.length ∧ List.length be2 ≤ 1000 ∧ t2 + rem (sb.drop (g + 1)) (pb.drop (g + 1)) = sc.length ∧ List.length oS2 = g + 1 ∧ List.length done2 = g + 1 ∧
          (oS2 ++ (cmpG be2 (sb.drop (g + 1)) (pb.drop (g + 1)) (sc.drop t2) (pc.drop t2)).1, done2 ++ (cmpG be2 (sb.drop (g + 1)) (pb.drop (g + 1)) (sc.drop t2) (pc.drop t2)).2) = cmpG be sb pb sc pc
      | .inr z => z = cmpG be sb pb sc pc) ?_ ?_
  · refine Ok.yes (decide_eq_true (by omega)) (Ok.yes (by simpa using hg) (Ok.bind_eq (r := pb[g]) (by simp [List.getElem?_eq_getElem hg]) (Ok.bind_eq hin ?_)))
    dsimp only
    refine Ok.ite (fun hq => ?_) fun hq => ?_
    · have he : g = sb.length := by
        have : ((g : Nat) : Int) = ((List.length sb : Nat) : Int) := by simpa using hq
        omega
      rw [c2 he] at hf
      refine Ok.mk ?_
      rw [← hf, List.append_nil, show pb.length - 1 - g = 0 by omega]; rfl
    · have hks : g < sb.length := by
        have : ¬ ((g : Nat) : Int) = ((List.length sb : Nat) : Int) := by simpa using hq
        omega
      have rep : List.replicate (pb.length - 1 - g) ([] : List UInt8) = [] :: List.replicate (pb.length - 1 - (g + 1)) [] := by rw [show pb.length - 1 - g = (pb.length - 1 - (g + 1)) + 1 by omega, List.replicate_succ]
      refine Ok.yes (decide_eq_true (by omega)) (Ok.yes (by simpa using hks) (Ok.bind_eq (r := sb[g]) (by simp [List.getElem?_eq_getElem hks]) ?_))
      cases hb : sb[g] with
      | false =>
        obtain ⟨k1, k2⟩ := (c3 hks).1 hb
        rw [k2] at hf
        refine Ok.yes (by simp) (Ok.yes (r1 _) (Ok.mk ⟨t + pb[g].length, [], oS ++ [false], done ++ [be' ++ inn (sc.drop t) (pc.drop t) pb[g]], ?_, by omega, by simp, k1, by simp [hoS], by simp [hdone], ?_⟩))
        · rw [rep]; simp
        · rw [← hf]; simp
      | true =>
        obtain ⟨k1, k2, k3, k4⟩ := (c3 hks).2 hb
        rw [k4] at hf
        have e9 : IntKind.wrap .i64 (((t + pb[g].length : Nat) : Int) + 1) = ((t + pb[g].length + 1 : Nat) : Int) := idx_succ (n := sc.length) (by omega) k2
        have e10 : IntKind.wrap .i64 (((g : Nat) : Int) + 1) = ((g + 1 : Nat) : Int) := idx_succ (n := pb.length) (by omega) hg
        have hq2 : (pc[t + pb[g].length + 1]).length ≤ tot pc := tot_mem (List.getElem_mem k3)
        have hlen : (done ++ (be' ++ inn (sc.drop t) (pc.drop t) pb[g]) :: List.replicate (pb.length - 1 - g) ([] : List UInt8)).length = pb.length := by simp; omega
        have hget : (done ++ (be' ++ inn (sc.drop t) (pc.drop t) pb[g]) :: List.replicate (pb.length - 1 - g) ([] : List UInt8))[0 + Int.toNat ((g + 1 : Nat) : Int)]? = some [] := by
          rw [rep, Int.toNat_natCast, Nat.zero_add, List.getElem?_append_right (by omega), hdone, show g + 1 - g = 1 by omega]; rfl
        have hset2 : (done ++ (be' ++ inn (sc.drop t) (pc.drop t) pb[g]) :: List.replicate (pb.length - 1 - g) ([] : List UInt8)).set (0 + Int.toNat ((g + 1 : Nat) : Int)) pc[t + pb[g].length + 1] = (done ++ [be' ++ inn (sc.drop t) (pc.drop t) pb[g]]) ++ pc[t + pb[g].length + 1] :: List.replicate (pb.length - 1 - (g + 1)) [] := by
          rw [rep, Int.toNat_natCast, Nat.zero_add, List.set_append_right _ _ (by omega), hdone, show g + 1 - g = 1 by omega]; simp
        rw [e9, e10]
        refine Ok.no (by simp) (Ok.yes (decide_eq_true (by omega)) (Ok.yes (decide_eq_true (by omega)) (Ok.bind_eq (r := sc[t + pb[g].length]) (by rw [Nat.zero_add, Int.toNat_natCast]; exact List.getElem?_eq_getElem k2) (Ok.yes (r1 _)
          (Ok.yes (decide_eq_true (by omega)) (Ok.yes (decide_eq_true (by omega)) (Ok.bind_eq (r := pc[t + pb[g].length + 1]) (by rw [Nat.zero_add, Int.toNat_natCast]; exact List.getElem?_eq_getElem k3)
            (Ok.yes (decide_eq_true (by omega)) (Ok.yes (decide_eq_true (by rw [hlen]; omega)) (Ok.bind_eq hget (Ok.bind_eq hget (Ok.mk ⟨t + pb[g].length + 1, pc[t + pb[g].length + 1], oS ++ [sc[t + pb[g].length]], done ++ [be' ++ inn (sc.drop t) (pc.drop t) pb[g]], ?_, by omega, by omega, k1, by simp [hoS], by simp [hdone], ?_⟩))))))))))))
        · rw [hset2]
        · rw [← hf]; simp
  rintro (y | z) hv
  · obtain ⟨t2, be2, oS2, done2, rfl, k1, k2, k3, k4, k5, k6⟩ := hv
    dsimp only
    have e9 : IntKind.wrap .i64 (((g : Nat) : Int) + 1) = ((g + 1 : Nat) : Int) := idx_succ (n := pb.length) (by omega) hg
    rw [e9]
    exact Ok.mk ⟨⟨rfl, rfl, rfl, rfl, rfl, t2, g + 1, be2, done2, rfl, rfl, k1, k2, k3, k4, k5, rfl, k6⟩, by dsimp only; omega⟩
  · exact Ok.mk hv
end
end Go.V.G

set_option linter.unusedVariables false
set_option linter.unusedSimpArgs false
set_option maxRecDepth 100000
namespace Go.V.G
open Go.V
theorem comp_len : ∀ (x y : List Atom), nT x = nS y → nS (comp x y) = nS x ∧ nT (comp x y) = nT y := by
  intro x y
  induction x, y using comp.induct with
  | case1 x b y ih => intro h; rw [comp]; have := ih h; simp only [nS, nT]; omega
  | case2 x ih => intro h; rw [comp]; have := ih h; simp only [nS, nT] at this ⊢; omega
  | case3 x y ih => intro h; rw [comp]; have := ih h; simp only [nS, nT] at this ⊢; omega
  | case4 x y ih => intro h; rw [comp]; have := ih h; simp only [nS, nT] at this ⊢; omega
  | case5 b x y ih => intro h; rw [comp]; have := ih (by simpa [nS, nT] using h); simp only [nS, nT]; omega
  | case6 b x y ih => intro h; rw [comp]; have := ih (by simpa [nS, nT] using h); simp only [nS, nT]; omega
  | case7 x y ih => intro h; rw [comp]; have := ih (by simpa [nS, nT] using h); simp only [nS, nT]; omega
  | case8 x y ih => intro h; rw [comp]; have := ih (by simpa [nS, nT] using h); simp only [nS, nT]; omega
  | case9 x y h1 h2 h3 h4 h5 h6 h7 h8 =>
    intro g
    match x, y with
    | x, .ins b :: y => exact absurd rfl (h1 b y)
    | .drop :: x, [] => exact absurd rfl (h2 x rfl)
    | .drop :: x, .keep :: y => exact absurd rfl (h3 x y rfl)
    | .drop :: x, .drop :: y => exact absurd rfl (h4 x y rfl)
    | .ins b :: x, .keep :: y => exact absurd rfl (h5 b x y rfl)
    | .ins b :: x, .drop :: y => exact absurd rfl (h6 b x y rfl)
    | .keep :: x, .keep :: y => exact absurd rfl (h7 x y rfl)
    | .keep :: x, .drop :: y => exact absurd rfl (h8 x y rfl)
    | [], [] => simp [comp, nS, nT]
    | .ins b :: x, [] => simp [nS, nT] at g
    | .keep :: x, [] => simp [nS, nT] at g
    | [], .keep :: y => simp [nS, nT] at g
    | [], .drop :: y => simp [nS, nT] at g
end Go.V.G

set_option linter.unusedVariables false
set_option linter.unusedSimpArgs false
set_option maxRecDepth 100000
namespace Go.V.G
open Go.V
theorem cr_good {a b : List Prt} (ha : good a = true) (hb : good b = true) (h : tgt a = src b) : nT (atoms a) = nS (atoms b) ∧ CR (stays (atoms a)) (puts (atoms a)) (stays (atoms b)) (puts (atoms b)) := by
  have sa := okk_some (good_spec ha).1
  have sb := okk_some (good_spec hb).1
  have la := stays_len sa
  have lb := stays_len sb
  have ta := tgt_nT sa
  have tb := tgt_nT sb
  have sb' := src_nS sb
  have := (good_spec ha).2.1
  have := (good_spec hb).2.1
  have := (good_spec hb).2.2
  have hn : nT (atoms a) = nS (atoms b) := by omega
  refine ⟨hn, puts_len _, puts_len _, by rw [rem_nT, hn, nS_stays], by omega, by omega, ?_⟩
  rw [tot_puts]
  rw [nT_eq] at tb
  omega
theorem head_len (l : List Atom) : ((puts l).headD []).length ≤ nIns l := by
  obtain ⟨p, ps, e, _⟩ := puts_cons l
  have := put_le l p (by rw [e]; simp)
  rw [e]; exact this
def composed (a b : List Prt) : List Prt := norm (closeP (stays (comp (atoms a) (atoms b))) (puts (comp (atoms a) (atoms b))))
theorem composed_spec {a b : List Prt} (ha : good a = true) (hb : good b = true) (h : tgt a = src b) :
    good (composed a b) = true ∧ atoms (composed a b) = comp (atoms a) (atoms b) ∧ src (composed a b) = src a ∧ tgt (composed a b) = tgt b := by
  have sa := okk_some (good_spec ha).1
  have sb := okk_some (good_spec hb).1
  obtain ⟨hn, _⟩ := cr_good ha hb h
  obtain ⟨l1, l2⟩ := comp_len _ _ hn
  have hf := closeP_fine (stays (comp (atoms a) (atoms b))) (puts (comp (atoms a) (atoms b)))
  have he := closeP_atoms (comp (atoms a) (atoms b))
  have s1 := src_fine hf
  have t1 := tgt_fine hf
  rw [he] at s1 t1
  have s2 := src_nS sa
  have t2 := tgt_nT sb
  have := (good_spec ha).2.1
  have := (good_spec hb).2.2
  obtain ⟨k1, k2, k3, k4⟩ := norm_spec hf ⟨by omega, by omega⟩
  refine ⟨?_, by rw [← he]; exact k2, ?_, ?_⟩
  · unfold good
    rw [show okk 0 (composed a b) = true from k1, show src (composed a b) = src (closeP _ _) from k3, show tgt (composed a b) = tgt (closeP _ _) from k4]
    simp; omega
  · rw [show src (composed a b) = src (closeP _ _) from k3]; omega
  · rw [show tgt (composed a b) = tgt (closeP _ _) from k4]; omega
theorem pr_good {a b : List Prt} (ha : good a = true) (hb : good b = true) (h : tgt a = src b) : PR (stays (comp (atoms a) (atoms b))) (puts (comp (atoms a) (atoms b))) := by
  have sa := okk_some (good_spec ha).1
  have sb := okk_some (good_spec hb).1
  obtain ⟨hn, _⟩ := cr_good ha hb h
  obtain ⟨l1, l2⟩ := comp_len _ _ hn
  have s2 := src_nS sa
  have t2 := tgt_nT sb
  have := (good_spec ha).2.1
  have := (good_spec hb).2.2
  refine ⟨puts_len _, by rw [← nS_stays]; omega, fun q hq => ?_⟩
  have := put_le _ q hq
  rw [nT_eq] at l2
  omega
theorem s_compose_eq {a b : List Prt} (ha : good a = true) (hb : good b = true) (h : tgt a = src b) : s_l1Compose a b = some (composed a b) := by
  have sa := okk_some (good_spec ha).1
  have sb := okk_some (good_spec hb).1
  have := (good_spec ha).2.1
  have := (good_spec hb).2.1
  have t2 := tgt_nT sb
  have := (good_spec hb).2.2
  obtain ⟨hn, hCR⟩ := cr_good ha hb h
  have hl := head_len (atoms b)
  rw [nT_eq] at t2
  have hx := hCR.x
  have hnn := hCR.n
  unfold s_l1Compose
  rw [s_Open_eq (good_sm ha) (by omega) sa (by omega), s_Open_eq (good_sm hb) (by omega) sb (by omega), Option.bind_some, Option.bind_some]
  obtain ⟨q, qs, e, _⟩ := puts_cons (atoms b)
  have hlp := s_compose_loop hCR ((puts (atoms b)).headD []) (by omega)
  rw [cmpG_comp _ _ hn] at hlp
  have rep : List.replicate (Int.toNat ((List.length (puts (atoms a)) : Nat) : Int)) ([] : List UInt8) = [] :: List.replicate ((puts (atoms a)).length - 1) [] := by
    rw [Int.toNat_natCast, show (puts (atoms a)).length = ((puts (atoms a)).length - 1) + 1 by omega, List.replicate_succ, Nat.add_sub_cancel]
  dsimp only
  rw [rep]
  refine Ok.eq (Ok.yes (by simp) (Ok.yes (by simp) (Ok.yes (by simp [roomFor]; omega) (Ok.yes (by simp) (Ok.yes (by rw [e]; simp) (Ok.bind_eq (r := (puts (atoms b)).headD []) (by rw [e]; rfl) (Ok.yes (by simp) (Ok.yes (by simp) (Ok.bind_eq (r := []) rfl (Ok.bind_eq (r := []) rfl (Ok.bind_eq hlp ?_)))))))))))
  refine (s_close_eq (pr_good ha hb h)).bind ?_
  rintro _ ⟨rfl, _⟩
  exact Ok.mk rfl
theorem kd_range (p : Prt) : kd p = 0 ∨ kd p = 1 ∨ kd p = 2 ∨ kd p = 3 := by
  unfold kd; split; omega; split; omega; split <;> omega
end Go.V.G

set_option linter.unusedVariables false
set_option linter.unusedSimpArgs false
set_option maxRecDepth 100000
namespace Go.V.G
open Go.V
abbrev Rn := Int × Int
def rsum : List Rn → Int
  | [] => 0
  | r :: l => r.2 + rsum l
def revs : List Rn → List Int
  | [] => []
  | r :: l => List.replicate r.2.toNat r.1 ++ revs l
def alt : Option Int → List Rn → Bool
  | _, [] => true
  | p, r :: l => !(decide (p = some r.1)) && alt (some r.1) l
def lastR (p : Option Int) (l : List Rn) : Option Int := match l.getLast? with
  | none => p
  | some q => some q.1
theorem rsum_append : ∀ a b : List Rn, rsum (a ++ b) = rsum a + rsum b
  | [], b => by simp [rsum]
  | p :: a, b => by simp only [List.cons_append, rsum, rsum_append a b]; omega
theorem revs_append : ∀ a b : List Rn, revs (a ++ b) = revs a ++ revs b
  | [], b => rfl
  | p :: a, b => by simp only [List.cons_append, revs, revs_append a b, List.append_assoc]
theorem lastR_cons (p : Option Int) (r : Rn) (l : List Rn) : lastR p (r :: l) = lastR (some r.1) l := by
  cases l with
  | nil => rfl
  | cons q l =>
    obtain ⟨x, hx⟩ : ∃ x, (q :: l).getLast? = some x := ⟨_, List.getLast?_eq_some_getLast (by simp)⟩
    simp only [lastR, List.getLast?_cons_cons, hx]
theorem alt_append : ∀ (p : Option Int) (a b : List Rn), alt p (a ++ b) = (alt p a && alt (lastR p a) b)
  | p, [], b => by simp [alt, lastR]
  | p, r :: a, b => by
    rw [List.cons_append, alt, alt, alt_append (some r.1) a b, lastR_cons, Bool.and_assoc]
def Pos (l : List Rn) : Prop := ∀ q ∈ l, 1 ≤ q.2
theorem Pos.nil : Pos [] := fun q h => by cases h
theorem Pos.tail {r : Rn} {l : List Rn} (h : Pos (r :: l)) : Pos l := fun q hq => h q (by simp [hq])
theorem rsum_nonneg : ∀ {l : List Rn}, Pos l → 0 ≤ rsum l
  | [], _ => Int.le_refl _
  | r :: l, h => by
    have := h r (by simp); have := rsum_nonneg h.tail
    simp only [rsum]; omega
theorem rsum_mem : ∀ {l : List Rn}, Pos l → ∀ q ∈ l, q.2 ≤ rsum l
  | r :: l, h, q, hq => by
    have h1 := h r (by simp); have h2 := rsum_nonneg h.tail
    rcases List.mem_cons.1 hq with rfl | hq
    · simp only [rsum]; omega
    · have := rsum_mem h.tail q hq; simp only [rsum]; omega
theorem rlen_le : ∀ {l : List Rn}, Pos l → ((l.length : Nat) : Int) ≤ rsum l
  | [], _ => Int.le_refl _
  | r :: l, h => by
    have := h r (by simp); have := rlen_le h.tail
    simp only [rsum, List.length_cons]; omega
theorem revs_len : ∀ {l : List Rn}, Pos l → (((revs l).length : Nat) : Int) = rsum l
  | [], _ => rfl
  | r :: l, h => by
    have := h r (by simp); have := revs_len h.tail
    simp only [revs, rsum, List.length_append, List.length_replicate]; omega
def addr (l : List Rn) (r : Rn) : List Rn :=
  if r.2 = 0 then l else
  match l.getLast? with
  | none => [r]
  | some q => if q.1 = r.1 then l.dropLast ++ [(q.1, IntKind.wrap .i64 (q.2 + r.2))] else l ++ [r]
structure Rs (l : List Rn) (n : Int) : Prop where
  pos : Pos l
  sum : rsum l = n
  alt : alt none l = true
theorem Rs.nil : Rs [] 0 := ⟨Pos.nil, rfl, rfl⟩
theorem addr_spec {l : List Rn} {r : Rn} {n : Int} (h : Rs l n) (hr : 0 ≤ r.2) (hb : n + r.2 ≤ 1000000000) : Rs (addr l r) (n + r.2) ∧ revs (addr l r) = revs l ++ List.replicate r.2.toNat r.1 := by
  unfold addr
  split
  · rename_i h0
    rw [h0]; exact ⟨by rw [Int.add_zero]; exact h, by simp⟩
  · rename_i h0
    cases hg : l.getLast? with
    | none =>
      obtain rfl : l = [] := by simpa using hg
      refine ⟨⟨fun q hq => ?_, ?_, by simp [G.alt]⟩, by simp [revs]⟩
      · rw [List.mem_singleton.1 hq]; omega
      · have := h.sum; simp only [rsum] at this ⊢; omega
    | some q =>
      obtain ⟨l', rfl⟩ := List.getLast?_eq_some_iff.1 hg
      have hp := h.pos q (by simp)
      have hm := rsum_mem h.pos q (by simp)
      have hs := h.sum
      have ha := h.alt
      rw [rsum_append] at hs
      simp only [rsum] at hs
      rw [alt_append] at ha
      rw [h.sum] at hm
      have w : IntKind.wrap .i64 (q.2 + r.2) = q.2 + r.2 := w64 (by omega) (by omega)
      dsimp only
      split
      · rename_i he
        rw [List.dropLast_concat, w]
        refine ⟨⟨fun x hx => ?_, ?_, ?_⟩, ?_⟩
        · rcases List.mem_append.1 hx with hx | hx
          · exact h.pos x (by simp [hx])
          · rw [List.mem_singleton.1 hx]; dsimp only; omega
        · rw [rsum_append]; simp only [rsum]; omega
        · rw [alt_append]; exact ha
        · rw [revs_append, revs_append]
          simp only [revs, List.append_nil, List.append_assoc]
          rw [he, List.replicate_append_replicate]
          congr 2; omega
      · rename_i he
        refine ⟨⟨fun x hx => ?_, ?_, ?_⟩, ?_⟩
        · rcases List.mem_append.1 hx with hx | hx
          · exact h.pos x hx
          · rw [List.mem_singleton.1 hx]; omega
        · rw [rsum_append, h.sum]; simp only [rsum]; omega
        · rw [alt_append, h.alt]
          simp only [lastR, List.getLast?_concat, G.alt, Bool.and_true, Bool.true_and, Bool.not_eq_true', decide_eq_false_iff_not, Option.some.injEq]
          exact he
        · rw [revs_append]; simp [revs]
def runsOn (l : List Rn) (x : List Int) : List Rn := x.foldl (fun a v => addr a (v, 1)) l
def runsOf (x : List Int) : List Rn := runsOn [] x
theorem runsOn_append (l : List Rn) (x y : List Int) : runsOn l (x ++ y) = runsOn (runsOn l x) y := by simp [runsOn]
theorem runsOn_spec : ∀ (x : List Int) {l : List Rn} {n : Int}, Rs l n → n + x.length ≤ 1000000000 → Rs (runsOn l x) (n + x.length) ∧ revs (runsOn l x) = revs l ++ x
  | [], l, n, h, _ => ⟨by simpa [runsOn] using h, by simp [runsOn]⟩
  | v :: x, l, n, h, hb => by
    simp only [List.length_cons] at hb
    obtain ⟨h1, h2⟩ := addr_spec (r := (v, 1)) h (by omega) (by dsimp only; omega)
    obtain ⟨h3, h4⟩ := runsOn_spec x h1 (by dsimp only; omega)
    have e : runsOn l (v :: x) = runsOn (addr l (v, 1)) x := rfl
    rw [e]
    refine ⟨?_, ?_⟩
    · have : n + (((v :: x).length : Nat) : Int) = n + (((v, (1 : Int)) : Rn).2) + ((x.length : Nat) : Int) := by simp only [List.length_cons]; omega
      rw [this]; exact h3
    · rw [h4, h2]; simp
theorem addr_addr {l : List Rn} {v a b n : Int} (h : Rs l n) (ha : 1 ≤ a) (hb : 0 ≤ b) (hs : n + a + b ≤ 1000000000) : addr (addr l (v, a)) (v, b) = addr l (v, a + b) := by
  by_cases h0 : b = 0
  · subst h0; simp [addr]
  · have g1 : ¬ a = 0 := by omega
    have g2 : ¬ a + b = 0 := by omega
    have hn := h.sum ▸ rsum_nonneg h.pos
    unfold addr
    simp only [h0, g1, g2, if_false]
    cases hg : l.getLast? with
    | none =>
      simp only [List.getLast?_singleton, if_true, List.dropLast_singleton, List.nil_append]
      rw [w64 (by omega) (by omega)]
    | some q =>
      have hm := rsum_mem h.pos q (List.mem_of_getLast? hg)
      have hp := h.pos q (List.mem_of_getLast? hg)
      rw [h.sum] at hm
      dsimp only
      by_cases he : q.1 = v
      · simp only [he, if_true, List.getLast?_concat, List.dropLast_concat]
        rw [w64 (n := q.2 + a) (by omega) (by omega), w64 (n := q.2 + (a + b)) (by omega) (by omega), Int.add_assoc, w64 (by omega) (by omega)]
      · simp only [he, if_false, List.getLast?_concat, if_true, List.dropLast_concat]
        rw [w64 (by omega) (by omega)]
theorem addr_many {l : List Rn} {n : Int} (h : Rs l n) (v : Int) : ∀ m : Nat, n + m ≤ 1000000000 → addr l (v, ((m : Nat) : Int)) = runsOn l (List.replicate m v)
  | 0, _ => by simp [addr, runsOn]
  | 1, _ => rfl
  | m + 2, hb => by
    have ih := addr_many h v (m + 1) (by omega)
    rw [List.replicate_succ', runsOn_append, ← ih]
    show _ = addr (addr l (v, _)) (v, 1)
    rw [addr_addr h (by omega) (by omega) (by omega)]
    congr 2
def inRev (most : Int) (l : List Rn) : Bool := l.all fun r => decide (0 ≤ r.1 ∧ r.1 ≤ most)
def grn (most : Int) : Option Int → Int → List Rn → Bool
  | _, left, [] => decide (left = 0)
  | p, left, r :: l => (decide (0 ≤ r.1 ∧ r.1 ≤ most) && (decide (1 ≤ r.2 ∧ r.2 ≤ left) && !(decide (p = some r.1)))) && grn most (some r.1) (left - r.2) l
def goodRuns (l : List Rn) (many most : Int) : Bool := (decide (0 ≤ many ∧ many ≤ 120) && decide (0 ≤ most ∧ most ≤ 60)) && grn most none many l
theorem grn_iff (most : Int) : ∀ (l : List Rn) (p : Option Int) (left : Int), grn most p left l = true ↔ (inRev most l = true ∧ Pos l ∧ rsum l = left ∧ alt p l = true)
  | [], p, left => by
    simp only [grn, decide_eq_true_eq, inRev, List.all_nil, rsum, G.alt, true_and]
    exact ⟨fun h => ⟨Pos.nil, h.symm, trivial⟩, fun h => h.2.1.symm⟩
  | r :: l, p, left => by
    have ih := grn_iff most l (some r.1) (left - r.2)
    simp only [grn, Bool.and_eq_true, decide_eq_true_eq, ih, inRev, List.all_cons, rsum, G.alt]
    constructor
    · rintro ⟨⟨h1, h2, h3⟩, h4, h5, h6, h7⟩
      refine ⟨⟨h1, h4⟩, fun q hq => ?_, by omega, h3, h7⟩
      rcases List.mem_cons.1 hq with rfl | hq
      · exact h2.1
      · exact h5 q hq
    · rintro ⟨⟨h1, h4⟩, h5, h6, h3, h7⟩
      have h8 := h5 r (by simp)
      have h9 := rsum_nonneg h5.tail
      exact ⟨⟨h1, ⟨h8, by omega⟩, h3⟩, h4, h5.tail, by omega, h7⟩
theorem goodRuns_iff {l : List Rn} {many most : Int} : goodRuns l many most = true ↔ ((0 ≤ many ∧ many ≤ 120) ∧ (0 ≤ most ∧ most ≤ 60)) ∧ inRev most l = true ∧ Rs l many := by
  simp only [goodRuns, Bool.and_eq_true, decide_eq_true_eq, grn_iff]
  constructor
  · rintro ⟨h, h1, h2, h3, h4⟩; exact ⟨h, h1, h2, h3, h4⟩
  · rintro ⟨h, h1, h2⟩; exact ⟨h, h1, h2.pos, h2.sum, h2.alt⟩
def brg (rev : Int) : List Int → List Prt → List Int
  | _, [] => []
  | a, p :: c => (a.take p.1.toNat ++ List.replicate p.2.2.length rev) ++ brg rev (a.drop (p.1 + p.2.1).toNat) c
theorem brg_append (rev : Int) : ∀ (c d : List Prt) (a : List Int), (∀ p ∈ c, Some1 p) → brg rev a (c ++ d) = brg rev a c ++ brg rev (a.drop (src c).toNat) d
  | [], d, a, _ => by simp [brg, src]
  | p :: c, d, a, h => by
    have h1 := h p (by simp); have := h1.k; have := h1.d
    have h2 := src_nonneg (l := c) fun q hq => h q (by simp [hq])
    rw [List.cons_append, brg, brg, brg_append rev c d _ fun q hq => h q (by simp [hq])]
    simp only [List.append_assoc, List.drop_drop, src]
    congr 5
    congr 1
    omega
theorem brg_len (rev : Int) : ∀ (c : List Prt) (a : List Int), (∀ p ∈ c, Some1 p) → ((a.length : Nat) : Int) = src c → (((brg rev a c).length : Nat) : Int) = tgt c
  | [], a, _, _ => rfl
  | p :: c, a, h, hl => by
    have h1 := h p (by simp); have := h1.k; have := h1.d
    have h2 := src_nonneg (l := c) fun q hq => h q (by simp [hq])
    simp only [src] at hl
    have ih := brg_len rev c (a.drop (p.1 + p.2.1).toNat) (fun q hq => h q (by simp [hq])) (by rw [List.length_drop]; omega)
    simp only [brg, tgt, List.length_append, List.length_take, List.length_replicate]
    omega
theorem brg_mem {rev : Int} {P : Int → Prop} (hr : P rev) : ∀ (c : List Prt) (a : List Int), (∀ v ∈ a, P v) → ∀ v ∈ brg rev a c, P v
  | [], a, _, v, hv => by cases hv
  | p :: c, a, h, v, hv => by
    simp only [brg, List.mem_append] at hv
    rcases hv with (hv | hv) | hv
    · exact h v (List.mem_of_mem_take hv)
    · rw [(List.mem_replicate.1 hv).2]; exact hr
    · exact brg_mem hr c _ (fun v hv => h v (List.mem_of_mem_drop hv)) v hv
def carR (l : List Rn) (c : List Prt) (rev : Int) : List Rn := runsOf (brg rev (revs l) c)
theorem revs_in {most : Int} : ∀ {l : List Rn}, inRev most l = true → ∀ v ∈ revs l, 0 ≤ v ∧ v ≤ most
  | [], _, v, hv => by cases hv
  | r :: l, h, v, hv => by
    simp only [inRev, List.all_cons, Bool.and_eq_true, decide_eq_true_eq] at h
    simp only [revs, List.mem_append] at hv
    rcases hv with hv | hv
    · rw [(List.mem_replicate.1 hv).2]; exact h.1
    · exact revs_in (l := l) h.2 v hv
theorem in_revs {most : Int} : ∀ {l : List Rn}, Pos l → (∀ v ∈ revs l, 0 ≤ v ∧ v ≤ most) → inRev most l = true
  | [], _, _ => rfl
  | r :: l, hp, h => by
    have h1 := hp r (by simp)
    simp only [inRev, List.all_cons, Bool.and_eq_true, decide_eq_true_eq]
    refine ⟨h r.1 ?_, in_revs hp.tail fun v hv => h v (by simp [revs, hv])⟩
    exact List.mem_append.2 (.inl (List.mem_replicate.2 ⟨by omega, rfl⟩))
theorem carR_spec {l : List Rn} {c : List Prt} {rev most m2 : Int} (hg : good c = true) (hl : goodRuns l (src c) most = true) (h1 : most ≤ m2) (h2 : 0 ≤ rev ∧ rev ≤ m2) (h3 : m2 ≤ 60) :
    goodRuns (carR l c rev) (tgt c) m2 = true ∧ revs (carR l c rev) = brg rev (revs l) c := by
  obtain ⟨k1, k2, k3⟩ := good_spec hg
  have hs := okk_some k1
  obtain ⟨⟨q1, q2⟩, q3, q4⟩ := goodRuns_iff.1 hl
  have hlen : (((revs l).length : Nat) : Int) = src c := by rw [revs_len q4.pos, q4.sum]
  have hbl := brg_len rev c (revs l) hs hlen
  have ht := tgt_nonneg hs
  obtain ⟨r1, r2⟩ := runsOn_spec (brg rev (revs l) c) Rs.nil (by omega)
  rw [Int.zero_add, hbl] at r1
  have hrv : revs (carR l c rev) = brg rev (revs l) c := by
    show revs (runsOn [] _) = _
    rw [r2]; rfl
  refine ⟨goodRuns_iff.2 ⟨⟨⟨ht, k3⟩, by omega, by omega⟩, in_revs r1.pos ?_, r1⟩, hrv⟩
  show ∀ v ∈ revs (carR l c rev), _
  rw [hrv]
  exact brg_mem h2 c (revs l) fun v hv => by have := revs_in q3 v hv; omega
end Go.V.G

set_option linter.unusedVariables false
set_option linter.unusedSimpArgs false
set_option maxRecDepth 100000
namespace Go.V.G
open Go.V
def idc (n : Int) : List Prt := if n = 0 then [] else [(n, 0, [])]
theorem idc_spec {n : Int} (h0 : 0 ≤ n) (h : n ≤ 120) : good (idc n) = true ∧ atoms (idc n) = List.replicate n.toNat .keep ∧ src (idc n) = n ∧ tgt (idc n) = n := by
  unfold idc
  split
  · rename_i e
    subst e
    exact ⟨rfl, rfl, rfl, rfl⟩
  · rename_i hn
    have hp : 0 < n := by omega
    have hk : kd (n, 0, []) = 1 := by simp [kd, hp]
    refine ⟨?_, ?_, ?_, ?_⟩
    · simp [good, okk, hk, src, tgt, h]
    · simp only [atoms, List.flatMap_cons, List.flatMap_nil, List.append_nil]; exact pa_keep h0
    · simp [src]
    · simp [tgt]
theorem good_nS {c : List Prt} (h : good c = true) : nS (atoms c) = (src c).toNat ∧ 0 ≤ src c ∧ src c ≤ 120 ∧ 0 ≤ tgt c ∧ tgt c ≤ 120 ∧ nT (atoms c) = (tgt c).toNat := by
  obtain ⟨h1, h2, h3⟩ := good_spec h
  have hs := okk_some h1
  have := src_nS hs; have := tgt_nT hs
  have := src_nonneg hs; have := tgt_nonneg hs
  omega
def chn : Int → List (List Prt) → Bool
  | _, [] => true
  | n, c :: cs => (good c && decide (src c = n)) && chn (tgt c) cs
def endl : Int → List (List Prt) → Int
  | n, [] => n
  | _, c :: cs => endl (tgt c) cs
theorem chn_append : ∀ (n : Int) (a b : List (List Prt)), chn n (a ++ b) = (chn n a && chn (endl n a) b)
  | _, [], b => by simp [chn, endl]
  | n, c :: a, b => by simp only [List.cons_append, chn, endl, chn_append (tgt c) a b, Bool.and_assoc]
theorem endl_append : ∀ (n : Int) (a b : List (List Prt)), endl n (a ++ b) = endl (endl n a) b
  | _, [], b => rfl
  | n, c :: a, b => endl_append (tgt c) a b
theorem chn_cons {n : Int} {c : List Prt} {cs : List (List Prt)} (h : chn n (c :: cs) = true) : good c = true ∧ src c = n ∧ chn (tgt c) cs = true := by
  simp only [chn, Bool.and_eq_true, decide_eq_true_eq] at h
  exact ⟨h.1.1, h.1.2, h.2⟩
theorem endl_in : ∀ {n : Int} {cs : List (List Prt)}, chn n cs = true → 0 ≤ n → n ≤ 120 → 0 ≤ endl n cs ∧ endl n cs ≤ 120
  | n, [], _, h0, h1 => ⟨h0, h1⟩
  | n, c :: cs, h, h0, h1 => by
    obtain ⟨k1, k2, k3⟩ := chn_cons h
    obtain ⟨_, _, _, q4, q5, _⟩ := good_nS k1
    exact endl_in (n := tgt c) k3 q4 q5
theorem chn_mem : ∀ {n : Int} {cs : List (List Prt)}, chn n cs = true → ∀ c ∈ cs, good c = true
  | n, c :: cs, h, x, hx => by
    obtain ⟨k1, k2, k3⟩ := chn_cons h
    rcases List.mem_cons.1 hx with rfl | hx
    · exact k1
    · exact chn_mem k3 x hx
theorem chn_take {n : Int} {cs : List (List Prt)} (h : chn n cs = true) (k : Nat) : chn n (cs.take k) = true ∧ chn (endl n (cs.take k)) (cs.drop k) = true := by
  have := chn_append n (cs.take k) (cs.drop k)
  rw [List.take_append_drop, h] at this
  have := this.symm
  rwa [Bool.and_eq_true] at this
def txt (t : List UInt8) (cs : List (List Prt)) : List UInt8 := cs.foldl (fun t c => apply t c) t
theorem apply_len {t : List UInt8} {c : List Prt} (hg : good c = true) (h : ((t.length : Nat) : Int) = src c) : (((apply t c).length : Nat) : Int) = tgt c := by
  obtain ⟨q1, q2, q3, q4, q5, q6⟩ := good_nS hg
  have := ap_len (atoms c) t (by omega)
  unfold apply
  omega
theorem txt_len : ∀ {cs : List (List Prt)} {t : List UInt8}, chn ((t.length : Nat) : Int) cs = true → (((txt t cs).length : Nat) : Int) = endl ((t.length : Nat) : Int) cs
  | [], t, _ => rfl
  | c :: cs, t, h => by
    obtain ⟨k1, k2, k3⟩ := chn_cons h
    have hl := apply_len k1 k2.symm
    show (((txt (apply t c) cs).length : Nat) : Int) = endl (tgt c) cs
    rw [← hl] at k3 ⊢
    exact txt_len k3
def btw (n : Int) (cs : List (List Prt)) : List Prt := cs.foldl (fun a c => composed a c) (idc n)
theorem fold_spec : ∀ {cs : List (List Prt)} {a : List Prt}, good a = true → chn (tgt a) cs = true →
    good (cs.foldl (fun a c => composed a c) a) = true ∧ src (cs.foldl (fun a c => composed a c) a) = src a ∧ tgt (cs.foldl (fun a c => composed a c) a) = endl (tgt a) cs
  | [], a, h, _ => ⟨h, rfl, rfl⟩
  | c :: cs, a, h, hc => by
    obtain ⟨k1, k2, k3⟩ := chn_cons hc
    obtain ⟨q1, q2, q3, q4⟩ := composed_spec h k1 k2.symm
    rw [← q4] at k3
    obtain ⟨r1, r2, r3⟩ := fold_spec q1 k3
    exact ⟨r1, by rw [List.foldl_cons, r2, q3], by rw [List.foldl_cons, r3, q4]; rfl⟩
theorem btw_spec {n : Int} {cs : List (List Prt)} (h : chn n cs = true) (h0 : 0 ≤ n) (h1 : n ≤ 120) : good (btw n cs) = true ∧ src (btw n cs) = n ∧ tgt (btw n cs) = endl n cs := by
  obtain ⟨i1, i2, i3, i4⟩ := idc_spec h0 h1
  obtain ⟨r1, r2, r3⟩ := fold_spec i1 (by rw [i4]; exact h)
  exact ⟨r1, by rw [btw, r2, i3], by rw [btw, r3, i4]⟩
def blm : Int → List Rn → List (List Prt) → List Rn
  | _, l, [] => l
  | rev, l, c :: cs => blm (rev + 1) (carR l c rev) cs
theorem blm_append : ∀ (rev : Int) (l : List Rn) (a b : List (List Prt)), blm rev l (a ++ b) = blm (rev + a.length) (blm rev l a) b
  | rev, l, [], b => by simp [blm]
  | rev, l, c :: a, b => by
    simp only [List.cons_append, blm, blm_append (rev + 1) (carR l c rev) a b, List.length_cons]
    congr 1; omega
theorem blm_spec : ∀ {cs : List (List Prt)} {rev n : Int} {l : List Rn}, chn n cs = true → goodRuns l n (rev - 1) = true → rev - 1 + cs.length ≤ 60 → 0 ≤ rev → goodRuns (blm rev l cs) (endl n cs) (rev - 1 + cs.length) = true
  | [], rev, n, l, _, h, _, _ => by simpa [blm, endl] using h
  | c :: cs, rev, n, l, hc, h, hb, h0 => by
    obtain ⟨k1, k2, k3⟩ := chn_cons hc
    subst k2
    simp only [List.length_cons] at hb ⊢
    have h1 := (carR_spec (rev := rev) (m2 := rev) k1 h (by omega) (by omega) (by omega)).1
    have := blm_spec (rev := rev + 1) k3 (by rw [show rev + 1 - 1 = rev by omega]; exact h1) (by omega) (by omega)
    rw [show rev + 1 - 1 + ((cs.length : Nat) : Int) = rev - 1 + ((cs.length + 1 : Nat) : Int) by omega] at this
    exact this
def goodH (f : Int) (t : List UInt8) (r : List Rn) (cs : List (List Prt)) : Bool :=
  decide (0 ≤ f ∧ f ≤ 60) && (decide (((t.length : Nat) : Int) ≤ 120) && (goodRuns r ((t.length : Nat) : Int) f && (decide (((cs.length : Nat) : Int) ≤ 60 - f) && chn ((t.length : Nat) : Int) cs)))
structure GH (f : Int) (t : List UInt8) (r : List Rn) (cs : List (List Prt)) : Prop where
  hf : 0 ≤ f ∧ f ≤ 60
  ht : ((t.length : Nat) : Int) ≤ 120
  hr : goodRuns r ((t.length : Nat) : Int) f = true
  hn : ((cs.length : Nat) : Int) ≤ 60 - f
  hc : chn ((t.length : Nat) : Int) cs = true
theorem goodH_iff {f : Int} {t : List UInt8} {r : List Rn} {cs : List (List Prt)} : goodH f t r cs = true ↔ GH f t r cs := by
  simp only [goodH, Bool.and_eq_true, decide_eq_true_eq]
  exact ⟨fun ⟨h1, h2, h3, h4, h5⟩ => ⟨h1, h2, h3, h4, h5⟩, fun ⟨h1, h2, h3, h4, h5⟩ => ⟨h1, h2, h3, h4, h5⟩⟩
structure HB (t : List UInt8) (r : List Rn) (cs : List (List Prt)) : Prop where
  ht : t.length ≤ 1099511627776
  hr : r.length ≤ 1099511627776
  hn : cs.length ≤ 1099511627776
  hc : ∀ c ∈ cs, Sm 1099511627776 c
theorem GH.hb {f : Int} {t : List UInt8} {r : List Rn} {cs : List (List Prt)} (h : GH f t r cs) : HB t r cs := by
  have h1 := h.ht; have h2 := h.hn; have h3 := h.hf
  obtain ⟨_, _, h6⟩ := goodRuns_iff.1 h.hr
  have := rlen_le h6.pos
  rw [h6.sum] at this
  exact ⟨by omega, by omega, by omega, fun c hc => (good_sm (chn_mem h.hc c hc)).mono (by omega)⟩
def codeH (f : Int) (t : List UInt8) (r : List Rn) (cs : List (List Prt)) (a b : Int) : Int :=
  if goodH f t r cs = true then (if f ≤ a ∧ a ≤ b ∧ b ≤ f + cs.length then 0 else 2) else 1
end Go.V.G

set_option linter.unusedVariables false
set_option linter.unusedSimpArgs false
set_option maxRecDepth 100000
namespace Go.V.G
open Go.V
def prv (l : List Rn) (i : Nat) : Option Int := if i = 0 then none else (l[i - 1]?).map (·.1)
theorem prv_succ {l : List Rn} {i : Nat} (h : i < l.length) : prv l (i + 1) = some l[i].1 := by simp [prv, List.getElem?_eq_getElem h]
theorem grn_drop {l : List Rn} {i : Nat} (h : i < l.length) (most left : Int) (p : Option Int) : grn most p left (l.drop i) = ((decide (0 ≤ l[i].1 ∧ l[i].1 ≤ most) && (decide (1 ≤ l[i].2 ∧ l[i].2 ≤ left) && !(decide (p = some l[i].1)))) && grn most (some l[i].1) (left - l[i].2) (l.drop (i + 1))) := by
  rw [List.drop_eq_getElem_cons h]; rfl
theorem i_GoodRuns_eq {l : List Rn} (hl : l.length ≤ 1099511627776) (many most : Int) : i_GoodRuns l many most = some (goodRuns l many most) := by
  unfold i_GoodRuns
  refine Ok.eq (Ok.bind (Q := fun v => v = (l, many, most, !(decide (0 ≤ many ∧ many ≤ 120) && decide (0 ≤ most ∧ most ≤ 60)))) ?_ ?_)
  · refine Ok.bind_eq (i_within_eq _ _ _) (Ok.ite (fun h => Ok.mk ?_) fun h => Ok.bind_eq (i_within_eq _ _ _) (Ok.mk ?_))
    · have h' : decide (0 ≤ many ∧ many ≤ 120) = false := by simpa only [Bool.not_eq_true'] using h
      rw [h']; rfl
    · have h' : decide (0 ≤ many ∧ many ≤ 120) = true := by simpa only [Bool.not_eq_true', Bool.not_eq_false] using h
      rw [h', Bool.true_and]
  rintro _ rfl
  dsimp only
  refine Ok.ite (fun hb => Ok.mk ?_) fun hb => ?_
  · have hb' : (decide (0 ≤ many ∧ many ≤ 120) && decide (0 ≤ most ∧ most ≤ 60)) = false := by simpa only [Bool.not_eq_true'] using hb
    unfold goodRuns; rw [hb']; rfl
  have hb' : (decide (0 ≤ many ∧ many ≤ 120) && decide (0 ≤ most ∧ most ≤ 60)) = true := by simpa only [Bool.not_eq_true', Bool.not_eq_false] using hb
  have hg : goodRuns l many most = grn most none many l := by unfold goodRuns; rw [hb', Bool.true_and]
  rw [Bool.and_eq_true, decide_eq_true_eq, decide_eq_true_eq] at hb'
  rw [hg]
  refine Ok.bind (Q := fun r => match r with | .inl y => decide (y.2 = y.1) = grn most none many l | .inr b => b = grn most none many l) ?_ (by rintro (y | b) hr <;> exact Ok.mk hr)
  refine Ok.loop (fun y => y.1 = l ∧ y.2.1 = many ∧ y.2.2.1 = most ∧ (0 ≤ y.2.2.2.1 ∧ y.2.2.2.1 ≤ many) ∧ y.2.2.2.2.1 = l ∧ y.2.2.2.2.2.1 = ((l.length : Nat) : Int) ∧ ∃ i : Nat, y.2.2.2.2.2.2 = ((i : Nat) : Int) ∧ i ≤ l.length ∧ grn most none many l = grn most (prv l i) (many - y.2.2.2.1) (l.drop i))
    (fun y => (((l.length : Nat) : Int) - y.2.2.2.2.2.2).toNat) ⟨rfl, rfl, rfl, ⟨by simp, hb'.1.1⟩, rfl, rfl, 0, rfl, Nat.zero_le _, by simp [prv]⟩ ?_
  rintro ⟨l1, m1, s1, all, l2, n, i'⟩ ⟨e1, e2, e3, ⟨h0, h1⟩, e4, e5, i, e6, hi, hk⟩
  dsimp only at e1 e2 e3 h0 h1 e4 e5 e6 hk
  subst e1 e2 e3 e4 e5 e6
  unfold i_GoodRuns_L1
  dsimp only
  refine Ok.ite (fun hc => ?_) fun hc => ?_
  · have hlt : i < l2.length := by simpa using hc
    have hge : l2[Int.toNat ((i : Nat) : Int)]? = some l2[i] := by simp [hlt]
    refine Ok.yes (by simp) (Ok.bind_eq hge ?_)
    refine Ok.bind (Q := fun v => v = (l2, m1, s1, all, l2, ((l2.length : Nat) : Int), ((i : Nat) : Int), !(decide (0 ≤ l2[i].1 ∧ l2[i].1 ≤ s1) && (decide (1 ≤ l2[i].2 ∧ l2[i].2 ≤ 120) && !(decide (prv l2 i = some l2[i].1)))), l2[i].1, l2[i].2)) ?_ ?_
    · refine Ok.bind_eq (i_within_eq _ _ _) (Ok.ite (fun h => Ok.mk ?_) fun h => Ok.bind_eq (i_within_eq _ _ _) (Ok.ite (fun h2 => Ok.mk ?_) fun h2 => ?_))
      · have h' : decide (0 ≤ l2[i].1 ∧ l2[i].1 ≤ s1) = false := by simpa only [Bool.not_eq_true'] using h
        rw [h']; rfl
      · have h' : decide (1 ≤ l2[i].2 ∧ l2[i].2 ≤ 120) = false := by simpa only [Bool.not_eq_true'] using h2
        rw [h', Bool.false_and, Bool.and_false]; rfl
      · have h' : decide (0 ≤ l2[i].1 ∧ l2[i].1 ≤ s1) = true := by simpa only [Bool.not_eq_true', Bool.not_eq_false] using h
        have h2' : decide (1 ≤ l2[i].2 ∧ l2[i].2 ≤ 120) = true := by simpa only [Bool.not_eq_true', Bool.not_eq_false] using h2
        rw [h', h2', Bool.true_and, Bool.true_and, Bool.not_not]
        refine Ok.ite (fun hp => ?_) fun hp => Ok.mk ?_
        · have hp' : 0 < i := by simpa using hp
          have e : IntKind.wrap .i64 ((i : Int) - 1) = ((i - 1 : Nat) : Int) := by rw [w64 (by omega) (by omega)]; omega
          have hl1 : i - 1 < l2.length := by omega
          refine Ok.yes (by simp [e]) (Ok.bind_eq (r := l2[i - 1]) (by simp [e, List.getElem?_eq_getElem hl1]) (Ok.mk ?_))
          have hne : ¬ i = 0 := by omega
          simp [prv, hne, List.getElem?_eq_getElem hl1]
        · have : i = 0 := by
            have : ¬ (0 : Int) < (i : Int) := by simpa using hp
            omega
          subst this
          simp [prv]
    rintro _ rfl
    dsimp only
    rw [grn_drop hlt] at hk
    refine Ok.ite (fun hbad => Ok.mk ?_) fun hgood => ?_
    · dsimp only
      rw [hk]
      have hbad' : (decide (0 ≤ l2[i].1 ∧ l2[i].1 ≤ s1) && (decide (1 ≤ l2[i].2 ∧ l2[i].2 ≤ 120) && !(decide (prv l2 i = some l2[i].1)))) = false := by simpa only [Bool.not_eq_true'] using hbad
      by_cases q1 : 0 ≤ l2[i].1 ∧ l2[i].1 ≤ s1
      · by_cases q3 : prv l2 i = some l2[i].1
        · simp [q3]
        · have q2 : ¬ (1 ≤ l2[i].2 ∧ l2[i].2 ≤ 120) := by simpa [q1, q3] using hbad'
          have : ¬ (1 ≤ l2[i].2 ∧ l2[i].2 ≤ m1 - all) := by omega
          simp [this]
      · simp [q1]
    · have hgood' : (decide (0 ≤ l2[i].1 ∧ l2[i].1 ≤ s1) && (decide (1 ≤ l2[i].2 ∧ l2[i].2 ≤ 120) && !(decide (prv l2 i = some l2[i].1)))) = true := by simpa only [Bool.not_eq_true', Bool.not_eq_false] using hgood
      rw [Bool.and_eq_true, Bool.and_eq_true, decide_eq_true_eq, decide_eq_true_eq] at hgood'
      obtain ⟨q1, q2, q3⟩ := hgood'
      have w : IntKind.wrap .i64 (all + l2[i].2) = all + l2[i].2 := w64 (by omega) (by omega)
      rw [w]
      refine Ok.ite (fun hbig => Ok.mk ?_) fun hfit => Ok.mk ⟨⟨rfl, rfl, rfl, ?_, rfl, rfl, i + 1, idx_succ hl hlt, by omega, ?_⟩, ?_⟩
      · dsimp only
        have : m1 < all + l2[i].2 := by simpa using hbig
        have : ¬ (1 ≤ l2[i].2 ∧ l2[i].2 ≤ m1 - all) := by omega
        rw [hk]; simp [this]
      · have : ¬ m1 < all + l2[i].2 := by simpa using hfit
        dsimp only; omega
      · have hf : ¬ m1 < all + l2[i].2 := by simpa using hfit
        have q4 : 1 ≤ l2[i].2 ∧ l2[i].2 ≤ m1 - all := by omega
        dsimp only
        rw [hk, prv_succ hlt, q3]
        simp only [q1, q4, and_self, decide_true, Bool.true_and]
        congr 1; omega
      · rw [idx_succ hl hlt]; dsimp only; omega
  · have : i = l2.length := by
      have : ¬ ((i : Int) < ((List.length l2 : Nat) : Int)) := by simpa using hc
      omega
    subst this
    refine Ok.mk ?_
    dsimp only
    rw [hk, List.drop_length, grn]
    exact decide_eq_decide.2 (by omega)
theorem s_GoodRuns_eq {l : List Rn} (hl : l.length ≤ 1099511627776) (many most : Int) : s_GoodRuns l many most = some (goodRuns l many most) := by
  unfold s_GoodRuns
  refine Ok.eq (Ok.bind (Q := fun v => v = (l, many, most, !(decide (0 ≤ many ∧ many ≤ 120) && decide (0 ≤ most ∧ most ≤ 60)))) ?_ ?_)
  · refine Ok.bind_eq (s_In_eq _ _ _) (Ok.ite (fun h => Ok.mk ?_) fun h => Ok.bind_eq (s_In_eq _ _ _) (Ok.mk ?_))
    · have h' : decide (0 ≤ many ∧ many ≤ 120) = false := by simpa only [Bool.not_eq_true'] using h
      rw [h']; rfl
    · have h' : decide (0 ≤ many ∧ many ≤ 120) = true := by simpa only [Bool.not_eq_true', Bool.not_eq_false] using h
      rw [h', Bool.true_and]
  rintro _ rfl
  dsimp only
  refine Ok.ite (fun hb => Ok.mk ?_) fun hb => ?_
  · have hb' : (decide (0 ≤ many ∧ many ≤ 120) && decide (0 ≤ most ∧ most ≤ 60)) = false := by simpa only [Bool.not_eq_true'] using hb
    unfold goodRuns; rw [hb']; rfl
  have hb' : (decide (0 ≤ many ∧ many ≤ 120) && decide (0 ≤ most ∧ most ≤ 60)) = true := by simpa only [Bool.not_eq_true', Bool.not_eq_false] using hb
  have hg : goodRuns l many most = grn most none many l := by unfold goodRuns; rw [hb', Bool.true_and]
  rw [Bool.and_eq_true, decide_eq_true_eq, decide_eq_true_eq] at hb'
  rw [hg]
  refine Ok.bind (Q := fun r => match r with | .inl y => decide (y.2 = y.1) = grn most none many l | .inr b => b = grn most none many l) ?_ (by rintro (y | b) hr <;> exact Ok.mk hr)
  refine Ok.loop (fun y => y.1 = l ∧ y.2.1 = many ∧ y.2.2.1 = most ∧ (0 ≤ y.2.2.2.1 ∧ y.2.2.2.1 ≤ many) ∧ y.2.2.2.2.1 = l ∧ y.2.2.2.2.2.1 = ((l.length : Nat) : Int) ∧ ∃ i : Nat, y.2.2.2.2.2.2 = ((i : Nat) : Int) ∧ i ≤ l.length ∧ grn most none many l = grn most (prv l i) (many - y.2.2.2.1) (l.drop i))
    (fun y => (((l.length : Nat) : Int) - y.2.2.2.2.2.2).toNat) ⟨rfl, rfl, rfl, ⟨by simp, hb'.1.1⟩, rfl, rfl, 0, rfl, Nat.zero_le _, by simp [prv]⟩ ?_
  rintro ⟨l1, m1, s1, all, l2, n, i'⟩ ⟨e1, e2, e3, ⟨h0, h1⟩, e4, e5, i, e6, hi, hk⟩
  dsimp only at e1 e2 e3 h0 h1 e4 e5 e6 hk
  subst e1 e2 e3 e4 e5 e6
  unfold s_GoodRuns_L1
  dsimp only
  have wm : IntKind.wrap .i64 (m1 - all) = m1 - all := w64 (by omega) (by omega)
  rw [wm]
  refine Ok.ite (fun hc => ?_) fun hc => ?_
  · have hlt : i < l2.length := by simpa using hc
    have hge : l2[Int.toNat ((i : Nat) : Int)]? = some l2[i] := by simp [hlt]
    refine Ok.yes (by simp) (Ok.bind_eq hge ?_)
    refine Ok.bind (Q := fun v => v = (l2, m1, s1, all, l2, ((l2.length : Nat) : Int), ((i : Nat) : Int), !(decide (0 ≤ l2[i].1 ∧ l2[i].1 ≤ s1) && (decide (1 ≤ l2[i].2 ∧ l2[i].2 ≤ m1 - all) && !(decide (prv l2 i = some l2[i].1)))), l2[i].1, l2[i].2)) ?_ ?_
    · refine Ok.bind_eq (s_In_eq _ _ _) (Ok.ite (fun h => Ok.mk ?_) fun h => Ok.bind_eq (s_In_eq _ _ _) (Ok.ite (fun h2 => Ok.mk ?_) fun h2 => ?_))
      · have h' : decide (0 ≤ l2[i].1 ∧ l2[i].1 ≤ s1) = false := by simpa only [Bool.not_eq_true'] using h
        rw [h']; rfl
      · have h' : decide (1 ≤ l2[i].2 ∧ l2[i].2 ≤ m1 - all) = false := by simpa only [Bool.not_eq_true'] using h2
        rw [h', Bool.false_and, Bool.and_false]; rfl
      · have h' : decide (0 ≤ l2[i].1 ∧ l2[i].1 ≤ s1) = true := by simpa only [Bool.not_eq_true', Bool.not_eq_false] using h
        have h2' : decide (1 ≤ l2[i].2 ∧ l2[i].2 ≤ m1 - all) = true := by simpa only [Bool.not_eq_true', Bool.not_eq_false] using h2
        rw [h', h2', Bool.true_and, Bool.true_and, Bool.not_not]
        refine Ok.ite (fun hp => ?_) fun hp => Ok.mk ?_
        · have hp' : 0 < i := by simpa using hp
          have e : IntKind.wrap .i64 ((i : Int) - 1) = ((i - 1 : Nat) : Int) := by rw [w64 (by omega) (by omega)]; omega
          have hl1 : i - 1 < l2.length := by omega
          refine Ok.yes (by simp [e]) (Ok.bind_eq (r := l2[i - 1]) (by simp [e, List.getElem?_eq_getElem hl1]) (Ok.mk ?_))
          have hne : ¬ i = 0 := by omega
          simp [prv, hne, List.getElem?_eq_getElem hl1]
        · have : i = 0 := by
            have : ¬ (0 : Int) < (i : Int) := by simpa using hp
            omega
          subst this
          simp [prv]
    rintro _ rfl
    dsimp only
    rw [grn_drop hlt] at hk
    refine Ok.ite (fun hbad => Ok.mk ?_) fun hgood => ?_
    · dsimp only
      rw [hk]
      have hbad' : (decide (0 ≤ l2[i].1 ∧ l2[i].1 ≤ s1) && (decide (1 ≤ l2[i].2 ∧ l2[i].2 ≤ m1 - all) && !(decide (prv l2 i = some l2[i].1)))) = false := by simpa only [Bool.not_eq_true'] using hbad
      rw [hbad', Bool.false_and]
    · have hgood' : (decide (0 ≤ l2[i].1 ∧ l2[i].1 ≤ s1) && (decide (1 ≤ l2[i].2 ∧ l2[i].2 ≤ m1 - all) && !(decide (prv l2 i = some l2[i].1)))) = true := by simpa only [Bool.not_eq_true', Bool.not_eq_false] using hgood
      rw [hgood', Bool.true_and] at hk
      rw [Bool.and_eq_true, Bool.and_eq_true, decide_eq_true_eq, decide_eq_true_eq] at hgood'
      obtain ⟨q1, q2, q3⟩ := hgood'
      have w : IntKind.wrap .i64 (all + l2[i].2) = all + l2[i].2 := w64 (by omega) (by omega)
      rw [w]
      refine Ok.mk ⟨⟨rfl, rfl, rfl, by dsimp only; omega, rfl, rfl, i + 1, idx_succ hl hlt, by omega, ?_⟩, ?_⟩
      · dsimp only
        rw [hk, prv_succ hlt]
        congr 1; omega
      · rw [idx_succ hl hlt]; dsimp only; omega
  · have : i = l2.length := by
      have : ¬ ((i : Int) < ((List.length l2 : Nat) : Int)) := by simpa using hc
      omega
    subst this
    refine Ok.mk ?_
    dsimp only
    rw [hk, List.drop_length, grn]
    exact decide_eq_decide.2 (by omega)
theorem room8 {n m b : Nat} (h : n + m ≤ 1099511627776) (hb : b ≤ 64) : roomFor (n + m) b = true := by
  simp only [roomFor, decide_eq_true_eq]
  have : (n + m) * b ≤ 1099511627776 * 64 := Nat.mul_le_mul h hb
  omega
theorem revs_take {l : List Rn} {i : Nat} (h : i < l.length) : revs (l.take (i + 1)) = revs (l.take i) ++ List.replicate l[i].2.toNat l[i].1 := by
  rw [List.take_succ_eq_append_getElem h, revs_append]; simp [revs]
theorem revs_take_len {l : List Rn} (hp : Pos l) (i : Nat) : (revs (l.take i)).length ≤ (rsum l).toNat := by
  have h1 := revs_len (l := l.take i) fun q hq => hp q (List.mem_of_mem_take hq)
  have h2 : rsum l = rsum (l.take i) + rsum (l.drop i) := by rw [← rsum_append, List.take_append_drop]
  have h3 := rsum_nonneg (l := l.drop i) fun q hq => hp q (List.mem_of_mem_drop hq)
  omega
theorem i_revs_eq {l : List Rn} (hp : Pos l) (hs : rsum l ≤ 1000000000) : i_revs l = some (revs l) := by
  have hlen := rlen_le hp
  unfold i_revs
  have := loop_run i_revs_L2 (fun i => (revs (l.take i), l, ((l.length : Nat) : Int), ((i : Nat) : Int))) l.length (revs l) (by
    intro i hi
    have hc : ((i : Nat) : Int) < ((l.length : Nat) : Int) := by omega
    have hq := hp _ (List.getElem_mem hi)
    have hm := rsum_mem hp _ (List.getElem_mem hi)
    have hr := revs_take_len hp i
    have hr2 := revs_take_len hp (i + 1)
    rw [revs_take hi, List.length_append, List.length_replicate] at hr2
    have inner : loopG i_revs_L1 (revs (l.take i), l, ((l.length : Nat) : Int), ((i : Nat) : Int), l[i].2, 0, l[i].1, l[i].2) = some (revs (l.take (i + 1)), l, ((l.length : Nat) : Int), ((i : Nat) : Int)) := by
      have := loop_run i_revs_L1 (fun q => (revs (l.take i) ++ List.replicate q l[i].1, l, ((l.length : Nat) : Int), ((i : Nat) : Int), l[i].2, ((q : Nat) : Int), l[i].1, l[i].2)) l[i].2.toNat (revs (l.take (i + 1)), l, ((l.length : Nat) : Int), ((i : Nat) : Int)) (by
        intro q hq'
        have h1 : ((q : Nat) : Int) < l[i].2 := by omega
        have h2 : roomFor (List.length (revs (l.take i) ++ List.replicate q l[i].1) + List.length ([l[i].1] : List Int)) 8 = true := room8 (by rw [List.length_append, List.length_replicate]; simp; omega) (by omega)
        have h3 : IntKind.wrap .i64 (((q : Nat) : Int) + 1) = ((q + 1 : Nat) : Int) := by rw [w64 (by omega) (by omega)]; omega
        unfold i_revs_L1
        simp only [h1, h2, h3, decide_true, if_true, List.append_assoc, List.replicate_succ']) (by
          have h1 : ¬ (((l[i].2.toNat : Nat)) : Int) < l[i].2 := by omega
          unfold i_revs_L1
          simp only [h1, decide_false, Bool.false_eq_true, if_false, revs_take hi])
      simpa using this
    unfold i_revs_L2
    simp only [hc, decide_true, if_true, show (0 : Int) ≤ ((i : Nat) : Int) from by omega, Int.toNat_natCast, List.getElem?_eq_getElem hi, Option.bind_some, inner, idx_succ (show l.length ≤ 1099511627776 by omega) hi]) (by simp [i_revs_L2])
  simp only [List.take_zero] at this
  have e : loopG i_revs_L2 ([], l, ((l.length : Nat) : Int), 0) = some (revs l) := this
  rw [e]; rfl
theorem s_Each_eq {l : List Rn} (hp : Pos l) (hs : rsum l ≤ 1000000000) : s_l9Each l = some (revs l) := by
  have hlen := rlen_le hp
  unfold s_l9Each
  have := loop_run s_l9Each_L2 (fun i => (revs (l.take i), l, ((l.length : Nat) : Int), ((i : Nat) : Int))) l.length (revs l) (by
    intro i hi
    have hc : ((i : Nat) : Int) < ((l.length : Nat) : Int) := by omega
    have hq := hp _ (List.getElem_mem hi)
    have hm := rsum_mem hp _ (List.getElem_mem hi)
    have hr := revs_take_len hp i
    have hr2 := revs_take_len hp (i + 1)
    rw [revs_take hi, List.length_append, List.length_replicate] at hr2
    have inner : loopG s_l9Each_L1 (revs (l.take i), 0, l, ((l.length : Nat) : Int), ((i : Nat) : Int), l[i].1, l[i].2) = some (revs (l.take (i + 1)), l, ((l.length : Nat) : Int), ((i : Nat) : Int)) := by
      have := loop_run s_l9Each_L1 (fun q => (revs (l.take i) ++ List.replicate q l[i].1, ((q : Nat) : Int), l, ((l.length : Nat) : Int), ((i : Nat) : Int), l[i].1, l[i].2)) l[i].2.toNat (revs (l.take (i + 1)), l, ((l.length : Nat) : Int), ((i : Nat) : Int)) (by
        intro q hq'
        have h1 : ((q : Nat) : Int) < l[i].2 := by omega
        have h2 : roomFor (List.length (revs (l.take i) ++ List.replicate q l[i].1) + List.length ([l[i].1] : List Int)) 8 = true := room8 (by rw [List.length_append, List.length_replicate]; simp; omega) (by omega)
        have h3 : IntKind.wrap .i64 (((q : Nat) : Int) + 1) = ((q + 1 : Nat) : Int) := by rw [w64 (by omega) (by omega)]; omega
        unfold s_l9Each_L1
        simp only [h1, h2, h3, decide_true, if_true, List.append_assoc, List.replicate_succ']) (by
          have h1 : ¬ (((l[i].2.toNat : Nat)) : Int) < l[i].2 := by omega
          unfold s_l9Each_L1
          simp only [h1, decide_false, Bool.false_eq_true, if_false, revs_take hi])
      simpa using this
    unfold s_l9Each_L2
    simp only [hc, decide_true, if_true, show (0 : Int) ≤ ((i : Nat) : Int) from by omega, Int.toNat_natCast, List.getElem?_eq_getElem hi, Option.bind_some, inner, idx_succ (show l.length ≤ 1099511627776 by omega) hi]) (by simp [s_l9Each_L2])
  simp only [List.take_zero] at this
  have e : loopG s_l9Each_L2 ([], l, ((l.length : Nat) : Int), 0) = some (revs l) := this
  rw [e]; rfl
theorem s_l9Add_eq {l : List Rn} (hl : l.length ≤ 1000000000) (v n : Int) : s_l9Add l v n = some (addr l (v, n)) := by
  unfold s_l9Add addr
  by_cases h0 : n = 0
  · simp [h0]
  · rw [if_neg (by simpa using h0), if_neg h0]
    have hroom : roomFor (List.length l + List.length ([(v, n)] : List (Int × Int))) 16 = true := room8 (by simp; omega) (by omega)
    cases hg : l.getLast? with
    | none =>
      obtain rfl : l = [] := by simpa using hg
      simp [roomFor]
    | some q =>
      obtain ⟨m, hm, hq, hset⟩ := len_last hg
      have e1 : IntKind.wrap .i64 (((l.length : Nat) : Int) - 1) = ((m : Nat) : Int) := by rw [hm, w64 (by omega) (by omega)]; omega
      have hpos : (0 : Int) < ((l.length : Nat) : Int) := by omega
      have hlt : ((m : Nat) : Int) < ((l.length : Nat) : Int) := by omega
      have hge : (0 : Int) ≤ ((m : Nat) : Int) := by omega
      by_cases hk : q.1 = v
      · simp only [e1, hpos, hlt, hge, decide_true, if_true, Int.toNat_natCast, Nat.zero_add, hq, Option.bind_some, hk, hset]
      · simp only [e1, hpos, hlt, hge, decide_true, if_true, Int.toNat_natCast, Nat.zero_add, hq, Option.bind_some, hk, decide_false, if_false, Bool.false_eq_true, hroom]
theorem runsOf_take {x : List Int} {i : Nat} (h : i < x.length) : runsOf (x.take (i + 1)) = addr (runsOf (x.take i)) (x[i], 1) := by
  unfold runsOf; rw [List.take_succ_eq_append_getElem h, runsOn_append]; rfl
theorem i_runs_eq {x : List Int} (hx : x.length ≤ 1000000) : i_runs x = some (runsOf x) := by
  unfold i_runs
  have := loop_run i_runs_L1 (fun i => (runsOf (x.take i), x, ((x.length : Nat) : Int), ((i : Nat) : Int))) x.length (runsOf x) (by
    intro i hi
    have hc : ((i : Nat) : Int) < ((x.length : Nat) : Int) := by omega
    obtain ⟨r1, r2⟩ := runsOn_spec (x.take i) Rs.nil (by rw [List.length_take]; omega)
    have hlen := rlen_le r1.pos
    rw [r1.sum, List.length_take] at hlen
    have hstep : i_runs_L1 (runsOf (x.take i), x, ((x.length : Nat) : Int), ((i : Nat) : Int)) = some (.inl (addr (runsOf (x.take i)) (x[i], 1), x, ((x.length : Nat) : Int), ((i + 1 : Nat) : Int))) := by
      generalize hL : runsOf (x.take i) = L
      have hL' : runsOn [] (x.take i) = L := hL
      rw [hL'] at r1 hlen
      have hroom : roomFor (List.length L + List.length ([(x[i], 1)] : List (Int × Int))) 16 = true := room8 (by simp; omega) (by omega)
      unfold i_runs_L1 addr
      simp only [hc, decide_true, if_true, show (0 : Int) ≤ ((i : Nat) : Int) from by omega, Int.toNat_natCast, List.getElem?_eq_getElem hi, Option.bind_some, idx_succ (show x.length ≤ 1099511627776 by omega) hi]
      cases hg : L.getLast? with
      | none =>
        obtain rfl : L = [] := by simpa using hg
        simp [roomFor, idx_succ (show x.length ≤ 1099511627776 by omega) hi]
      | some q =>
        obtain ⟨m, hm, hq, hset⟩ := len_last hg
        have e1 : IntKind.wrap .i64 (((L.length : Nat) : Int) - 1) = ((m : Nat) : Int) := by rw [hm, w64 (by omega) (by omega)]; omega
        have hpos : (0 : Int) < ((L.length : Nat) : Int) := by omega
        have hlt : ((m : Nat) : Int) < ((L.length : Nat) : Int) := by omega
        have hge : (0 : Int) ≤ ((m : Nat) : Int) := by omega
        by_cases hk : q.1 = x[i]
        · simp only [e1, hpos, hlt, hge, decide_true, if_true, Int.toNat_natCast, Nat.zero_add, hq, Option.bind_some, hk, hset, idx_succ (show x.length ≤ 1099511627776 by omega) hi, show ¬ ((1 : Int) = 0) from by decide, if_false]
        · have hk' : decide (q.1 = x[i]) = false := by simpa using hk
          simp only [e1, hpos, hlt, hge, decide_true, if_true, Int.toNat_natCast, Nat.zero_add, hq, Option.bind_some, hk', Bool.false_eq_true, decide_false, if_false, hroom, idx_succ (show x.length ≤ 1099511627776 by omega) hi, hk, show ¬ ((1 : Int) = 0) from by decide]
    rw [hstep, runsOf_take hi]) (by simp [i_runs_L1])
  have e : loopG i_runs_L1 ([], x, ((x.length : Nat) : Int), 0) = some (runsOf x) := by simpa [runsOf, runsOn] using this
  rw [e]; rfl
theorem brg_take {rev : Int} {all : List Int} {c : List Prt} (hs : ∀ p ∈ c, Some1 p) {i : Nat} (h : i < c.length) :
    brg rev all (c.take (i + 1)) = (brg rev all (c.take i) ++ (all.drop (src (c.take i)).toNat).take c[i].1.toNat) ++ List.replicate c[i].2.2.length rev := by
  rw [List.take_succ_eq_append_getElem h, brg_append rev _ _ _ fun p hp => hs p (mem_take hp)]
  simp [brg]
theorem i_carryRuns_eq {l : List Rn} {c : List Prt} {rev : Int} (hg : good c = true) (hp : Pos l) (hl : rsum l = src c) : i_carryRuns l c rev = some (carR l c rev) := by
  obtain ⟨g1, g2, g3⟩ := good_spec hg
  have hs := okk_some g1
  have hsm := good_sm hg
  have hclen := hsm.len
  have hall : (((revs l).length : Nat) : Int) = src c := by rw [revs_len hp, hl]
  have hbl := brg_len rev c (revs l) hs hall
  unfold i_carryRuns carR
  rw [i_revs_eq hp (by omega), Option.bind_some]
  generalize revs l = all at hall hbl ⊢
  have main := loop_run i_carryRuns_L2 (fun i => (rev, all, brg rev all (c.take i), src (c.take i), c, ((c.length : Nat) : Int), ((i : Nat) : Int))) c.length (brg rev all c) (by
    intro i hi
    have hc : ((i : Nat) : Int) < ((c.length : Nat) : Int) := by omega
    have hpi := hs _ (List.getElem_mem hi)
    have k0 := hpi.k; have d0 := hpi.d
    have n1 := src_nonneg (l := c.take i) fun p h => hs p (mem_take h)
    have n3 := src_nonneg (l := c.drop (i + 1)) fun p h => hs p (mem_drop h)
    have a1 := src_at hi
    have a2 := src_take hi
    have hput : c[i].2.2.length ≤ 240 := Nat.le_trans (psum_mem (List.getElem_mem hi)) hsm.put
    have hb1 : (brg rev all (c.take i)).length ≤ 120 := by
      have h1 := brg_take (rev := rev) (all := all) hs hi
      have h2 : brg rev all c = brg rev all (c.take i) ++ brg rev (all.drop (src (c.take i)).toNat) (c.drop i) := by
        conv => lhs; rw [← List.take_append_drop i c]
        exact brg_append rev _ _ _ fun p hp => hs p (mem_take hp)
      have h3 : (brg rev all c).length = (brg rev all (c.take i)).length + (brg rev (all.drop (src (c.take i)).toNat) (c.drop i)).length := by rw [h2, List.length_append]
      omega
    have w1 : IntKind.wrap .i64 (src (c.take i) + c[i].1) = src (c.take i) + c[i].1 := w64 (by omega) (by omega)
    have w2 : IntKind.wrap .i64 (c[i].1 + c[i].2.1) = c[i].1 + c[i].2.1 := w64 (by omega) (by omega)
    have w3 : IntKind.wrap .i64 (src (c.take i) + (c[i].1 + c[i].2.1)) = src (c.take (i + 1)) := by rw [w64 (by omega) (by omega)]; omega
    have e1 : (src (c.take i) + c[i].1).toNat - (src (c.take i)).toNat = c[i].1.toNat := by omega
    have hle : src (c.take i) + c[i].1 ≤ ((all.length : Nat) : Int) := by omega
    have hll : src (c.take i) ≤ src (c.take i) + c[i].1 := by omega
    have hr : roomFor (List.length (brg rev all (c.take i)) + List.length ((all.drop (src (c.take i)).toNat).take c[i].1.toNat)) 8 = true := room8 (by rw [List.length_take]; omega) (by omega)
    have inner : loopG i_carryRuns_L1 (rev, all, brg rev all (c.take i) ++ (all.drop (src (c.take i)).toNat).take c[i].1.toNat, src (c.take (i + 1)), c, ((c.length : Nat) : Int), ((i : Nat) : Int), ((c[i].2.2.length : Nat) : Int), 0) =
        some (rev, all, brg rev all (c.take (i + 1)), src (c.take (i + 1)), c, ((c.length : Nat) : Int), ((i : Nat) : Int)) := by
      have := loop_run i_carryRuns_L1 (fun q => (rev, all, (brg rev all (c.take i) ++ (all.drop (src (c.take i)).toNat).take c[i].1.toNat) ++ List.replicate q rev, src (c.take (i + 1)), c, ((c.length : Nat) : Int), ((i : Nat) : Int), ((c[i].2.2.length : Nat) : Int), ((q : Nat) : Int))) c[i].2.2.length
        (rev, all, brg rev all (c.take (i + 1)), src (c.take (i + 1)), c, ((c.length : Nat) : Int), ((i : Nat) : Int)) (by
        intro q hq
        have h1 : ((q : Nat) : Int) < ((c[i].2.2.length : Nat) : Int) := by omega
        have h2 : roomFor (List.length ((brg rev all (c.take i) ++ (all.drop (src (c.take i)).toNat).take c[i].1.toNat) ++ List.replicate q rev) + List.length ([rev] : List Int)) 8 = true :=
          room8 (by simp only [List.length_append, List.length_take, List.length_replicate, List.length_singleton]; omega) (by omega)
        unfold i_carryRuns_L1
        simp only [h1, h2, decide_true, if_true, idx_succ (show c[i].2.2.length ≤ 1099511627776 by omega) hq]
        simp only [List.append_assoc, List.replicate_succ']) (by
          have h1 : ¬ (((c[i].2.2.length : Nat)) : Int) < ((c[i].2.2.length : Nat) : Int) := by omega
          unfold i_carryRuns_L1
          simp only [h1, decide_false, Bool.false_eq_true, if_false, brg_take hs hi])
      simpa using this
    unfold i_carryRuns_L2
    simp only [hc, decide_true, if_true, show (0 : Int) ≤ ((i : Nat) : Int) from by omega, Int.toNat_natCast, List.getElem?_eq_getElem hi, Option.bind_some, w1, w2, w3, n1, hll, hle, Int.le_refl, e1, hr, inner, idx_succ (show c.length ≤ 1099511627776 by omega) hi]) (by simp [i_carryRuns_L2])
  have e : loopG i_carryRuns_L2 (rev, all, [], 0, c, ((c.length : Nat) : Int), 0) = some (brg rev all c) := by simpa [brg, src] using main
  rw [e, Option.bind_some, i_runs_eq (by omega)]; rfl
theorem s_Carry9_eq {l : List Rn} {c : List Prt} {rev : Int} (hg : good c = true) (hp : Pos l) (hl : rsum l = src c) : s_l9Carry l c rev = some (carR l c rev) := by
  obtain ⟨g1, g2, g3⟩ := good_spec hg
  have hs := okk_some g1
  have hsm := good_sm hg
  have hclen := hsm.len
  have hall : (((revs l).length : Nat) : Int) = src c := by rw [revs_len hp, hl]
  have hbl := brg_len rev c (revs l) hs hall
  unfold s_l9Carry carR
  rw [s_Each_eq hp (by omega), Option.bind_some]
  generalize revs l = all at hall hbl ⊢
  have main := loop_run s_l9Carry_L2 (fun i => (rev, all, runsOf (brg rev all (c.take i)), src (c.take i), c, ((c.length : Nat) : Int), ((i : Nat) : Int))) c.length (runsOf (brg rev all c)) (by
    intro i hi
    have hc : ((i : Nat) : Int) < ((c.length : Nat) : Int) := by omega
    have hpi := hs _ (List.getElem_mem hi)
    have k0 := hpi.k; have d0 := hpi.d
    have n1 := src_nonneg (l := c.take i) fun p h => hs p (mem_take h)
    have n3 := src_nonneg (l := c.drop (i + 1)) fun p h => hs p (mem_drop h)
    have a1 := src_at hi
    have a2 := src_take hi
    have hput : c[i].2.2.length ≤ 240 := Nat.le_trans (psum_mem (List.getElem_mem hi)) hsm.put
    have hb1 : (brg rev all (c.take (i + 1))).length ≤ 120 := by
      have h2 : brg rev all c = brg rev all (c.take (i + 1)) ++ brg rev (all.drop (src (c.take (i + 1))).toNat) (c.drop (i + 1)) := by
        conv => lhs; rw [← List.take_append_drop (i + 1) c]
        exact brg_append rev _ _ _ fun p hp => hs p (mem_take hp)
      have h3 : (brg rev all c).length = (brg rev all (c.take (i + 1))).length + (brg rev (all.drop (src (c.take (i + 1))).toNat) (c.drop (i + 1))).length := by rw [h2, List.length_append]
      omega
    have hbt := brg_take (rev := rev) (all := all) hs hi
    have hbt2 : (brg rev all (c.take (i + 1))).length = ((brg rev all (c.take i)).length + ((all.drop (src (c.take i)).toNat).take c[i].1.toNat).length) + c[i].2.2.length := by rw [hbt]; simp only [List.length_append, List.length_replicate]
    have w2 : IntKind.wrap .i64 (c[i].1 + c[i].2.1) = c[i].1 + c[i].2.1 := w64 (by omega) (by omega)
    have w3 : IntKind.wrap .i64 (src (c.take i) + (c[i].1 + c[i].2.1)) = src (c.take (i + 1)) := by rw [w64 (by omega) (by omega)]; omega
    generalize hX : brg rev all (c.take i) = X at hbt hbt2
    have hlt2 : ((all.drop (src (c.take i)).toNat).take c[i].1.toNat).length = c[i].1.toNat := by rw [List.length_take, List.length_drop]; omega
    have inner : loopG s_l9Carry_L1 (rev, all, runsOf X, src (c.take i), 0, c, ((c.length : Nat) : Int), ((i : Nat) : Int), c[i].1, c[i].2.1, c[i].2.2) =
        some (rev, all, runsOf (X ++ (all.drop (src (c.take i)).toNat).take c[i].1.toNat), src (c.take i), c, ((c.length : Nat) : Int), ((i : Nat) : Int), c[i].1, c[i].2.1, c[i].2.2) := by
      have := loop_run s_l9Carry_L1 (fun q => (rev, all, runsOf (X ++ (all.drop (src (c.take i)).toNat).take q), src (c.take i), ((q : Nat) : Int), c, ((c.length : Nat) : Int), ((i : Nat) : Int), c[i].1, c[i].2.1, c[i].2.2)) c[i].1.toNat
        (rev, all, runsOf (X ++ (all.drop (src (c.take i)).toNat).take c[i].1.toNat), src (c.take i), c, ((c.length : Nat) : Int), ((i : Nat) : Int), c[i].1, c[i].2.1, c[i].2.2) (by
        intro q hq
        have h1 : ((q : Nat) : Int) < c[i].1 := by omega
        have w : IntKind.wrap .i64 (src (c.take i) + ((q : Nat) : Int)) = src (c.take i) + ((q : Nat) : Int) := w64 (by omega) (by omega)
        have h2 : (0 : Int) ≤ src (c.take i) + ((q : Nat) : Int) := by omega
        have h3 : src (c.take i) + ((q : Nat) : Int) < ((all.length : Nat) : Int) := by omega
        have hi2 : (src (c.take i)).toNat + q < all.length := by omega
        have e2 : (src (c.take i) + ((q : Nat) : Int)).toNat = (src (c.take i)).toNat + q := by omega
        obtain ⟨r1, _⟩ := runsOn_spec (X ++ (all.drop (src (c.take i)).toNat).take q) Rs.nil (by rw [List.length_append, List.length_take]; omega)
        have hln := rlen_le r1.pos
        rw [r1.sum, List.length_append, List.length_take] at hln
        have h5 : IntKind.wrap .i64 (((q : Nat) : Int) + 1) = ((q + 1 : Nat) : Int) := by rw [w64 (by omega) (by omega)]; omega
        have hd : q < (all.drop (src (c.take i)).toNat).length := by rw [List.length_drop]; omega
        have ht : X ++ (all.drop (src (c.take i)).toNat).take (q + 1) = (X ++ (all.drop (src (c.take i)).toNat).take q) ++ [all[(src (c.take i)).toNat + q]] := by
          rw [List.take_succ_eq_append_getElem hd, List.append_assoc, List.getElem_drop]
        unfold s_l9Carry_L1
        simp only [h1, decide_true, if_true, w, h2, h3, Nat.zero_add, e2, List.getElem?_eq_getElem hi2, Option.bind_some, s_l9Add_eq (show (runsOf (X ++ (all.drop (src (c.take i)).toNat).take q)).length ≤ 1000000000 from by unfold runsOf; omega), h5, ht]
        simp [runsOf, runsOn]) (by
          have h1 : ¬ (((c[i].1.toNat : Nat)) : Int) < c[i].1 := by omega
          unfold s_l9Carry_L1
          simp only [h1, decide_false, Bool.false_eq_true, if_false])
      simpa using this
    obtain ⟨r1, _⟩ := runsOn_spec (X ++ (all.drop (src (c.take i)).toNat).take c[i].1.toNat) Rs.nil (by rw [List.length_append]; omega)
    have hln := rlen_le r1.pos
    rw [r1.sum, List.length_append] at hln
    have hadd : addr (runsOf (X ++ (all.drop (src (c.take i)).toNat).take c[i].1.toNat)) (rev, ((c[i].2.2.length : Nat) : Int)) = runsOf (brg rev all (c.take (i + 1))) := by
      rw [hbt]
      unfold runsOf
      rw [addr_many r1 rev _ (by rw [List.length_append]; omega), ← runsOn_append]
    unfold s_l9Carry_L2
    simp only [hc, decide_true, if_true, show (0 : Int) ≤ ((i : Nat) : Int) from by omega, Int.toNat_natCast, List.getElem?_eq_getElem hi, Option.bind_some, inner, s_l9Add_eq (show (runsOf (X ++ (all.drop (src (c.take i)).toNat).take c[i].1.toNat)).length ≤ 1000000000 from by unfold runsOf; omega), hadd, w2, w3, idx_succ (show c.length ≤ 1099511627776 by omega) hi]) (by simp [s_l9Carry_L2])
  have e : loopG s_l9Carry_L2 (rev, all, [], 0, c, ((c.length : Nat) : Int), 0) = some (runsOf (brg rev all c)) := by simpa [brg, src, runsOf, runsOn] using main
  rw [e]; rfl
end Go.V.G

set_option linter.unusedVariables false
set_option linter.unusedSimpArgs false
set_option maxRecDepth 100000
namespace Go.V.G
open Go.V
theorem clone_run {r : List Rn} (h : r.length ≤ 1099511627776) : slices_Clone_loop_example_g00083_impl_Run_loop_example_g00083_impl_Run r = some r := by
  unfold slices_Clone_loop_example_g00083_impl_Run_loop_example_g00083_impl_Run
  have hr : roomFor (List.length ([] : List Rn) + List.length r) 16 = true := room8 (by simpa using h) (by omega)
  cases r with
  | nil => simp [bothQ, roomFor]
  | cons a x => simp only [bothQ, List.isEmpty_cons, Bool.false_eq_true, if_false, Option.bind_some, hr, if_true, List.nil_append]
theorem chn_drop {cs : List (List Prt)} {i : Nat} (h : i < cs.length) (n : Int) : chn n (cs.drop i) = ((good cs[i] && decide (src cs[i] = n)) && chn (tgt cs[i]) (cs.drop (i + 1))) := by
  rw [List.drop_eq_getElem_cons h]; rfl
theorem i_chained_eq {cs : List (List Prt)} (hn : cs.length ≤ 1099511627776) (hs : ∀ c ∈ cs, Sm 1099511627776 c) (n : Int) : i_chained n cs = some (chn n cs) := by
  unfold i_chained
  refine Ok.eq (Ok.bind (Q := fun r => match r with | .inl _ => chn n cs = true | .inr b => b = chn n cs) ?_ (by
    rintro (y | b) hr
    · exact Ok.mk hr.symm
    · exact Ok.mk hr))
  refine Ok.loop (fun y => y.2.1 = cs ∧ y.2.2.1 = ((cs.length : Nat) : Int) ∧ ∃ i : Nat, y.2.2.2 = ((i : Nat) : Int) ∧ i ≤ cs.length ∧ chn n cs = chn y.1 (cs.drop i)) (fun y => (((cs.length : Nat) : Int) - y.2.2.2).toNat) ⟨rfl, rfl, 0, rfl, Nat.zero_le _, rfl⟩ ?_
  rintro ⟨m, cs', l, i'⟩ ⟨e1, e2, i, e3, hi, hk⟩
  dsimp only at e1 e2 e3 hk
  subst e1 e2 e3
  unfold i_chained_L1
  dsimp only
  refine Ok.ite (fun hc => ?_) fun hc => ?_
  · have hlt : i < cs'.length := by simpa using hc
    have hge : cs'[Int.toNat ((i : Nat) : Int)]? = some cs'[i] := by simp [hlt]
    refine Ok.yes (by simp) (Ok.bind_eq hge (Ok.bind_eq (i_LengthsOf_eq (hs _ (List.getElem_mem hlt)) (by omega)) ?_))
    rw [chn_drop hlt] at hk
    unfold lensOf
    cases hg : good cs'[i] with
    | false =>
      rw [hg] at hk
      refine Ok.bind_eq (r := (0, cs', ((cs'.length : Nat) : Int), ((i : Nat) : Int), true)) (by simp) (Ok.yes rfl (Ok.mk ?_))
      dsimp only; rw [hk]; simp
    | true =>
      rw [hg] at hk
      refine Ok.bind_eq (r := (tgt cs'[i], cs', ((cs'.length : Nat) : Int), ((i : Nat) : Int), decide (¬ src cs'[i] = m))) (by simp) ?_
      dsimp only
      refine Ok.ite (fun hb => Ok.mk ?_) fun hb => Ok.mk ⟨⟨rfl, rfl, i + 1, idx_succ hn hlt, by omega, ?_⟩, ?_⟩
      · have : ¬ src cs'[i] = m := by simpa using hb
        dsimp only; rw [hk]; simp [this]
      · have : src cs'[i] = m := by simpa using hb
        dsimp only; rw [hk]; simp [this]
      · rw [idx_succ hn hlt]; dsimp only; omega
  · have : i = cs'.length := by
      have : ¬ ((i : Int) < ((List.length cs' : Nat) : Int)) := by simpa using hc
      omega
    subst this
    refine Ok.mk ?_
    dsimp only
    rw [hk, List.drop_length]; rfl
theorem i_GoodHistory_eq {t : List UInt8} {r : List Rn} {cs : List (List Prt)} (h : HB t r cs) (f : Int) : i_GoodHistory f t r cs = some (goodH f t r cs) := by
  unfold i_GoodHistory goodH
  refine Ok.eq (Ok.bind (Q := fun b => b = _) ?_ (fun b hb => Ok.mk hb))
  refine Ok.bind_eq (i_within_eq _ _ _) (Ok.ite (fun q1 => ?_) fun q1 => Ok.mk ?_)
  · have q1' : 0 ≤ f ∧ f ≤ 60 := by simpa using q1
    rw [show decide (0 ≤ f ∧ f ≤ 60) = true from q1, Bool.true_and]
    refine Ok.ite (fun q2 => Ok.bind_eq (i_GoodRuns_eq h.hr _ _) (Ok.ite (fun q3 => ?_) fun q3 => Ok.mk ?_)) fun q2 => Ok.mk ?_
    · rw [show decide (((t.length : Nat) : Int) ≤ 120) = true from q2, q3, Bool.true_and, Bool.true_and]
      rw [w64 (show -9223372036854775808 ≤ 60 - f by omega) (by omega)]
      refine Ok.ite (fun q4 => Ok.bind_eq (i_chained_eq h.hn h.hc _) (Ok.mk ?_)) fun q4 => Ok.mk ?_
      · rw [q4, Bool.true_and]
      · have : decide (((cs.length : Nat) : Int) ≤ 60 - f) = false := by simpa using q4
        rw [this, Bool.false_and]
    · have : goodRuns r ((t.length : Nat) : Int) f = false := by simpa using q3
      rw [this]; simp
    · have : decide (((t.length : Nat) : Int) ≤ 120) = false := by simpa using q2
      rw [this]; simp
  · have : decide (0 ≤ f ∧ f ≤ 60) = false := by simpa using q1
    rw [this]; simp
theorem s_GoodHistory_eq {t : List UInt8} {r : List Rn} {cs : List (List Prt)} (h : HB t r cs) (f : Int) : s_GoodHistory f t r cs = some (goodH f t r cs) := by
  have hn := h.hn
  unfold s_GoodHistory
  refine Ok.eq (Ok.bind (Q := fun v => v = (!(decide (0 ≤ f ∧ f ≤ 60) && (decide (((t.length : Nat) : Int) ≤ 120) && (goodRuns r ((t.length : Nat) : Int) f && decide (((cs.length : Nat) : Int) ≤ 60 - f)))), f, t, r, cs)) ?_ ?_)
  · refine Ok.bind_eq (s_In_eq _ _ _) (Ok.ite (fun q1 => Ok.mk ?_) fun q1 => Ok.ite (fun q2 => Ok.mk ?_) fun q2 => Ok.bind_eq (s_GoodRuns_eq h.hr _ _) (Ok.ite (fun q3 => Ok.mk ?_) fun q3 => Ok.mk ?_))
    · have : decide (0 ≤ f ∧ f ≤ 60) = false := by simpa only [Bool.not_eq_true'] using q1
      rw [this]; rfl
    · have : ¬ ((t.length : Nat) : Int) ≤ 120 := by have : (120 : Int) < ((t.length : Nat) : Int) := by simpa using q2
                                                    omega
      simp [this]
    · have : goodRuns r ((t.length : Nat) : Int) f = false := by simpa only [Bool.not_eq_true'] using q3
      rw [this]; simp
    · have g1 : 0 ≤ f ∧ f ≤ 60 := by simpa using q1
      have g2 : ((t.length : Nat) : Int) ≤ 120 := by
        have : ¬ (120 : Int) < ((t.length : Nat) : Int) := by simpa using q2
        omega
      have g3 : goodRuns r ((t.length : Nat) : Int) f = true := by simpa only [Bool.not_eq_true', Bool.not_eq_false] using q3
      rw [w64 (show -9223372036854775808 ≤ 60 - f by omega) (by omega), g3]
      simp only [g1, and_self, decide_true, g2, Bool.true_and]
      congr 1
      by_cases hx : 60 - f < ((cs.length : Nat) : Int)
      · have : ¬ ((cs.length : Nat) : Int) ≤ 60 - f := by omega
        simp [hx, this]
      · have : ((cs.length : Nat) : Int) ≤ 60 - f := by omega
        simp [hx, this]
  rintro _ rfl
  dsimp only
  have split : goodH f t r cs = ((decide (0 ≤ f ∧ f ≤ 60) && (decide (((t.length : Nat) : Int) ≤ 120) && (goodRuns r ((t.length : Nat) : Int) f && decide (((cs.length : Nat) : Int) ≤ 60 - f)))) && chn ((t.length : Nat) : Int) cs) := by
    unfold goodH; simp only [Bool.and_assoc]
  rw [split]
  refine Ok.ite (fun hb => Ok.mk ?_) fun hb => ?_
  · have : (decide (0 ≤ f ∧ f ≤ 60) && (decide (((t.length : Nat) : Int) ≤ 120) && (goodRuns r ((t.length : Nat) : Int) f && decide (((cs.length : Nat) : Int) ≤ 60 - f)))) = false := by simpa only [Bool.not_eq_true'] using hb
    rw [this]; rfl
  have hb' : (decide (0 ≤ f ∧ f ≤ 60) && (decide (((t.length : Nat) : Int) ≤ 120) && (goodRuns r ((t.length : Nat) : Int) f && decide (((cs.length : Nat) : Int) ≤ 60 - f)))) = true := by simpa only [Bool.not_eq_true', Bool.not_eq_false] using hb
  rw [hb', Bool.true_and]
  have ht : ((t.length : Nat) : Int) ≤ 120 := by simp only [Bool.and_eq_true, decide_eq_true_eq] at hb'; exact hb'.2.1
  refine Ok.bind (Q := fun r => match r with | .inl _ => chn ((t.length : Nat) : Int) cs = true | .inr b => b = chn ((t.length : Nat) : Int) cs) ?_ (by
    rintro (y | b) hr
    · exact Ok.mk hr.symm
    · exact Ok.mk hr)
  refine Ok.loop (fun y => y.2.1 = cs ∧ y.2.2.1 = ((cs.length : Nat) : Int) ∧ ∃ i : Nat, y.2.2.2 = ((i : Nat) : Int) ∧ i ≤ cs.length ∧ chn ((t.length : Nat) : Int) cs = chn y.1 (cs.drop i)) (fun y => (((cs.length : Nat) : Int) - y.2.2.2).toNat) ⟨rfl, rfl, 0, rfl, Nat.zero_le _, rfl⟩ ?_
  rintro ⟨m, cs', l, i'⟩ ⟨e1, e2, i, e3, hi, hk⟩
  dsimp only at e1 e2 e3 hk
  subst e1 e2 e3
  unfold s_GoodHistory_L1
  dsimp only
  refine Ok.ite (fun hc => ?_) fun hc => ?_
  · have hlt : i < cs'.length := by simpa using hc
    have hge : cs'[Int.toNat ((i : Nat) : Int)]? = some cs'[i] := by simp [hlt]
    have sm := h.hc _ (List.getElem_mem hlt)
    refine Ok.yes (by simp) (Ok.bind_eq hge ?_)
    rw [chn_drop hlt] at hk
    cases hg : good cs'[i] with
    | false =>
      rw [hg] at hk
      refine Ok.bind_eq (r := (cs', ((cs'.length : Nat) : Int), ((i : Nat) : Int), true, cs'[i])) (by rw [s_Good_eq sm (by omega), hg]; rfl) (Ok.yes rfl (Ok.mk ?_))
      dsimp only; rw [hk]; simp
    | true =>
      rw [hg] at hk
      have ss := okk_some (good_spec hg).1
      have g2 := (good_spec hg).2
      refine Ok.bind_eq (r := (cs', ((cs'.length : Nat) : Int), ((i : Nat) : Int), decide (¬ src cs'[i] = m), cs'[i])) (by rw [s_Good_eq sm (by omega), hg, Option.bind_some, if_neg (by simp), s_Source_eq sm (by omega) ss (by omega)]; rfl) ?_
      dsimp only
      refine Ok.ite (fun hb => Ok.mk ?_) fun hb => Ok.bind_eq (s_Target_eq sm (by omega) ss (by omega)) (Ok.mk ⟨⟨rfl, rfl, i + 1, idx_succ hn hlt, by omega, ?_⟩, ?_⟩)
      · have : ¬ src cs'[i] = m := by simpa using hb
        dsimp only; rw [hk]; simp [this]
      · have : src cs'[i] = m := by simpa using hb
        dsimp only; rw [hk]; simp [this]
      · rw [idx_succ hn hlt]; dsimp only; omega
  · have : i = cs'.length := by
      have : ¬ ((i : Int) < ((List.length cs' : Nat) : Int)) := by simpa using hc
      omega
    subst this
    refine Ok.mk ?_
    dsimp only
    rw [hk, List.drop_length]; rfl
theorem i_code_eq {t : List UInt8} {r : List Rn} {cs : List (List Prt)} (h : HB t r cs) (f a b : Int) : i_History_code f t r cs a b = some (codeH f t r cs a b) := by
  unfold i_History_code codeH
  rw [i_GoodHistory_eq h, Option.bind_some]
  cases hg : goodH f t r cs with
  | false => simp
  | true =>
    have g := goodH_iff.1 hg
    have := g.hf; have := g.hn
    have w : IntKind.wrap .i64 (f + ((cs.length : Nat) : Int)) = f + ((cs.length : Nat) : Int) := w64 (by omega) (by omega)
    simp only [Bool.not_true, Bool.false_eq_true, if_false, if_true, i_History_head, Option.bind_some, w]
    by_cases h1 : a < f
    · have : ¬ (f ≤ a ∧ a ≤ b ∧ b ≤ f + ((cs.length : Nat) : Int)) := by omega
      simp [h1, this]
    · by_cases h2 : b < a
      · have : ¬ (f ≤ a ∧ a ≤ b ∧ b ≤ f + ((cs.length : Nat) : Int)) := by omega
        simp [h1, h2, this]
      · by_cases h3 : f + ((cs.length : Nat) : Int) < b
        · have : ¬ (f ≤ a ∧ a ≤ b ∧ b ≤ f + ((cs.length : Nat) : Int)) := by omega
          simp [h1, h2, h3, this]
        · have : (f ≤ a ∧ a ≤ b ∧ b ≤ f + ((cs.length : Nat) : Int)) := by omega
          simp [h1, h2, h3, this]
theorem s_range_eq {t : List UInt8} {r : List Rn} {cs : List (List Prt)} (h : HB t r cs) (f a b : Int) : s_l10Range f t r cs a b = some (codeH f t r cs a b) := by
  unfold s_l10Range codeH
  rw [s_GoodHistory_eq h, Option.bind_some]
  cases hg : goodH f t r cs with
  | false => simp
  | true =>
    have g := goodH_iff.1 hg
    have := g.hf; have := g.hn
    have w : IntKind.wrap .i64 (f + ((cs.length : Nat) : Int)) = f + ((cs.length : Nat) : Int) := w64 (by omega) (by omega)
    simp only [Bool.not_true, Bool.false_eq_true, if_false, if_true, s_l10Head, Option.bind_some, w, s_In_eq]
    by_cases h1 : f ≤ a ∧ a ≤ b
    · by_cases h3 : f + ((cs.length : Nat) : Int) < b
      · have : ¬ (f ≤ a ∧ a ≤ b ∧ b ≤ f + ((cs.length : Nat) : Int)) := by omega
        simp [h1, h3, this]
      · have : (f ≤ a ∧ a ≤ b ∧ b ≤ f + ((cs.length : Nat) : Int)) := by omega
        simp [h1, h3, this]
    · have : ¬ (f ≤ a ∧ a ≤ b ∧ b ≤ f + ((cs.length : Nat) : Int)) := by omega
      simp [h1, this]
theorem s_apply_loop : s_ApplyChange_L1 = i_apply_L1 := rfl
theorem s_apply_eq {c : List Prt} (hg : good c = true) {t : List UInt8} (ht : ((t.length : Nat) : Int) = src c) : s_ApplyChange t c = some (apply t c, true) := by
  have hs := okk_some (good_spec hg).1
  have sm := good_sm hg
  have sle := (good_spec hg).2.1
  have ha := i_apply_eq hg ht
  unfold i_apply at ha
  rw [Option.bind_eq_some_iff] at ha
  obtain ⟨z, hz, he⟩ := ha
  obtain rfl : z = apply t c := Option.some.inj he
  unfold s_ApplyChange
  rw [s_Good_eq sm (by omega), hg, Option.bind_some, if_neg (by simp), s_Source_eq sm (by omega) hs (by omega), Option.bind_some, Option.bind_some, if_neg (by simp [ht]), s_apply_loop]
  rw [hz]; rfl
theorem txt_take {t : List UInt8} {cs : List (List Prt)} {i : Nat} (h : i < cs.length) : txt t (cs.take (i + 1)) = apply (txt t (cs.take i)) cs[i] := by
  unfold txt; rw [List.take_succ_eq_append_getElem h, List.foldl_append]; rfl
theorem chn_at {n : Int} {cs : List (List Prt)} (h : chn n cs = true) {i : Nat} (hi : i < cs.length) : good cs[i] = true ∧ src cs[i] = endl n (cs.take i) ∧ endl n (cs.take (i + 1)) = tgt cs[i] := by
  have h2 := (chn_take h i).2
  rw [List.drop_eq_getElem_cons hi] at h2
  obtain ⟨k1, k2, k3⟩ := chn_cons h2
  refine ⟨k1, k2, ?_⟩
  rw [List.take_succ_eq_append_getElem hi, endl_append]; rfl
theorem i_text_loop {t : List UInt8} {cs : List (List Prt)} (hn : cs.length ≤ 1099511627776) (hc : chn ((t.length : Nat) : Int) cs = true) : loopG i_History_text_L1 (t, cs, ((cs.length : Nat) : Int), 0) = some (txt t cs) := by
  have := loop_run i_History_text_L1 (fun i => (txt t (cs.take i), cs, ((cs.length : Nat) : Int), ((i : Nat) : Int))) cs.length (txt t cs) (by
    intro i hi
    have hlt : ((i : Nat) : Int) < ((cs.length : Nat) : Int) := by omega
    obtain ⟨k1, k2, k3⟩ := chn_at hc hi
    have hl := txt_len (chn_take hc i).1
    unfold i_History_text_L1
    simp only [hlt, decide_true, if_true, show (0 : Int) ≤ ((i : Nat) : Int) from by omega, Int.toNat_natCast, List.getElem?_eq_getElem hi, Option.bind_some, i_apply_eq k1 (by rw [hl, k2]), idx_succ hn hi, txt_take hi]) (by simp [i_History_text_L1])
  simpa [txt] using this
theorem s_text_loop {t : List UInt8} {cs : List (List Prt)} (hn : cs.length ≤ 1099511627776) (hc : chn ((t.length : Nat) : Int) cs = true) : loopG s_l10Text_L1 (t, cs, ((cs.length : Nat) : Int), 0) = some (txt t cs) := by
  have := loop_run s_l10Text_L1 (fun i => (txt t (cs.take i), cs, ((cs.length : Nat) : Int), ((i : Nat) : Int))) cs.length (txt t cs) (by
    intro i hi
    have hlt : ((i : Nat) : Int) < ((cs.length : Nat) : Int) := by omega
    obtain ⟨k1, k2, k3⟩ := chn_at hc hi
    have hl := txt_len (chn_take hc i).1
    unfold s_l10Text_L1
    simp only [hlt, decide_true, if_true, show (0 : Int) ≤ ((i : Nat) : Int) from by omega, Int.toNat_natCast, List.getElem?_eq_getElem hi, Option.bind_some, s_apply_eq k1 (by rw [hl, k2]), idx_succ hn hi, txt_take hi]) (by simp [s_l10Text_L1])
  simpa [txt] using this
section
variable {f : Int} {t : List UInt8} {r : List Rn} {cs : List (List Prt)}
theorem i_text_eq (g : GH f t r cs) {x : Int} (h1 : f ≤ x) (h2 : x ≤ f + cs.length) : i_History_text f t r cs x = some (txt t (cs.take (x - f).toNat)) := by
  have := g.hf; have := g.hn
  have w : IntKind.wrap .i64 (x - f) = x - f := w64 (by omega) (by omega)
  have hl := i_text_loop (cs := cs.take (x - f).toNat) (by rw [List.length_take]; omega) (chn_take g.hc _).1
  unfold i_History_text
  simp only [w, Int.le_refl, decide_true, if_true, show (0 : Int) ≤ x - f from by omega, show x - f ≤ ((cs.length : Nat) : Int) from by omega, Int.toNat_zero, List.drop_zero, Nat.sub_zero]
  rw [hl]; rfl
theorem s_text_eq (g : GH f t r cs) {x : Int} (h1 : f ≤ x) (h2 : x ≤ f + cs.length) : s_l10Text f t r cs x = some (txt t (cs.take (x - f).toNat)) := by
  have := g.hf; have := g.hn
  have w : IntKind.wrap .i64 (x - f) = x - f := w64 (by omega) (by omega)
  have hl := s_text_loop (cs := cs.take (x - f).toNat) (by rw [List.length_take]; omega) (chn_take g.hc _).1
  unfold s_l10Text
  simp only [w, Int.le_refl, decide_true, if_true, show (0 : Int) ≤ x - f from by omega, show x - f ≤ ((cs.length : Nat) : Int) from by omega, Int.toNat_zero, List.drop_zero, Nat.sub_zero]
  rw [hl]; rfl
theorem text_in (g : GH f t r cs) (k : Nat) : (((txt t (cs.take k)).length : Nat) : Int) = endl ((t.length : Nat) : Int) (cs.take k) ∧ 0 ≤ endl ((t.length : Nat) : Int) (cs.take k) ∧ endl ((t.length : Nat) : Int) (cs.take k) ≤ 120 :=
  ⟨txt_len (chn_take g.hc k).1, endl_in (chn_take g.hc k).1 (by omega) g.ht⟩
theorem blm_take {rev : Int} {l : List Rn} {cs : List (List Prt)} {i : Nat} (h : i < cs.length) : blm rev l (cs.take (i + 1)) = carR (blm rev l (cs.take i)) cs[i] (rev + i) := by
  rw [List.take_succ_eq_append_getElem h, blm_append, List.length_take, Nat.min_eq_left (Nat.le_of_lt h)]; rfl
theorem blm_good (g : GH f t r cs) (k : Nat) : goodRuns (blm (f + 1) r (cs.take k)) (endl ((t.length : Nat) : Int) (cs.take k)) (f + (cs.take k).length) = true := by
  have := g.hf; have := g.hn
  have hl : (cs.take k).length ≤ cs.length := by rw [List.length_take]; omega
  have := blm_spec (rev := f + 1) (chn_take g.hc k).1 (by rw [show f + 1 - 1 = f by omega]; exact g.hr) (by omega) (by omega)
  rwa [show f + 1 - 1 = f by omega] at this
theorem i_blame_eq (g : GH f t r cs) {x : Int} (h1 : f ≤ x) (h2 : x ≤ f + cs.length) : i_History_blame f t r cs x = some (blm (f + 1) r (cs.take (x - f).toNat)) := by
  have hb := g.hb
  have := g.hf; have := g.hn
  have w : IntKind.wrap .i64 (x - f) = x - f := w64 (by omega) (by omega)
  generalize hds : cs.take (x - f).toNat = ds
  have hdl : ds.length ≤ cs.length := by rw [← hds, List.length_take]; omega
  have main := loop_run i_History_blame_L1 (fun i => (blm (f + 1) r (ds.take i), ds, ((ds.length : Nat) : Int), ((i : Nat) : Int), f, t, r, cs)) ds.length (blm (f + 1) r ds) (by
    intro i hi
    have hlt : ((i : Nat) : Int) < ((ds.length : Nat) : Int) := by omega
    have hdc : chn ((t.length : Nat) : Int) ds = true := by rw [← hds]; exact (chn_take g.hc _).1
    obtain ⟨k1, k2, k3⟩ := chn_at hdc hi
    have hgr : goodRuns (blm (f + 1) r (ds.take i)) (endl ((t.length : Nat) : Int) (ds.take i)) (f + (ds.take i).length) = true := by
      have := blm_good g (min i (x - f).toNat)
      rwa [← List.take_take, hds] at this
    obtain ⟨_, _, h6⟩ := goodRuns_iff.1 hgr
    have w1 : IntKind.wrap .i64 (f + ((i : Nat) : Int)) = f + i := w64 (by omega) (by omega)
    have w2 : IntKind.wrap .i64 (f + ((i : Nat) : Int) + 1) = f + 1 + i := by rw [w64 (by omega) (by omega)]; omega
    unfold i_History_blame_L1
    simp only [hlt, decide_true, if_true, show (0 : Int) ≤ ((i : Nat) : Int) from by omega, Int.toNat_natCast, List.getElem?_eq_getElem hi, Option.bind_some, w1, w2, i_carryRuns_eq k1 h6.pos (by rw [h6.sum, k2]), idx_succ (show ds.length ≤ 1099511627776 by omega) hi, blm_take hi]) (by simp [i_History_blame_L1])
  have e : loopG i_History_blame_L1 (r, ds, ((ds.length : Nat) : Int), 0, f, t, r, cs) = some (blm (f + 1) r ds) := by simpa [blm] using main
  unfold i_History_blame
  rw [clone_run hb.hr, Option.bind_some]
  simp only [w, Int.le_refl, decide_true, if_true, show (0 : Int) ≤ x - f from by omega, show x - f ≤ ((cs.length : Nat) : Int) from by omega, Int.toNat_zero, List.drop_zero, Nat.sub_zero, hds]
  rw [e]; rfl
theorem s_blame_eq (g : GH f t r cs) {x : Int} (h1 : f ≤ x) (h2 : x ≤ f + cs.length) : s_l10Blame f t r cs x = some (blm (f + 1) r (cs.take (x - f).toNat)) := by
  have hb := g.hb
  have := g.hf; have := g.hn
  have w : IntKind.wrap .i64 (x - f) = x - f := w64 (by omega) (by omega)
  have hr : roomFor (List.length ([] : List Rn) + List.length r) 16 = true := room8 (by have := hb.hr; simpa using this) (by omega)
  generalize hds : cs.take (x - f).toNat = ds
  have hdl : ds.length ≤ cs.length := by rw [← hds, List.length_take]; omega
  have main := loop_run s_l10Blame_L1 (fun i => (blm (f + 1) r (ds.take i), ds, ((ds.length : Nat) : Int), ((i : Nat) : Int), f, t, r, cs)) ds.length (blm (f + 1) r ds) (by
    intro i hi
    have hlt : ((i : Nat) : Int) < ((ds.length : Nat) : Int) := by omega
    have hdc : chn ((t.length : Nat) : Int) ds = true := by rw [← hds]; exact (chn_take g.hc _).1
    obtain ⟨k1, k2, k3⟩ := chn_at hdc hi
    have hgr : goodRuns (blm (f + 1) r (ds.take i)) (endl ((t.length : Nat) : Int) (ds.take i)) (f + (ds.take i).length) = true := by
      have := blm_good g (min i (x - f).toNat)
      rwa [← List.take_take, hds] at this
    obtain ⟨_, _, h6⟩ := goodRuns_iff.1 hgr
    have w1 : IntKind.wrap .i64 (f + ((i : Nat) : Int)) = f + i := w64 (by omega) (by omega)
    have w2 : IntKind.wrap .i64 (f + ((i : Nat) : Int) + 1) = f + 1 + i := by rw [w64 (by omega) (by omega)]; omega
    unfold s_l10Blame_L1
    simp only [hlt, decide_true, if_true, show (0 : Int) ≤ ((i : Nat) : Int) from by omega, Int.toNat_natCast, List.getElem?_eq_getElem hi, Option.bind_some, w1, w2, s_Carry9_eq k1 h6.pos (by rw [h6.sum, k2]), idx_succ (show ds.length ≤ 1099511627776 by omega) hi, blm_take hi]) (by simp [s_l10Blame_L1])
  have e : loopG s_l10Blame_L1 (r, ds, ((ds.length : Nat) : Int), 0, f, t, r, cs) = some (blm (f + 1) r ds) := by simpa [blm] using main
  unfold s_l10Blame
  simp only [hr, w, Int.le_refl, decide_true, if_true, show (0 : Int) ≤ x - f from by omega, show x - f ≤ ((cs.length : Nat) : Int) from by omega, Int.toNat_zero, List.drop_zero, Nat.sub_zero, hds, List.nil_append]
  rw [e]; rfl
end
end Go.V.G

set_option linter.unusedVariables false
set_option linter.unusedSimpArgs false
set_option maxRecDepth 100000
namespace Go.V.G
open Go.V
section
variable {α : Type}
def wsum (w : α → Nat) : List α → Nat
  | [] => 0
  | x :: xs => w x + wsum w xs
end
end Go.V.G

set_option linter.unusedVariables false
set_option linter.unusedSimpArgs false
set_option maxRecDepth 100000
namespace Go.V.G
open Go.V
def fit_RunS (xs : List (Int × Int)) : Prop := xs.length ≤ maxLen
def w_RunS (xs : List (Int × Int)) : Nat := xs.length
def fit_PartS (xs : List (Int × (Int × List UInt8))) : Prop := xs.length ≤ maxLen ∧ ∀ x ∈ xs, x.2.2.length ≤ maxLen
def w_Part (x : Int × (Int × List UInt8)) : Nat := x.2.2.length
def w_PartS (xs : List (Int × (Int × List UInt8))) : Nat := xs.length + wsum w_Part xs
def fit_ChangeS (xs : List (List (Int × (Int × List UInt8)))) : Prop := xs.length ≤ maxLen ∧ ∀ x ∈ xs, fit_PartS x
def w_ChangeS (xs : List (List (Int × (Int × List UInt8)))) : Nat := xs.length + wsum w_PartS xs
end Go.V.G

set_option linter.unusedVariables false
set_option linter.unusedSimpArgs false
set_option maxRecDepth 100000
namespace Go.V.G
open Go.V
theorem n2 : ((2 : Nat) : Int) = 2 := rfl
theorem n3 : ((3 : Nat) : Int) = 3 := rfl
abbrev Hst := Int × (List UInt8 × (List (Int × Int) × List (List (Int × (Int × List UInt8)))))
def w_History (h : Hst) : Nat := h.2.1.length + w_RunS h.2.2.1 + w_ChangeS h.2.2.2
end Go.V.G

set_option linter.unusedVariables false
set_option linter.unusedSimpArgs false
set_option maxRecDepth 100000
namespace Go.V.G
open Go.V
structure FitP (c : List Prt) : Prop where
  l : fit_PartS c
  i : ∀ p ∈ c, I64 p.1 ∧ I64 p.2.1
structure FitH (t : List UInt8) (r : List Rn) (cs : List (List Prt)) : Prop where
  ht : t.length ≤ maxLen
  hr : fit_RunS r
  hc : fit_ChangeS cs
  hi : ∀ c ∈ cs, ∀ p ∈ c, I64 p.1 ∧ I64 p.2.1
theorem psum_w : ∀ c : List Prt, w_PartS c = c.length + psum c
  | [] => rfl
  | p :: c => by
    have ih := psum_w c
    simp only [w_PartS, wsum, w_Part, psum, List.length_cons] at ih ⊢
    omega
theorem wsum_le {α : Type} {w : α → Nat} {B : Nat} : ∀ {xs : List α}, (∀ x ∈ xs, w x ≤ B) → wsum w xs ≤ xs.length * B
  | [], _ => by simp [wsum]
  | x :: xs, h => by
    have ih := wsum_le (xs := xs) fun y hy => h y (by simp [hy])
    have := h x (by simp)
    simp only [wsum, List.length_cons, Nat.succ_mul]; omega
theorem w_good {c : List Prt} (h : good c = true) : w_PartS c ≤ 480 := by
  have := good_sm h
  have := this.len; have := (good_sm h).put
  rw [psum_w]; omega
theorem w_goods {cs : List (List Prt)} (h : ∀ c ∈ cs, good c = true) (hn : cs.length ≤ 1000) : w_ChangeS cs ≤ 1000000 := by
  have := wsum_le (w := w_PartS) (B := 480) fun c hc => w_good (h c hc)
  unfold w_ChangeS
  omega
theorem w_runs {l : List Rn} {n m : Int} (h : goodRuns l n m = true) : w_RunS l ≤ 120 := by
  obtain ⟨h1, _, h6⟩ := goodRuns_iff.1 h
  have := rlen_le h6.pos
  rw [h6.sum] at this
  unfold w_RunS
  omega
theorem GH.w {f : Int} {t : List UInt8} {r : List Rn} {cs : List (List Prt)} (g : GH f t r cs) : w_History (f, t, r, cs) ≤ 2000000 := by
  have := g.ht; have := g.hn; have := g.hf
  have h1 := w_goods (chn_mem g.hc) (by omega)
  have h2 := w_runs g.hr
  unfold w_History
  dsimp only
  omega
theorem codeH_zero {f a b : Int} {t : List UInt8} {r : List Rn} {cs : List (List Prt)} (h : codeH f t r cs a b = 0) : GH f t r cs ∧ f ≤ a ∧ a ≤ b ∧ b ≤ f + cs.length := by
  unfold codeH at h
  split at h
  · rename_i hg
    split at h
    · rename_i hx; exact ⟨goodH_iff.1 hg, hx⟩
    · cases h
  · cases h
end Go.V.G

set_option linter.unusedVariables false
set_option linter.unusedSimpArgs false
set_option maxRecDepth 100000
namespace Go.V.G
open Go.V
abbrev fcomp (a : List Prt) (cs : List (List Prt)) : List Prt := cs.foldl (fun a c => composed a c) a
theorem fcomp_take {a : List Prt} {cs : List (List Prt)} {i : Nat} (h : i < cs.length) : fcomp a (cs.take (i + 1)) = composed (fcomp a (cs.take i)) cs[i] := by
  unfold fcomp; rw [List.take_succ_eq_append_getElem h, List.foldl_append]; rfl
theorem fcomp_at {a : List Prt} {cs : List (List Prt)} (ha : good a = true) (hc : chn (tgt a) cs = true) {i : Nat} (hi : i < cs.length) :
    good (fcomp a (cs.take i)) = true ∧ good cs[i] = true ∧ tgt (fcomp a (cs.take i)) = src cs[i] := by
  obtain ⟨k1, k2, k3⟩ := chn_at hc hi
  obtain ⟨r1, r2, r3⟩ := fold_spec ha (chn_take hc i).1
  exact ⟨r1, k1, by rw [r3, k2]⟩
theorem s_comp_loop {a : List Prt} {cs : List (List Prt)} (hn : cs.length ≤ 1099511627776) (ha : good a = true) (hc : chn (tgt a) cs = true) : loopG s_l10Between_L1 (a, cs, ((cs.length : Nat) : Int), 0) = some (fcomp a cs) := by
  have := loop_run s_l10Between_L1 (fun i => (fcomp a (cs.take i), cs, ((cs.length : Nat) : Int), ((i : Nat) : Int))) cs.length (fcomp a cs) (by
    intro i hi
    have hlt : ((i : Nat) : Int) < ((cs.length : Nat) : Int) := by omega
    obtain ⟨k1, k2, k3⟩ := fcomp_at ha hc hi
    unfold s_l10Between_L1
    simp only [hlt, decide_true, if_true, show (0 : Int) ≤ ((i : Nat) : Int) from by omega, Int.toNat_natCast, List.getElem?_eq_getElem hi, Option.bind_some, s_compose_eq k1 k2 k3, idx_succ hn hi, fcomp_take hi]) (by simp [s_l10Between_L1])
  simpa using this
section
variable {f : Int} {t : List UInt8} {r : List Rn} {cs : List (List Prt)}
def seg (cs : List (List Prt)) (a b : Int) : List (List Prt) := (cs.drop a.toNat).take (b.toNat - a.toNat)
def lenAt (t : List UInt8) (cs : List (List Prt)) (a : Int) : Int := endl ((t.length : Nat) : Int) (cs.take a.toNat)
def between (f : Int) (t : List UInt8) (cs : List (List Prt)) (a b : Int) : List Prt := btw (lenAt t cs (a - f)) (seg cs (a - f) (b - f))
theorem seg_chn (g : GH f t r cs) (a b : Int) : chn (lenAt t cs a) (seg cs a b) = true := (chn_take (chn_take g.hc a.toNat).2 _).1
theorem seg_end (g : GH f t r cs) {a b : Int} (h0 : 0 ≤ a) (h1 : a ≤ b) : endl (lenAt t cs a) (seg cs a b) = lenAt t cs b := by
  unfold lenAt seg
  rw [← endl_append, ← List.take_add]
  congr 2; omega
theorem lenAt_in (g : GH f t r cs) (a : Int) : 0 ≤ lenAt t cs a ∧ lenAt t cs a ≤ 120 := endl_in (chn_take g.hc _).1 (by omega) g.ht
theorem between_spec (g : GH f t r cs) {a b : Int} (h0 : f ≤ a) (h1 : a ≤ b) : good (between f t cs a b) = true ∧ src (between f t cs a b) = lenAt t cs (a - f) ∧ tgt (between f t cs a b) = lenAt t cs (b - f) := by
  obtain ⟨k1, k2⟩ := lenAt_in g (a - f)
  obtain ⟨r1, r2, r3⟩ := btw_spec (seg_chn g (a - f) (b - f)) k1 k2
  exact ⟨r1, r2, by rw [between, r3, seg_end g (by omega) (by omega)]⟩
theorem s_between_eq (g : GH f t r cs) {a b : Int} (h0 : f ≤ a) (h1 : a ≤ b) (h2 : b ≤ f + cs.length) : s_l10Between f t r cs a b = some (between f t cs a b) := by
  have := g.hf; have := g.hn
  have w1 : IntKind.wrap .i64 (a - f) = a - f := w64 (by omega) (by omega)
  have w2 : IntKind.wrap .i64 (b - f) = b - f := w64 (by omega) (by omega)
  obtain ⟨k1, k2⟩ := lenAt_in g (a - f)
  obtain ⟨i1, i2, i3, i4⟩ := idc_spec k1 k2
  have hadd : addp [] (lenAt t cs (a - f), 0, []) = idc (lenAt t cs (a - f)) := by
    unfold addp idc
    by_cases h : lenAt t cs (a - f) = 0 <;> simp [h]
  have hln : (seg cs (a - f) (b - f)).length ≤ 1099511627776 := by unfold seg; rw [List.length_take, List.length_drop]; omega
  have hlp := s_comp_loop hln i1 (by rw [i4]; exact seg_chn g (a - f) (b - f))
  unfold s_l10Between
  rw [s_text_eq g h0 (by omega), Option.bind_some, (text_in g _).1, show endl ((t.length : Nat) : Int) (cs.take (a - f).toNat) = lenAt t cs (a - f) from rfl,
    s_l1Add_eq (Sm.nil 0) (by omega) _ 0 [] (by simp), Option.bind_some, hadd, w1, w2, show (List.drop (a - f).toNat cs).take ((b - f).toNat - (a - f).toNat) = seg cs (a - f) (b - f) from rfl, hlp]
  simp only [Option.bind_some, Int.le_refl, decide_true, if_true, show (0 : Int) ≤ a - f from by omega, show a - f ≤ b - f from by omega, show b - f ≤ ((cs.length : Nat) : Int) from by omega]
  rfl
theorem s_own_hist (h : HB t r cs) (f : Int) : s_l10Own f t r cs = some (f, t, r, cs) := by
  have hn := h.hn
  have hrr : roomFor (List.length ([] : List Rn) + List.length r) 16 = true := room8 (by have := h.hr; simpa using this) (by omega)
  unfold s_l10Own
  have := loop_run s_l10Own_L1 (fun i => (cs.take i, cs, ((cs.length : Nat) : Int), ((i : Nat) : Int), f, t, r, cs, 0, [])) cs.length (cs, f, t, r, cs, 0, []) (by
    intro i hi
    have hlt : ((i : Nat) : Int) < ((cs.length : Nat) : Int) := by omega
    have hr : roomFor (List.length (cs.take i) + List.length ([cs[i]] : List (List Prt))) 24 = true := room8 (by rw [List.length_take]; simp; omega) (by omega)
    have hr2 : roomFor (List.length ([] : List Prt) + List.length cs[i]) 32 = true := room8 (by have := (h.hc _ (List.getElem_mem hi)).len; simpa using this) (by omega)
    unfold s_l10Own_L1
    simp only [hlt, decide_true, if_true, show (0 : Int) ≤ ((i : Nat) : Int) from by omega, Int.toNat_natCast, List.getElem?_eq_getElem hi, Option.bind_some, List.nil_append, hr, hr2, idx_succ hn hi]
    rw [List.take_succ_eq_append_getElem hi]) (by simp [s_l10Own_L1])
  have e : loopG s_l10Own_L1 ([], cs, ((cs.length : Nat) : Int), 0, f, t, r, cs, 0, []) = some (cs, f, t, r, cs, 0, []) := by simpa using this
  rw [e, Option.bind_some, if_pos hrr]; rfl
def rebased (f : Int) (t : List UInt8) (r : List Rn) (cs : List (List Prt)) (b : Int) (c : List Prt) : List Prt × Int :=
  if codeH f t r cs b b = 0 then
    if good c = true ∧ src c = lenAt t cs (b - f) then
      if good (carried false c (between f t cs b (f + cs.length))) = true then (carried false c (between f t cs b (f + cs.length)), 0) else ([], 4)
    else ([], 3)
  else ([], codeH f t r cs b b)
theorem s_rebased_eq (h : HB t r cs) {c : List Prt} (hc : Sm 1099511627776 c) (f b : Int) : s_RebaseOf f t r cs b c = some (rebased f t r cs b c) := by
  unfold s_RebaseOf rebased
  rw [s_range_eq h, Option.bind_some]
  by_cases h0 : codeH f t r cs b b = 0
  · obtain ⟨g, h1, _, h2⟩ := codeH_zero h0
    have := g.hf; have := g.hn
    have w : IntKind.wrap .i64 (f + ((cs.length : Nat) : Int)) = f + ((cs.length : Nat) : Int) := w64 (by omega) (by omega)
    rw [if_neg (by simpa using h0), if_pos h0, s_Good_eq hc (by omega), Option.bind_some]
    cases hg : good c with
    | false => simp
    | true =>
      have ss := okk_some (good_spec hg).1
      have g2 := (good_spec hg).2
      rw [if_neg (by simp), s_Source_eq hc (by omega) ss (by omega), Option.bind_some, s_text_eq g h1 h2, Option.bind_some, (text_in g _).1, show endl ((t.length : Nat) : Int) (cs.take (b - f).toNat) = lenAt t cs (b - f) from rfl, Option.bind_some]
      dsimp only
      by_cases hs : src c = lenAt t cs (b - f)
      · obtain ⟨q1, q2, q3⟩ := between_spec g h1 h2
        rw [if_neg (by simpa using hs), if_pos ⟨rfl, hs⟩]
        simp only [s_l10Head, Option.bind_some, w]
        rw [s_between_eq g h1 h2 (Int.le_refl _), Option.bind_some, s_CarryChange_eq hc (by omega) (good_sm q1) (by omega), Option.bind_some]
        unfold carryOf
        cases hgc : good (carried false c (between f t cs b (f + ((cs.length : Nat) : Int)))) with
        | false => simp
        | true => simp [hg, q1, hs, q2]
      · rw [if_pos (by simpa using hs), if_neg fun e => hs e.2]
  · rw [if_pos (by simpa using h0), if_neg h0]
theorem rebased_good {b : Int} {c : List Prt} (h : (rebased f t r cs b c).2 = 0) : GH f t r cs ∧ f ≤ b ∧ b ≤ f + cs.length ∧ good c = true ∧ src c = lenAt t cs (b - f) ∧ good (rebased f t r cs b c).1 = true ∧ src (rebased f t r cs b c).1 = lenAt t cs cs.length ∧
    (rebased f t r cs b c).1 = carried false c (between f t cs b (f + cs.length)) := by
  unfold rebased at h ⊢
  split at h
  · rename_i h0
    obtain ⟨g, h1, _, h2⟩ := codeH_zero h0
    split at h
    · rename_i hf
      split at h
      · rename_i hg
        obtain ⟨q1, q2, q3⟩ := between_spec g h1 h2
        rw [if_pos h0, if_pos hf, if_pos hg]
        refine ⟨g, h1, h2, hf.1, hf.2, hg, ?_, rfl⟩
        have hn : nS (atoms c) = nS (atoms (between f t cs b (f + ((cs.length : Nat) : Int)))) := by
          have := good_nS hf.1; have := good_nS q1; have := hf.2; omega
        have k2 := (carried_spec false hf.1 q1 (by rw [hf.2, q2])).2
        have k3 := carryA_nS false _ _ hn
        rw [← k2] at k3
        have := good_nS hg; have := good_nS q1
        rw [show f + ((cs.length : Nat) : Int) - f = ((cs.length : Nat) : Int) by omega] at q3
        dsimp only
        omega
      · cases h
    · cases h
  · rename_i h0; exact absurd h h0
end
end Go.V.G

set_option linter.unusedVariables false
set_option linter.unusedSimpArgs false
set_option maxRecDepth 100000
namespace Go.V.G
open Go.V
section
variable {f : Int} {t : List UInt8} {r : List Rn} {cs : List (List Prt)}
theorem codeH_cases (f a b : Int) (t : List UInt8) (r : List Rn) (cs : List (List Prt)) : codeH f t r cs a b = 0 ∨ codeH f t r cs a b = 1 ∨ codeH f t r cs a b = 2 := by
  unfold codeH
  split
  · split
    · exact .inl rfl
    · exact .inr (.inr rfl)
  · exact .inr (.inl rfl)
theorem pruned_good (g : GH f t r cs) {x : Int} (h1 : f ≤ x) (h2 : x ≤ f + cs.length) : GH x (txt t (cs.take (x - f).toNat)) (blm (f + 1) r (cs.take (x - f).toNat)) (cs.drop (x - f).toNat) := by
  have := g.hf; have := g.hn
  have ht := text_in g (x - f).toNat
  have hb := blm_good g (x - f).toNat
  rw [show f + (((cs.take (x - f).toNat).length : Nat) : Int) = x by rw [List.length_take]; omega] at hb
  refine ⟨by omega, by omega, by rw [ht.1]; exact hb, by rw [List.length_drop]; omega, ?_⟩
  rw [ht.1]; exact (chn_take g.hc _).2
def submitOf (f : Int) (t : List UInt8) (r : List Rn) (cs : List (List Prt)) (b : Int) (c : List Prt) : Int × (Int × Hst) :=
  if goodH f t r cs = true then
    (if (rebased f t r cs b c).2 = 0 then (if f + cs.length = 60 then (0, 5, f, t, r, cs) else (f + cs.length + 1, 0, f, t, r, cs ++ [(rebased f t r cs b c).1])) else (0, (rebased f t r cs b c).2, f, t, r, cs))
  else (0, 1, 0, [], [], [])
theorem s_submit_eq (h : HB t r cs) {c : List Prt} (hc : Sm 1099511627776 c) (f b : Int) : s_Submit f t r cs b c = some (submitOf f t r cs b c) := by
  unfold s_Submit submitOf
  rw [s_GoodHistory_eq h, Option.bind_some]
  cases hg : goodH f t r cs with
  | false => simp
  | true =>
    have g := goodH_iff.1 hg
    have := g.hf; have := g.hn
    have w : IntKind.wrap .i64 (f + ((cs.length : Nat) : Int)) = f + ((cs.length : Nat) : Int) := w64 (by omega) (by omega)
    have hr : roomFor (List.length cs + List.length ([(rebased f t r cs b c).1] : List (List Prt))) 24 = true := room8 (by simp; omega) (by omega)
    rw [if_neg (by simp), if_pos rfl, s_rebased_eq h hc, Option.bind_some, s_own_hist h, Option.bind_some]
    by_cases h0 : (rebased f t r cs b c).2 = 0
    · by_cases h6 : f + ((cs.length : Nat) : Int) = 60
      · simp only [h0, decide_true, if_true, s_l10Head, Option.bind_some, w, h6]
        rfl
      · have w2 : IntKind.wrap .i64 (f + (((cs ++ [(rebased f t r cs b c).1]).length : Nat) : Int)) = f + ((cs.length : Nat) : Int) + 1 := by
          rw [w64 (by simp; omega) (by simp; omega)]; simp; omega
        simp only [h0, decide_true, if_true, s_l10Head, Option.bind_some, w, h6, decide_false, Bool.false_eq_true, if_false, not_true_eq_false, hr, w2]
    · simp only [h0, decide_false, Bool.false_eq_true, if_false, Option.bind_some, not_false_eq_true, decide_true, if_true]
end
end Go.V.G

set_option linter.unusedVariables false
set_option linter.unusedSimpArgs false
set_option maxRecDepth 100000
namespace Go.V.G
open Go.V
theorem ht_textOf_ok {code : List Int} {a s : Int} {n : Int} (h0 : 0 ≤ n) (hn : n ≤ 100) (h : At code 202 a) : Ok (s_l1Cur_textOf_f n code a s) fun r => ((r.1.length : Nat) : Int) = n ∧ To code a 200 r.2.1 r.2.2.1 := by
  unfold s_l1Cur_textOf_f
  refine Ok.yes (by simpa using h0) (Ok.yes (by simp) (Ok.yes (by simp only [roomFor, decide_eq_true_eq]; omega) ?_))
  rw [List.length_replicate]
  refine Ok.bind (Q := fun v => ((v.1.length : Nat) : Int) = n ∧ To code a 200 v.2.1 v.2.2.1) ?_ (fun v hv => Ok.mk ⟨by rw [show (textOf v.1).length = v.1.length by simp [textOf]]; exact hv.1, hv.2⟩)
  refine Ok.loop (fun y => ((y.1.length : Nat) : Int) = n ∧ y.2.1 = n ∧ 0 ≤ y.2.2.1 ∧ y.2.2.1 ≤ n ∧ To code a (2 * y.2.2.1) y.2.2.2.1 y.2.2.2.2.1) (fun y => (n - y.2.2.1).toNat) ⟨by simp; omega, by dsimp only; omega, by simp, h0, To.refl _ _⟩ ?_
  rintro ⟨l, m, i, c, a', s'⟩ ⟨h1, h2, h3, h4, t⟩
  dsimp only at h1 h2 h3 h4 t
  subst h2
  unfold s_l1Cur_textOf_f_L1
  dsimp only
  refine Ok.ite (fun hc => ?_) fun hc => Ok.mk ⟨h1, t.more (by omega)⟩
  have hlt : i < m := by simpa using hc
  refine (pick_ok (t.at (j := 2) (h.less (by omega)))).bind ?_
  rintro ⟨k, c2, a2, s2⟩ ⟨hk, t2⟩
  dsimp only at hk t2 ⊢
  have hi : 0 + i.toNat < l.length := by omega
  have e : IntKind.wrap .i64 (i + 1) = i + 1 := w64 (by omega) (by omega)
  refine Ok.yes (by simpa using h3) (Ok.yes (by simp; omega) (Ok.bind_eq (List.getElem?_eq_getElem hi) (Ok.bind_eq (List.getElem?_eq_getElem hi) (Ok.mk ⟨⟨?_, rfl, ?_, ?_, ?_⟩, ?_⟩))))
  · dsimp only; rw [List.length_set]; exact h1
  · dsimp only; omega
  · dsimp only; omega
  · dsimp only; rw [e]; exact (t.trans t2).more (by omega)
  · dsimp only; omega
theorem addr_len (l : List Rn) (r : Rn) : (addr l r).length ≤ l.length + 1 := by
  unfold addr
  split
  · omega
  · split
    · simp
    · split
      · simp
      · simp
theorem runs_ok {code : List Int} {a s : Int} {n f : Int} (h0 : 0 ≤ n) (hn : n ≤ 20) (h : At code 100 a) : Ok (s_l1Cur_runs_f n f code a s) fun r => r.1.length ≤ 30 ∧ To code a 90 r.2.1 r.2.2.1 := by
  unfold s_l1Cur_runs_f
  refine Ok.bind (Q := fun v => v.1.length ≤ 20 ∧ To code a 80 v.2.1 v.2.2.1) ?_ ?_
  · refine Ok.loop (fun y => 0 ≤ y.1 ∧ y.1 ≤ n ∧ ((y.2.2.1.length : Nat) : Int) ≤ n - y.1 ∧ To code a (4 * (n - y.1)) y.2.2.2.1 y.2.2.2.2.1) (fun y => y.1.toNat) ⟨h0, by simp, by simp, (To.refl _ _).more (by simp)⟩ ?_
    rintro ⟨m, f', l, c, a', s'⟩ ⟨h1, h2, h3, t⟩
    dsimp only at h1 h2 h3 t
    unfold s_l1Cur_runs_f_L1
    dsimp only
    refine Ok.ite (fun hc => ?_) fun hc => Ok.mk ⟨by dsimp only; omega, t.more (by omega)⟩
    have hm : 0 < m := by simpa using hc
    refine (pick_ok (t.at (j := 2) (h.less (by omega)))).bind ?_
    rintro ⟨k, c2, a2, s2⟩ ⟨hk, t2⟩
    dsimp only at hk t2 ⊢
    have t2 := t.trans t2
    have e : IntKind.wrap .i64 (1 + k) = 1 + k := w64 (by omega) (by omega)
    rw [e]
    refine Ok.bind (Q := fun v => v.1 = m ∧ v.2.2.1 = l ∧ (1 ≤ v.2.2.2.1 ∧ v.2.2.2.1 ≤ m) ∧ To code a (4 * (n - m) + 2) v.2.2.2.2.1 v.2.2.2.2.2.1) ?_ ?_
    · refine Ok.ite (fun hq => Ok.mk ⟨rfl, rfl, by dsimp only; omega, t2⟩) fun hq => Ok.mk ⟨rfl, rfl, ?_, t2⟩
      have : ¬ m < 1 + k := by simpa using hq
      dsimp only; omega
    rintro ⟨m', f2, l', j, c3, a3, s3⟩ ⟨q1, q2, q3, t3⟩
    dsimp only at q1 q2 q3 t3 ⊢
    subst q1 q2
    refine (pick_ok (t3.at (j := 2) (h.less (by omega)))).bind ?_
    rintro ⟨k2, c4, a4, s4⟩ ⟨hk2, t4⟩
    dsimp only at hk2 t4 ⊢
    refine Ok.bind_eq (s_l9Add_eq (by omega) _ _) ?_
    have e2 : IntKind.wrap .i64 (m' - j) = m' - j := w64 (by omega) (by omega)
    rw [e2]
    have hal := addr_len l' (k2, j)
    exact Ok.mk ⟨⟨by dsimp only; omega, by dsimp only; omega, by dsimp only; omega, (t3.trans t4).more (by dsimp only; omega)⟩, by dsimp only; omega⟩
  rintro ⟨l, c, a', s'⟩ ⟨h1, t⟩
  dsimp only at h1 t ⊢
  refine (pick_ok (t.at (j := 2) (h.less (by omega)))).bind ?_
  rintro ⟨k, c2, a2, s2⟩ ⟨hk, t2⟩
  dsimp only at hk t2 ⊢
  have t2 := t.trans t2
  refine Ok.bind (Q := fun v => v.1.length ≤ 30 ∧ To code a 90 v.2.1 v.2.2.1) ?_ (fun v hv => Ok.mk hv)
  refine Ok.ite (fun _ => ?_) fun _ => ?_
  · refine (among_ok (t2.at (j := 2) (h.less (by omega))) (by simp)).bind ?_
    rintro ⟨x, c3, a3, s3⟩ ⟨_, t3⟩
    dsimp only at t3 ⊢
    have t3 := t2.trans t3
    refine (among_ok (t3.at (j := 2) (h.less (by omega))) (by simp)).bind ?_
    rintro ⟨y, c4, a4, s4⟩ ⟨_, t4⟩
    dsimp only at t4 ⊢
    exact Ok.yes (room8 (by simp; omega) (by omega)) (Ok.mk ⟨by simp; omega, (t3.trans t4).more (by omega)⟩)
  · refine Ok.bind (Q := fun v => v.1.length ≤ 30 ∧ To code a 90 v.2.1 v.2.2.1) ?_ (fun v hv => Ok.mk hv)
    refine Ok.ite (fun _ => ?_) fun _ => Ok.mk ⟨by dsimp only; omega, t2.more (by omega)⟩
    refine Ok.bind (Q := fun v => v.1.length ≤ 30 ∧ To code a 90 v.2.1 v.2.2.1) ?_ (fun v hv => Ok.mk hv)
    refine Ok.ite (fun hc => ?_) fun _ => Ok.mk ⟨by dsimp only; omega, t2.more (by omega)⟩
    have hl : 0 < l.length := by simpa [List.length_pos_iff] using hc
    have e : IntKind.wrap .i64 (((List.length l : Nat) : Int) - 1) = ((l.length - 1 : Nat) : Int) := by rw [w64 (by omega) (by omega)]; omega
    rw [e]
    have hg : l[0 + Int.toNat ((l.length - 1 : Nat) : Int)]? = some l[l.length - 1] := by rw [Nat.zero_add, Int.toNat_natCast]; exact List.getElem?_eq_getElem (by omega)
    exact Ok.yes (by simp) (Ok.yes (by simp; omega) (Ok.bind_eq hg (Ok.bind_eq hg (Ok.yes (room8 (by simp; omega) (by omega)) (Ok.mk ⟨by simp; omega, t2.more (by omega)⟩)))))
structure HD (t : List UInt8) (r : List Rn) (cs : List (List Prt)) : Prop where
  ht : t.length ≤ 130
  hr : r.length ≤ 30
  hn : cs.length ≤ 60
  hc : ∀ c ∈ cs, Sm 2000 c
theorem HD.hb {t : List UInt8} {r : List Rn} {cs : List (List Prt)} (h : HD t r cs) : HB t r cs :=
  ⟨by have := h.ht; omega, by have := h.hr; omega, by have := h.hn; omega, fun c hc => (h.hc c hc).mono (by omega)⟩
theorem s_head_ok (f : Int) (t : List UInt8) (r : List Rn) (cs : List (List Prt)) : s_l10Head f t r cs = some (IntKind.wrap .i64 (f + ((cs.length : Nat) : Int))) := rfl
theorem history_ok {code : List Int} {a s : Int} (h : At code 90000 a) : Ok (s_l1Cur_history_f code a s) fun r => HD r.2.1 r.2.2.1 r.2.2.2.1 ∧ To code a 89000 r.2.2.2.2.1 r.2.2.2.2.2.1 := by
  unfold s_l1Cur_history_f
  refine Ok.bind_eq (r := (0, [])) rfl ?_
  refine (one_ok (h.less (by omega))).bind ?_
  rintro ⟨b, c1, a1, s1⟩ t1
  dsimp only at t1 ⊢
  refine Ok.bind (Q := fun v => (v.2.2.2.1.length ≤ 100 ∧ v.2.2.2.2.1.length ≤ 30 ∧ v.2.2.2.2.2.1 = []) ∧ To code a 400 v.2.2.2.2.2.2.1 v.2.2.2.2.2.2.2.1) ?_ ?_
  · refine Ok.ite (fun _ => ?_) fun _ => Ok.mk ⟨by simp, t1.more (by omega)⟩
    refine (pick_ok (t1.at (j := 2) (h.less (by omega)))).bind ?_
    rintro ⟨k, c2, a2, s2⟩ ⟨hk, t2⟩
    dsimp only at hk t2 ⊢
    have t2 := t1.trans t2
    refine (pick_ok (t2.at (j := 2) (h.less (by omega)))).bind ?_
    rintro ⟨n, c3, a3, s3⟩ ⟨hn, t3⟩
    dsimp only at hn t3 ⊢
    have t3 := t2.trans t3
    refine (ht_textOf_ok hn.1 (by omega) (t3.at (h.less (by omega)))).bind ?_
    rintro ⟨x, c4, a4, s4⟩ ⟨hx, t4⟩
    dsimp only at hx t4 ⊢
    have t4 := t3.trans t4
    refine (runs_ok hn.1 (by omega) (t4.at (h.less (by omega)))).bind ?_
    rintro ⟨y, c5, a5, s5⟩ ⟨hy, t5⟩
    dsimp only at hy t5 ⊢
    exact Ok.mk ⟨⟨by dsimp only; omega, hy, rfl⟩, (t4.trans t5).more (by omega)⟩
  rintro ⟨z1, z2, f, t, r, cs, c2, a2, s2⟩ ⟨⟨q1, q2, q3⟩, t2⟩
  dsimp only at q1 q2 q3 t2 ⊢
  subst q3
  refine (pick_ok (t2.at (j := 2) (h.less (by omega)))).bind ?_
  rintro ⟨k, c3, a3, s3⟩ ⟨hk, t3⟩
  dsimp only at hk t3 ⊢
  have t3 := t2.trans t3
  refine (one_ok (t3.at (j := 2) (h.less (by omega)))).bind ?_
  rintro ⟨b2, c4, a4, s4⟩ t4
  dsimp only at t4 ⊢
  have t4 := t3.trans t4
  refine Ok.bind (Q := fun v => (0 ≤ v.1 ∧ v.1 ≤ 40) ∧ (v.2.2.2.2.1 = t ∧ v.2.2.2.2.2.1 = r ∧ v.2.2.2.2.2.2.1 = []) ∧ To code a 410 v.2.2.2.2.2.2.2.1 v.2.2.2.2.2.2.2.2.1) ?_ ?_
  · refine Ok.ite (fun _ => ?_) fun _ => Ok.mk ⟨by dsimp only; omega, ⟨rfl, rfl, rfl⟩, t4.more (by omega)⟩
    refine (pick_ok (t4.at (j := 2) (h.less (by omega)))).bind ?_
    rintro ⟨n, c5, a5, s5⟩ ⟨hn, t5⟩
    dsimp only at hn t5 ⊢
    have e : IntKind.wrap .i64 (10 + n) = 10 + n := w64 (by omega) (by omega)
    rw [e]
    exact Ok.mk ⟨by dsimp only; omega, ⟨rfl, rfl, rfl⟩, (t4.trans t5).more (by omega)⟩
  rintro ⟨n, z3, z4, f2, t', r', cs', c5, a5, s5⟩ ⟨hn, ⟨e1, e2, e3⟩, t5⟩
  dsimp only at hn e1 e2 e3 t5 ⊢
  subst e1 e2 e3
  refine Ok.bind (Q := fun v => (v.2.2.2.1.length ≤ 100 ∧ v.2.2.2.2.1.length ≤ 30 ∧ v.2.2.2.2.2.1.length ≤ 40 ∧ ∀ c ∈ v.2.2.2.2.2.1, Sm 2000 c) ∧ To code a 60000 v.2.2.2.2.2.2.1 v.2.2.2.2.2.2.2.1) ?_ ?_
  · refine Ok.loop (fun y => (0 ≤ y.1 ∧ y.1 ≤ 40) ∧ (y.2.2.2.2.1.length ≤ 100 ∧ y.2.2.2.2.2.1.length ≤ 30 ∧ ((y.2.2.2.2.2.2.1.length : Nat) : Int) ≤ 40 - y.1 ∧ ∀ c ∈ y.2.2.2.2.2.2.1, Sm 2000 c) ∧ To code a (410 + 1300 * (40 - y.1)) y.2.2.2.2.2.2.2.1 y.2.2.2.2.2.2.2.2.1) (fun y => y.1.toNat)
      ⟨hn, ⟨q1, q2, by simp; omega, by simp⟩, t5.more (by dsimp only; omega)⟩ ?_
    rintro ⟨n, z3, z4, f2, t, r, cs, c5, a5, s5⟩ ⟨hn, ⟨k1, k2, k3, k4⟩, t5⟩
    dsimp only at hn k1 k2 k3 k4 t5
    have hb : HB t r cs := ⟨by omega, by omega, by omega, fun c hc => (k4 c hc).mono (by omega)⟩
    unfold s_l1Cur_history_f_L1
    dsimp only
    refine Ok.bind (Q := fun v => v = (n, decide (0 < n ∧ goodH f2 t r cs = true ∧ IntKind.wrap .i64 (f2 + ((cs.length : Nat) : Int)) < 60), z3, z4, f2, t, r, cs, c5, a5, s5)) ?_ ?_
    · refine Ok.ite (fun hc => ?_) fun hc => Ok.mk ?_
      · have h0 : 0 < n := by simpa using hc
        refine Ok.bind_eq (s_GoodHistory_eq hb f2) ?_
        cases hg : goodH f2 t r cs with
        | true => exact Ok.yes rfl (Ok.bind_eq (s_head_ok f2 t r cs) (Ok.mk (by simp [h0])))
        | false => exact Ok.no (by simp) (Ok.mk (by simp))
      · have h0 : ¬ 0 < n := by simpa using hc
        simp [h0]
    rintro _ rfl
    dsimp only
    by_cases hq : 0 < n ∧ goodH f2 t r cs = true ∧ IntKind.wrap .i64 (f2 + ((cs.length : Nat) : Int)) < 60
    · rw [decide_eq_true hq]
      obtain ⟨h0, hg, hl⟩ := hq
      have g := goodH_iff.1 hg
      have gf := g.hf; have gn := g.hn; have gt := g.ht
      have we : IntKind.wrap .i64 (f2 + ((cs.length : Nat) : Int)) = f2 + ((cs.length : Nat) : Int) := w64 (by omega) (by omega)
      rw [we] at hl
      refine Ok.yes rfl (Ok.bind_eq (s_head_ok f2 t r cs) ?_)
      rw [we]
      refine (one_ok (t5.at (j := 2) (h.less (by omega)))).bind ?_
      rintro ⟨b, c6, a6, s6⟩ t6
      dsimp only at t6 ⊢
      have t6 := t5.trans t6
      refine Ok.bind (Q := fun v => (v.1 = n ∧ v.2.2.2.2.1 = f2 ∧ v.2.2.2.2.2.1 = t ∧ v.2.2.2.2.2.2.1 = r ∧ v.2.2.2.2.2.2.2.1 = cs) ∧ (f2 ≤ v.2.1 ∧ v.2.1 ≤ f2 + cs.length) ∧ To code a (414 + 1300 * (40 - n)) v.2.2.2.2.2.2.2.2.1 v.2.2.2.2.2.2.2.2.2.1) ?_ ?_
      · refine Ok.ite (fun _ => ?_) fun _ => Ok.mk ⟨⟨rfl, rfl, rfl, rfl, rfl⟩, by dsimp only; omega, t6.more (by omega)⟩
        have we2 : IntKind.wrap .i64 (((List.length cs : Nat) : Int) + 1) = ((cs.length : Nat) : Int) + 1 := w64 (by omega) (by omega)
        rw [we2]
        refine (pick_ok (t6.at (j := 2) (h.less (by omega)))).bind ?_
        rintro ⟨m, c7, a7, s7⟩ ⟨hm, t7⟩
        dsimp only at hm t7 ⊢
        have e : IntKind.wrap .i64 (f2 + m) = f2 + m := w64 (by omega) (by omega)
        rw [e]
        exact Ok.mk ⟨⟨rfl, rfl, rfl, rfl, rfl⟩, by dsimp only; omega, (t6.trans t7).more (by omega)⟩
      rintro ⟨n', x, z5, z6, f3, t', r', cs', c7, a7, s7⟩ ⟨⟨e1, e2, e3, e4, e5⟩, hx, t7⟩
      dsimp only at e1 e2 e3 e4 e5 hx t7 ⊢
      subst e1 e2 e3 e4 e5
      refine Ok.bind_eq (s_text_eq g hx.1 hx.2) ?_
      have htx := text_in g (x - f3).toNat
      refine (changeOf_ok 120 (by omega) (by omega) (by omega) (t7.at (j := 1224) (h.less (by omega)))).bind ?_
      rintro ⟨c, c8, a8, s8⟩ ⟨hc, t8⟩
      dsimp only at hc t8 ⊢
      refine Ok.bind_eq (s_submit_eq hb (hc.mono (by omega)) f3 x) ?_
      refine Ok.bind (Q := fun v => v.1 = n' ∧ (v.2.2.2.2.1.length ≤ 100 ∧ v.2.2.2.2.2.1.length ≤ 30 ∧ ((v.2.2.2.2.2.2.1.length : Nat) : Int) ≤ 40 - (n' - 1) ∧ ∀ c ∈ v.2.2.2.2.2.2.1, Sm 2000 c) ∧ To code a (414 + 1300 * (40 - n') + 1224) v.2.2.2.2.2.2.2.1 v.2.2.2.2.2.2.2.2.1) ?_ ?_
      · refine Ok.ite (fun _ => Ok.mk ⟨rfl, ?_, t7.trans t8⟩) fun _ => Ok.mk ⟨rfl, ⟨k1, k2, by dsimp only; omega, k4⟩, t7.trans t8⟩
        dsimp only
        unfold submitOf
        rw [if_pos hg]
        split
        · rename_i h00
          split
          · exact ⟨k1, k2, by dsimp only; omega, k4⟩
          · obtain ⟨_, _, _, _, _, hgd, _, _⟩ := rebased_good h00
            refine ⟨k1, k2, by simp; omega, fun y hy => ?_⟩
            rcases List.mem_append.1 hy with hy | hy
            · exact k4 y hy
            · rw [List.mem_singleton.1 hy]; exact (good_sm hgd).mono (by omega)
        · exact ⟨k1, k2, by dsimp only; omega, k4⟩
      rintro ⟨n2, z7, z8, f4, t4, r4, cs4, c9, a9, s9⟩ ⟨e1, ⟨m1, m2, m3, m4⟩, t9⟩
      dsimp only at e1 m1 m2 m3 m4 t9 ⊢
      subst e1
      have e : IntKind.wrap .i64 (n2 - 1) = n2 - 1 := w64 (by omega) (by omega)
      rw [e]
      exact Ok.mk ⟨⟨by dsimp only; omega, ⟨m1, m2, m3, m4⟩, t9.more (by dsimp only; omega)⟩, by dsimp only; omega⟩
    · rw [decide_eq_false hq]
      exact Ok.no (by simp) (Ok.mk ⟨⟨k1, k2, by dsimp only; omega, k4⟩, t5.more (by omega)⟩)
  rintro ⟨z5, z6, f3, t, r, cs, c6, a6, s6⟩ ⟨⟨k1, k2, k3, k4⟩, t6⟩
  dsimp only at k1 k2 k3 k4 t6 ⊢
  refine (pick_ok (t6.at (j := 2) (h.less (by omega)))).bind ?_
  rintro ⟨k, c7, a7, s7⟩ ⟨hk, t7⟩
  dsimp only at hk t7 ⊢
  have t7 := t6.trans t7
  refine Ok.bind (Q := fun v => HD v.2.2.2.1 v.2.2.2.2.1 v.2.2.2.2.2.1 ∧ To code a 89000 v.2.2.2.2.2.2.1 v.2.2.2.2.2.2.2.1) ?_ (fun v hv => Ok.mk hv)
  have base : HD t r cs := ⟨by omega, by omega, by omega, k4⟩
  refine Ok.ite (fun _ => ?_) fun _ => ?_
  · refine (among_ok (t7.at (j := 2) (h.less (by omega))) (by simp)).bind ?_
    rintro ⟨x, c8, a8, s8⟩ ⟨_, t8⟩
    exact Ok.mk ⟨base, (t7.trans t8).more (by omega)⟩
  refine Ok.bind (Q := fun v => HD v.2.2.2.1 v.2.2.2.2.1 v.2.2.2.2.2.1 ∧ To code a 89000 v.2.2.2.2.2.2.1 v.2.2.2.2.2.2.2.1) ?_ (fun v hv => Ok.mk hv)
  refine Ok.ite (fun _ => ?_) fun _ => ?_
  · refine Ok.yes ?_ (Ok.mk ⟨⟨by simp; omega, base.hr, base.hn, base.hc⟩, t7.more (by omega)⟩)
    simp only [decide_eq_true_eq, List.length_singleton]; omega
  refine Ok.bind (Q := fun v => HD v.2.2.2.1 v.2.2.2.2.1 v.2.2.2.2.2.1 ∧ To code a 89000 v.2.2.2.2.2.2.1 v.2.2.2.2.2.2.2.1) ?_ (fun v hv => Ok.mk hv)
  refine Ok.ite (fun _ => ?_) fun _ => Ok.mk ⟨base, t7.more (by omega)⟩
  refine (changeOf_ok 120 (by omega) (by omega) (by omega) (t7.at (j := 1224) (h.less (by omega)))).bind ?_
  rintro ⟨c, c8, a8, s8⟩ ⟨hc, t8⟩
  dsimp only at hc t8 ⊢
  refine Ok.yes (room8 (by simp; omega) (by omega)) (Ok.mk ⟨⟨base.ht, base.hr, by simp; omega, fun y hy => ?_⟩, (t7.trans t8).more (by omega)⟩)
  rcases List.mem_append.1 hy with hy | hy
  · exact k4 y hy
  · rw [List.mem_singleton.1 hy]; exact hc.mono (by omega)
theorem revIn_ok {code : List Int} {a s : Int} (h : At code 10 a) {f : Int} {t : List UInt8} {r : List Rn} {cs : List (List Prt)} :
    Ok (s_l1Cur_revIn_l_f f t r cs code a s) fun v => (v.1 = f ∧ v.2.1 = t ∧ v.2.2.1 = r ∧ v.2.2.2.1 = cs) ∧ To code a 4 v.2.2.2.2.2.1 v.2.2.2.2.2.2.1 := by
  unfold s_l1Cur_revIn_l_f
  refine (one_ok (h.less (by omega))).bind ?_
  rintro ⟨b, c1, a1, s1⟩ t1
  dsimp only at t1 ⊢
  refine Ok.ite (fun _ => ?_) fun _ => ?_
  · refine Ok.bind_eq (s_head_ok f t r cs) ?_
    refine (among_ok (t1.at (j := 2) (h.less (by omega))) (by simp)).bind ?_
    rintro ⟨x, c2, a2, s2⟩ ⟨_, t2⟩
    exact Ok.mk ⟨⟨rfl, rfl, rfl, rfl⟩, (t1.trans t2).more (by omega)⟩
  · refine (pick_ok (t1.at (j := 2) (h.less (by omega)))).bind ?_
    rintro ⟨x, c2, a2, s2⟩ ⟨_, t2⟩
    exact Ok.mk ⟨⟨rfl, rfl, rfl, rfl⟩, (t1.trans t2).more (by omega)⟩
theorem i_textAt_ok {f : Int} {t : List UInt8} {r : List Rn} {cs : List (List Prt)} (h : HB t r cs) (x : Int) :
    i_TextAt f t r cs x = some (if codeH f t r cs x x = 0 then (txt t (cs.take (x - f).toNat), 0) else ([], codeH f t r cs x x)) := by
  unfold i_TextAt
  rw [i_code_eq h, Option.bind_some]
  by_cases h0 : codeH f t r cs x x = 0
  · obtain ⟨g, h1, _, h2⟩ := codeH_zero h0
    rw [if_neg (by simpa using h0), i_text_eq g h1 h2, if_pos h0]; rfl
  · rw [if_pos (by simpa using h0), if_neg h0]
theorem codeH_self {f x : Int} {t : List UInt8} {r : List Rn} {cs : List (List Prt)} (g : GH f t r cs) (h1 : f ≤ x) (h2 : x ≤ f + cs.length) : codeH f t r cs x x = 0 := by
  unfold codeH
  rw [if_pos (goodH_iff.2 g), if_pos ⟨h1, Int.le_refl _, h2⟩]
end Go.V.G

set_option linter.unusedVariables false
set_option linter.unusedSimpArgs false
set_option maxRecDepth 100000
namespace Go.V.G
open Go.V
theorem sameRuns_self {r : List Rn} (h : r.length ≤ 1048576) : l_sameRuns r r = some true := by
  unfold l_sameRuns
  rw [if_neg (by simp)]
  have hl := loop_run l_sameRuns_L1 (fun k => (r, r, ((r.length : Nat) : Int), ((k : Nat) : Int))) r.length (.inl ()) (fun k hk => by
    unfold l_sameRuns_L1
    dsimp only
    have e1 : IntKind.wrap .i64 (((k : Nat) : Int) + 1) = (((k + 1 : Nat)) : Int) := by rw [w64 (by omega) (by omega)]; omega
    rw [if_pos (by simp; omega), if_pos (by simp), Int.toNat_natCast, List.getElem?_eq_getElem hk, Option.bind_some, if_pos (by simp), Option.bind_some, if_neg (by simp), e1]) (by
    unfold l_sameRuns_L1
    dsimp only
    rw [if_neg (by simp)])
  rw [show loopG l_sameRuns_L1 (r, r, ((r.length : Nat) : Int), 0) = some (.inl ()) from hl]
  rfl
end Go.V.G

set_option linter.unusedVariables false
set_option linter.unusedSimpArgs false
set_option maxRecDepth 100000
namespace Go.V.G
open Go.V
theorem rsum_take {l : List Rn} {i : Nat} (h : i < l.length) : rsum (l.take (i + 1)) = rsum (l.take i) + l[i].2 := by
  rw [List.take_succ_eq_append_getElem h, rsum_append]; simp [rsum]
theorem rsum_take_le {l : List Rn} (hp : Pos l) (i : Nat) : 0 ≤ rsum (l.take i) ∧ rsum (l.take i) ≤ rsum l := by
  have h2 : rsum l = rsum (l.take i) + rsum (l.drop i) := by rw [← rsum_append, List.take_append_drop]
  have h3 := rsum_nonneg (l := l.drop i) fun q hq => hp q (List.mem_of_mem_drop hq)
  have h4 := rsum_nonneg (l := l.take i) fun q hq => hp q (List.mem_of_mem_take hq)
  omega
theorem someRuns_good {l : List Rn} {n : Int} (h : goodRuns l n 60 = true) : i_someRuns l = some true := by
  obtain ⟨⟨q1, q2⟩, q3, q4⟩ := goodRuns_iff.1 h
  have hp := q4.pos
  have hsum := q4.sum
  have hlen := rlen_le hp
  unfold i_someRuns
  have hl := loop_run i_someRuns_L1 (fun i => (l, rsum (l.take i), l, ((l.length : Nat) : Int), ((i : Nat) : Int))) l.length (.inl (l, rsum l)) (fun i hi => by
    have hm := rsum_mem hp _ (List.getElem_mem hi)
    have h1 := hp _ (List.getElem_mem hi)
    have ht := rsum_take_le hp i
    have ht2 := rsum_take_le hp (i + 1)
    have e1 := rsum_take hi
    have w : IntKind.wrap .i64 (rsum (l.take i) + l[i].2) = rsum (l.take (i + 1)) := by rw [w64 (by omega) (by omega), e1]
    have hlt : ((i : Nat) : Int) < ((l.length : Nat) : Int) := by omega
    unfold i_someRuns_L1
    dsimp only
    rw [if_pos (decide_eq_true hlt), if_pos (by simp), Int.toNat_natCast, List.getElem?_eq_getElem hi, Option.bind_some, i_within_eq, Option.bind_some, if_neg (by simp; omega), Option.bind_some]
    dsimp only
    rw [if_neg (by simp; omega), w, idx_succ (show l.length ≤ 1099511627776 by omega) hi]) (by
    unfold i_someRuns_L1
    dsimp only
    rw [if_neg (by simp), List.take_length])
  rw [show loopG i_someRuns_L1 (l, 0, l, ((l.length : Nat) : Int), 0) = some (.inl (l, rsum l)) from hl, Option.bind_some]
  dsimp only
  rw [i_GoodRuns_eq (by omega), hsum, h]; rfl
def rbytes (l : List Rn) : List Int := l.flatMap fun r => [r.1, r.2]
theorem rbytes_len : ∀ l : List Rn, (rbytes l).length = 2 * l.length
  | [] => rfl
  | r :: l => by
    have := rbytes_len l
    simp only [rbytes, List.flatMap_cons, List.length_append, List.length_cons, List.length_nil] at this ⊢; omega
theorem pairs2_rbytes : ∀ l : List Rn, pairs2 (rbytes l) = l
  | [] => rfl
  | r :: l => by
    have := pairs2_rbytes l
    simp only [rbytes, List.flatMap_cons, List.cons_append, List.nil_append, pairs2] at this ⊢
    rw [this]
theorem readRuns_eq {l : List Rn} {n : Int} (h : goodRuns l n 60 = true) : i_ReadRuns (rbytes l) = some (l, true) := by
  obtain ⟨⟨q1, q2⟩, q3, q4⟩ := goodRuns_iff.1 h
  have hp := q4.pos
  have hsum := q4.sum
  have hlen := rlen_le hp
  have hbl := rbytes_len l
  unfold i_ReadRuns
  rw [if_pos, if_pos (by omega), pairs2_rbytes, someRuns_good h]
  · rfl
  · refine ⟨by omega, fun v hv => ?_⟩
    obtain ⟨r, hr, hv⟩ := List.mem_flatMap.1 hv
    have h1 := hp r hr
    have h2 := rsum_mem hp r hr
    have h3 := List.all_eq_true.1 q3 r hr
    simp only [decide_eq_true_eq] at h3
    simp only [List.mem_cons, List.not_mem_nil, or_false] at hv
    rcases hv with rfl | rfl <;> omega
end Go.V.G

set_option linter.unusedVariables false
set_option linter.unusedSimpArgs false
set_option maxRecDepth 100000
namespace Go.V.G
open Go.V
def Byt (l : List Int) : Prop := ∀ x ∈ l, 0 ≤ x ∧ x ≤ 255
theorem u8_byt (n : Int) : 0 ≤ IntKind.wrap .u8 n ∧ IntKind.wrap .u8 n ≤ 255 := by rw [IntKind.wrap_u8]; omega
theorem Byt.append {a b : List Int} (h : Byt a) (k : Byt b) : Byt (a ++ b) := fun x hx => (List.mem_append.1 hx).elim (h x) (k x)
theorem bytesOf_byt (s : List UInt8) : Byt (bytesOf s) := fun x hx => by
  obtain ⟨b, _, rfl⟩ := List.mem_map.1 hx
  have := b.toNat_lt
  omega
theorem bytesOf_len (s : List UInt8) : (bytesOf s).length = s.length := by simp [bytesOf]
def encR (l : List Rn) : List Int := l.flatMap fun r => [IntKind.wrap .u8 r.1, IntKind.wrap .u8 r.2]
theorem encR_len : ∀ l : List Rn, (encR l).length = 2 * l.length
  | [] => rfl
  | r :: l => by
    have := encR_len l
    simp only [encR, List.flatMap_cons, List.length_append, List.length_cons, List.length_nil] at this ⊢
    omega
theorem encR_byt (l : List Rn) : Byt (encR l) := fun x hx => by
  obtain ⟨r, _, h⟩ := List.mem_flatMap.1 hx
  simp only [List.mem_cons, List.not_mem_nil, or_false] at h
  rcases h with rfl | rfl <;> exact u8_byt _
theorem encR_take {l : List Rn} {i : Nat} (h : i < l.length) : encR (l.take (i + 1)) = encR (l.take i) ++ [IntKind.wrap .u8 l[i].1, IntKind.wrap .u8 l[i].2] := by
  unfold encR; rw [List.take_succ_eq_append_getElem h, List.flatMap_append]; simp
theorem i_writeRuns_eq {l : List Rn} (hl : l.length ≤ 1000000) : i_writeRuns l = some (encR l) := by
  unfold i_writeRuns
  have := loop_run i_writeRuns_L1 (fun i => (encR (l.take i), l, ((l.length : Nat) : Int), ((i : Nat) : Int))) l.length (encR l) (by
    intro i hi
    have hlt : ((i : Nat) : Int) < ((l.length : Nat) : Int) := by omega
    have hr : ∀ x y : Int, roomFor (List.length (encR (l.take i)) + List.length ([x, y] : List Int)) 1 = true := fun x y => room8 (by rw [encR_len, List.length_take]; simp; omega) (by omega)
    unfold i_writeRuns_L1
    simp only [hlt, decide_true, if_true, show (0 : Int) ≤ ((i : Nat) : Int) from by omega, Int.toNat_natCast, List.getElem?_eq_getElem hi, Option.bind_some, hr, idx_succ (show l.length ≤ 1099511627776 by omega) hi, encR_take hi]) (by simp [i_writeRuns_L1])
  have e : loopG i_writeRuns_L1 ([], l, ((l.length : Nat) : Int), 0) = some (encR l) := by simpa [encR] using this
  rw [e]; rfl
theorem s_Write9_eq {l : List Rn} (hl : l.length ≤ 1000000) : s_l9Write l = some (encR l) := by
  unfold s_l9Write
  have := loop_run s_l9Write_L1 (fun i => (encR (l.take i), l, ((l.length : Nat) : Int), ((i : Nat) : Int))) l.length (encR l) (by
    intro i hi
    have hlt : ((i : Nat) : Int) < ((l.length : Nat) : Int) := by omega
    have hr : ∀ x y : Int, roomFor (List.length (encR (l.take i)) + List.length ([x, y] : List Int)) 1 = true := fun x y => room8 (by rw [encR_len, List.length_take]; simp; omega) (by omega)
    unfold s_l9Write_L1
    simp only [hlt, decide_true, if_true, show (0 : Int) ≤ ((i : Nat) : Int) from by omega, Int.toNat_natCast, List.getElem?_eq_getElem hi, Option.bind_some, hr, idx_succ (show l.length ≤ 1099511627776 by omega) hi, encR_take hi]) (by simp [s_l9Write_L1])
  have e : loopG s_l9Write_L1 ([], l, ((l.length : Nat) : Int), 0) = some (encR l) := by simpa [encR] using this
  rw [e]; rfl
def dig1 (h x : Int) : Int := IntKind.wrap .u32 ((IntKind.wrap .u32 (((BitVec.ofInt (IntKind.bits .u32) h ^^^ BitVec.ofInt (IntKind.bits .u32) (IntKind.wrap .u32 x)).toNat : Int))) * 16777619)
theorem dig1_in (h x : Int) : 0 ≤ dig1 h x ∧ dig1 h x < 4294967296 := by unfold dig1; rw [IntKind.wrap_u32]; omega
theorem dig1_64 {h x : Int} (h0 : 0 ≤ h) (h1 : h < 4294967296) (x0 : 0 ≤ x) (x1 : x ≤ 255) :
    Int.tmod (IntKind.wrap .u64 ((IntKind.wrap .u64 (((BitVec.ofInt (IntKind.bits .u64) h ^^^ BitVec.ofInt (IntKind.bits .u64) (IntKind.wrap .u64 x)).toNat : Int))) * 16777619)) 4294967296 = dig1 h x := by
  unfold dig1
  obtain ⟨a, rfl⟩ := Int.eq_ofNat_of_zero_le h0
  obtain ⟨b, rfl⟩ := Int.eq_ofNat_of_zero_le x0
  have ha : a < 4294967296 := by omega
  have hb : b < 4294967296 := by omega
  have hx := Nat.xor_lt_two_pow (n := 32) (show a < 2 ^ 32 by omega) (show b < 2 ^ 32 by omega)
  rw [wu64 (n := ((b : Nat) : Int)) (by omega) (by omega), IntKind.wrap_u32 ((b : Nat) : Int), show ((b : Nat) : Int) % 4294967296 = ((b : Nat) : Int) by omega]
  have e64 : ((BitVec.ofInt (IntKind.bits .u64) ((a : Nat) : Int) ^^^ BitVec.ofInt (IntKind.bits .u64) ((b : Nat) : Int)).toNat) = a ^^^ b := by
    rw [BitVec.toNat_xor, BitVec.ofInt_natCast, BitVec.ofInt_natCast, BitVec.toNat_ofNat, BitVec.toNat_ofNat, show IntKind.bits .u64 = 64 from rfl, Nat.mod_eq_of_lt (by omega), Nat.mod_eq_of_lt (by omega)]
  have e32 : ((BitVec.ofInt (IntKind.bits .u32) ((a : Nat) : Int) ^^^ BitVec.ofInt (IntKind.bits .u32) ((b : Nat) : Int)).toNat) = a ^^^ b := by
    rw [BitVec.toNat_xor, BitVec.ofInt_natCast, BitVec.ofInt_natCast, BitVec.toNat_ofNat, BitVec.toNat_ofNat, show IntKind.bits .u32 = 32 from rfl, Nat.mod_eq_of_lt (by omega), Nat.mod_eq_of_lt (by omega)]
  rw [e64, e32]
  generalize a ^^^ b = m at hx
  rw [wu64 (n := ((m : Nat) : Int)) (by omega) (by omega), IntKind.wrap_u32 ((m : Nat) : Int), show ((m : Nat) : Int) % 4294967296 = ((m : Nat) : Int) by omega, wu64 (by omega) (by omega), IntKind.wrap_u32, Int.tmod_eq_emod_of_nonneg (by omega)]
def dig (h : Int) (b : List Int) : Int := b.foldl dig1 h
theorem dig_take {b : List Int} {h : Int} {i : Nat} (hi : i < b.length) : dig h (b.take (i + 1)) = dig1 (dig h (b.take i)) b[i] := by
  unfold dig; rw [List.take_succ_eq_append_getElem hi, List.foldl_append]; rfl
theorem dig_in : ∀ (b : List Int) {h : Int}, 0 ≤ h ∧ h < 4294967296 → 0 ≤ dig h b ∧ dig h b < 4294967296
  | [], _, h => h
  | x :: b, h, _ => dig_in b (dig1_in h x)
theorem i_digest_eq {b : List Int} (hl : b.length ≤ 1099511627776) (h : Int) : i_digest h b = some (dig h b) := by
  unfold i_digest
  have := loop_run i_digest_L1 (fun i => (dig h (b.take i), b, ((b.length : Nat) : Int), ((i : Nat) : Int))) b.length (dig h b) (by
    intro i hi
    have hlt : ((i : Nat) : Int) < ((b.length : Nat) : Int) := by omega
    unfold i_digest_L1
    simp only [hlt, decide_true, if_true, show (0 : Int) ≤ ((i : Nat) : Int) from by omega, Int.toNat_natCast, List.getElem?_eq_getElem hi, Option.bind_some, idx_succ hl hi, dig_take hi]
    rfl) (by simp [i_digest_L1])
  have e : loopG i_digest_L1 (h, b, ((b.length : Nat) : Int), 0) = some (dig h b) := by simpa [dig] using this
  rw [e]; rfl
theorem i_DigestOf_eq {b : List Int} (hl : b.length ≤ 1099511627776) : i_DigestOf b = some (dig 2166136261 b) := by
  unfold i_DigestOf; rw [i_digest_eq hl]; rfl
theorem s_DigestOf_eq {b : List Int} (hl : b.length ≤ 1099511627776) (hb : Byt b) : s_DigestOf b = some (dig 2166136261 b) := by
  unfold s_DigestOf
  have := loop_run s_DigestOf_L1 (fun i => (dig 2166136261 (b.take i), b, ((b.length : Nat) : Int), ((i : Nat) : Int))) b.length (dig 2166136261 b) (by
    intro i hi
    have hlt : ((i : Nat) : Int) < ((b.length : Nat) : Int) := by omega
    have hd := dig_in (b.take i) (h := 2166136261) (by omega)
    have hx := hb _ (List.getElem_mem hi)
    unfold s_DigestOf_L1
    simp only [hlt, decide_true, if_true, show (0 : Int) ≤ ((i : Nat) : Int) from by omega, Int.toNat_natCast, List.getElem?_eq_getElem hi, Option.bind_some, show decide (¬ (4294967296 : Int) = 0) = true from rfl, idx_succ hl hi, dig_take hi, dig1_64 hd.1 hd.2 hx.1 hx.2]) (by simp [s_DigestOf_L1])
  have e : loopG s_DigestOf_L1 (2166136261, b, ((b.length : Nat) : Int), 0) = some (dig 2166136261 b) := by simpa [dig] using this
  have hd := dig_in b (h := 2166136261) (by omega)
  rw [e, Option.bind_some, IntKind.wrap_u32]
  congr 1; omega
def tw (n : Nat) : List Int := [IntKind.wrap .u8 (((n / 256 : Nat)) : Int), IntKind.wrap .u8 ((n : Nat) : Int)]
theorem tw_byt (n : Nat) : Byt (tw n) := fun x hx => by
  simp only [tw, List.mem_cons, List.not_mem_nil, or_false] at hx
  rcases hx with rfl | rfl <;> exact u8_byt _
theorem i_two_eq (n : Nat) : i_two ((n : Nat) : Int) = some (tw n) := by
  unfold i_two tw
  have e : Int.fdiv ((n : Nat) : Int) (2 ^ (min (Int.toNat 8) (IntKind.bits .i64))) = ((n / 256 : Nat) : Int) := by
    rw [show min (Int.toNat 8) (IntKind.bits .i64) = 8 from rfl, Int.fdiv_eq_ediv_of_nonneg _ (by decide)]
    omega
  rw [e]; rfl
theorem s_two_eq {n : Nat} (h : n ≤ 1099511627776) : ([IntKind.wrap .u8 (IntKind.wrap .i64 (Int.tdiv ((n : Nat) : Int) 256)), IntKind.wrap .u8 ((n : Nat) : Int)] : List Int) = tw n := by
  unfold tw
  rw [Int.tdiv_eq_ediv_of_nonneg (by omega), w64 (by omega) (by omega)]
  congr 2
def fourOf (d : Int) : List Int := [IntKind.wrap .u8 (Int.fdiv d (2 ^ (min (Int.toNat 24) (IntKind.bits .u32)))), IntKind.wrap .u8 (Int.fdiv d (2 ^ (min (Int.toNat 16) (IntKind.bits .u32)))), IntKind.wrap .u8 (Int.fdiv d (2 ^ (min (Int.toNat 8) (IntKind.bits .u32)))), IntKind.wrap .u8 d]
theorem i_four_eq (d : Int) : i_four d = some (fourOf d) := rfl
def encC (cs : List (List Prt)) : List Int := cs.flatMap fun c => tw (enc c).length ++ enc c
theorem encC_take {cs : List (List Prt)} {i : Nat} (h : i < cs.length) : encC (cs.take (i + 1)) = (encC (cs.take i) ++ tw (enc cs[i]).length) ++ enc cs[i] := by
  unfold encC; rw [List.take_succ_eq_append_getElem h, List.flatMap_append]; simp
theorem enc_small {c : List Prt} (h : good c = true) : (enc c).length ≤ 720 := by
  have := (good_sm h).len; have := (good_sm h).put
  rw [enc_len]; omega
theorem encC_len : ∀ {cs : List (List Prt)}, (∀ c ∈ cs, good c = true) → (encC cs).length ≤ 722 * cs.length
  | [], _ => Nat.zero_le _
  | c :: cs, h => by
    have := encC_len (cs := cs) fun x hx => h x (by simp [hx])
    have h2 := enc_small (h c (by simp))
    simp only [encC, List.flatMap_cons, List.length_append, List.length_cons] at this ⊢
    have : (tw (enc c).length).length = 2 := rfl
    omega
theorem enc_byt {c : List Prt} (hg : good c = true) : Byt (enc c) := fun x hx => by
  obtain ⟨p, hp, h⟩ := List.mem_flatMap.1 hx
  obtain ⟨q1, q2⟩ := part_small hg hp
  have hk := kd_range p
  simp only [enc1, List.mem_append, List.mem_cons, List.not_mem_nil, or_false] at h
  rcases h with (rfl | rfl) | h
  · omega
  · omega
  · exact bytesOf_byt _ x h
theorem encC_byt {cs : List (List Prt)} (h : ∀ c ∈ cs, good c = true) : Byt (encC cs) := fun x hx => by
  obtain ⟨c, hc, h2⟩ := List.mem_flatMap.1 hx
  exact (tw_byt _).append (enc_byt (h c hc)) x h2
def bun0 (a b : Int) (t : List UInt8) (l : List Rn) : List Int := (([66, 78, 68, 49, IntKind.wrap .u8 a, IntKind.wrap .u8 b, IntKind.wrap .u8 ((t.length : Nat) : Int)] ++ bytesOf t) ++ tw (encR l).length) ++ encR l
theorem bun0_byt (a b : Int) (t : List UInt8) (l : List Rn) : Byt (bun0 a b t l) := by
  refine Byt.append (Byt.append (Byt.append (fun x hx => ?_) (bytesOf_byt t)) (tw_byt _)) (encR_byt l)
  simp only [List.mem_cons, List.not_mem_nil, or_false] at hx
  rcases hx with rfl | rfl | rfl | rfl | rfl | rfl | rfl
  · omega
  · omega
  · omega
  · omega
  · exact u8_byt _
  · exact u8_byt _
  · exact u8_byt _
def bun (a b : Int) (t : List UInt8) (l : List Rn) (cs : List (List Prt)) : List Int := bun0 a b t l ++ encC cs
def bundleOf (a b : Int) (t : List UInt8) (l : List Rn) (cs : List (List Prt)) : List Int := bun a b t l cs ++ fourOf (dig 2166136261 (bun a b t l cs))
section
variable {f : Int} {t : List UInt8} {r : List Rn} {cs : List (List Prt)}
def bundleH (f : Int) (t : List UInt8) (r : List Rn) (cs : List (List Prt)) (a b : Int) : List Int :=
  bundleOf a b (txt t (cs.take (a - f).toNat)) (blm (f + 1) r (cs.take (a - f).toNat)) (seg cs (a - f) (b - f))
theorem seg_good (g : GH f t r cs) (a b : Int) : ∀ c ∈ seg cs a b, good c = true := fun c hc => chn_mem g.hc c (List.mem_of_mem_drop (List.mem_of_mem_take hc))
theorem seg_len (cs : List (List Prt)) (a b : Int) : (seg cs a b).length ≤ cs.length := by unfold seg; rw [List.length_take, List.length_drop]; omega
theorem bun0_len {a b : Int} {t : List UInt8} {l : List Rn} : (bun0 a b t l).length = 9 + t.length + 2 * l.length := by
  unfold bun0
  simp only [List.length_append, bytesOf_len, encR_len, List.length_cons, List.length_nil, tw]
  omega
theorem i_bundle_loop {b0 : List Int} {ds : List (List Prt)} (hb : b0.length ≤ 100000) (hn : ds.length ≤ 1000) (hg : ∀ c ∈ ds, good c = true) : loopG i_bundle_L1 (b0, ds, ((ds.length : Nat) : Int), 0) = some (b0 ++ encC ds) := by
  have := loop_run i_bundle_L1 (fun i => (b0 ++ encC (ds.take i), ds, ((ds.length : Nat) : Int), ((i : Nat) : Int))) ds.length (b0 ++ encC ds) (by
    intro i hi
    have hlt : ((i : Nat) : Int) < ((ds.length : Nat) : Int) := by omega
    have gi := hg _ (List.getElem_mem hi)
    have l1 := encC_len (cs := ds.take i) fun c hc => hg c (List.mem_of_mem_take hc)
    have l2 := enc_small gi
    rw [List.length_take] at l1
    have ht : (tw (enc ds[i]).length).length = 2 := rfl
    have r1 : roomFor (List.length (b0 ++ encC (ds.take i)) + List.length (tw (enc ds[i]).length)) 1 = true := room8 (by rw [List.length_append]; omega) (by omega)
    have r2 : roomFor (List.length ((b0 ++ encC (ds.take i)) ++ tw (enc ds[i]).length) + List.length (enc ds[i])) 1 = true := room8 (by rw [List.length_append, List.length_append]; omega) (by omega)
    unfold i_bundle_L1
    simp only [hlt, decide_true, if_true, show (0 : Int) ≤ ((i : Nat) : Int) from by omega, Int.toNat_natCast, List.getElem?_eq_getElem hi, Option.bind_some, i_write_eq (good_sm gi) (by omega) gi, i_two_eq, r1, r2, idx_succ (show ds.length ≤ 1099511627776 by omega) hi, encC_take hi]
    simp only [List.append_assoc]) (by simp [i_bundle_L1])
  simpa [encC] using this
theorem s_bundle_loop {b0 : List Int} {ds : List (List Prt)} (hb : b0.length ≤ 100000) (hn : ds.length ≤ 1000) (hg : ∀ c ∈ ds, good c = true) : loopG s_ExportRange_L1 (b0, ds, ((ds.length : Nat) : Int), 0) = some (b0 ++ encC ds) := by
  have := loop_run s_ExportRange_L1 (fun i => (b0 ++ encC (ds.take i), ds, ((ds.length : Nat) : Int), ((i : Nat) : Int))) ds.length (b0 ++ encC ds) (by
    intro i hi
    have hlt : ((i : Nat) : Int) < ((ds.length : Nat) : Int) := by omega
    have gi := hg _ (List.getElem_mem hi)
    have l1 := encC_len (cs := ds.take i) fun c hc => hg c (List.mem_of_mem_take hc)
    have l2 := enc_small gi
    rw [List.length_take] at l1
    have ht : (tw (enc ds[i]).length).length = 2 := rfl
    have r1 : roomFor (List.length (b0 ++ encC (ds.take i)) + List.length (tw (enc ds[i]).length)) 1 = true := room8 (by rw [List.length_append]; omega) (by omega)
    have r2 : roomFor (List.length ((b0 ++ encC (ds.take i)) ++ tw (enc ds[i]).length) + List.length (enc ds[i])) 1 = true := room8 (by rw [List.length_append, List.length_append]; omega) (by omega)
    unfold s_ExportRange_L1
    simp only [hlt, decide_true, if_true, show (0 : Int) ≤ ((i : Nat) : Int) from by omega, Int.toNat_natCast, List.getElem?_eq_getElem hi, Option.bind_some, s_write_eq (good_sm gi) (by omega) gi, s_two_eq (show (enc ds[i]).length ≤ 1099511627776 by omega), show decide (¬ (256 : Int) = 0) = true from rfl, r1, r2, idx_succ (show ds.length ≤ 1099511627776 by omega) hi, encC_take hi]
    simp only [List.append_assoc]) (by simp [s_ExportRange_L1])
  simpa [encC] using this
theorem bundle_facts (g : GH f t r cs) {a b : Int} (h1 : f ≤ a) (h2 : a ≤ b) (h3 : b ≤ f + cs.length) : (txt t (cs.take (a - f).toNat)).length ≤ 120 ∧ (blm (f + 1) r (cs.take (a - f).toNat)).length ≤ 120 := by
  have ht := text_in g (a - f).toNat
  have hb := w_runs (blm_good g (a - f).toNat)
  unfold w_RunS at hb
  omega
theorem i_bundle_eq (g : GH f t r cs) {a b : Int} (h1 : f ≤ a) (h2 : a ≤ b) (h3 : b ≤ f + cs.length) : i_bundle f t r cs a b = some (bundleH f t r cs a b) := by
  have := g.hf; have := g.hn
  have w1 : IntKind.wrap .i64 (a - f) = a - f := w64 (by omega) (by omega)
  have w2 : IntKind.wrap .i64 (b - f) = b - f := w64 (by omega) (by omega)
  obtain ⟨l1, l2⟩ := bundle_facts g h1 h2 h3
  unfold i_bundle bundleH
  rw [i_text_eq g h1 (by omega), Option.bind_some, i_blame_eq g h1 (by omega), Option.bind_some]
  generalize txt t (cs.take (a - f).toNat) = tx at l1
  generalize blm (f + 1) r (cs.take (a - f).toNat) = bl at l2
  have sl := seg_len cs (a - f) (b - f)
  have sg := seg_good g (a - f) (b - f)
  have lp := i_bundle_loop (b0 := bun0 a b tx bl) (by rw [bun0_len]; omega) (show (seg cs (a - f) (b - f)).length ≤ 1000 by omega) sg
  have el := encC_len sg
  have bl0 := bun0_len (a := a) (b := b) (t := tx) (l := bl)
  have bn : (bun a b tx bl (seg cs (a - f) (b - f))).length ≤ 1000000 := by unfold bun; rw [List.length_append]; omega
  rw [i_writeRuns_eq (by omega), Option.bind_some, i_two_eq, w1, w2]
  refine Ok.eq (Ok.yes (room8 (by simp only [List.length_cons, List.length_nil, bytesOf_len]; omega) (by omega)) (Ok.bind_eq rfl (Ok.yes (room8 (by simp only [List.length_append, List.length_cons, List.length_nil, bytesOf_len, tw]; omega) (by omega)) (Ok.yes (room8 (by simp only [List.length_append, List.length_cons, List.length_nil, bytesOf_len, encR_len, tw]; omega) (by omega))
    (Ok.yes (by simp; omega) (Ok.yes (by simp; omega) (Ok.yes (by simp; omega) (Ok.yes (by simp) (Ok.bind_eq lp (Ok.bind_eq (i_DigestOf_eq (show (bun a b tx bl (seg cs (a - f) (b - f))).length ≤ 1099511627776 by omega)) (Ok.bind_eq (i_four_eq _) (Ok.yes (room8 (show (bun a b tx bl (seg cs (a - f) (b - f))).length + 4 ≤ 1099511627776 by omega) (by omega)) (Ok.mk rfl)))))))))))))
def exportOf (f : Int) (t : List UInt8) (r : List Rn) (cs : List (List Prt)) (a b : Int) : List Int × Int :=
  if codeH f t r cs a b = 1 then ([], 1) else if codeH f t r cs a b = 2 then ([], 2) else if 20000 < (((bundleH f t r cs a b).length : Nat) : Int) then ([], 6) else (bundleH f t r cs a b, 0)
theorem i_export_eq (h : HB t r cs) (f a b : Int) : i_ExportRange f t r cs a b = some (exportOf f t r cs a b) := by
  unfold i_ExportRange exportOf
  rw [i_code_eq h, Option.bind_some]
  rcases codeH_cases f a b t r cs with h0 | h0 | h0
  · obtain ⟨g, h1, h2, h3⟩ := codeH_zero h0
    rw [h0, if_neg (by simp), if_neg (by simp), if_neg (by simp), if_neg (by simp), i_bundle_eq g h1 h2 h3, Option.bind_some]
    by_cases hl : 20000 < (((bundleH f t r cs a b).length : Nat) : Int)
    · rw [if_pos (by simpa using hl), if_pos hl]
    · rw [if_neg (by simpa using hl), if_neg hl]
  · rw [h0]; rfl
  · rw [h0]; rfl
theorem s_export_eq (h : HB t r cs) (f a b : Int) : s_ExportRange f t r cs a b = some (exportOf f t r cs a b) := by
  unfold s_ExportRange exportOf
  rw [s_range_eq h, Option.bind_some]
  rcases codeH_cases f a b t r cs with h0 | h0 | h0
  · obtain ⟨g, h1, h2, h3⟩ := codeH_zero h0
    have := g.hf; have := g.hn
    have w1 : IntKind.wrap .i64 (a - f) = a - f := w64 (by omega) (by omega)
    have w2 : IntKind.wrap .i64 (b - f) = b - f := w64 (by omega) (by omega)
    obtain ⟨l1, l2⟩ := bundle_facts g h1 h2 h3
    rw [h0, if_neg (by simp), if_neg (by simp), if_neg (by simp), if_neg (by simp), s_text_eq g h1 (by omega), Option.bind_some, s_blame_eq g h1 (by omega), Option.bind_some]
    unfold bundleH
    generalize txt t (cs.take (a - f).toNat) = tx at l1
    generalize blm (f + 1) r (cs.take (a - f).toNat) = bl at l2
    have sl := seg_len cs (a - f) (b - f)
    have sg := seg_good g (a - f) (b - f)
    have lp := s_bundle_loop (b0 := bun0 a b tx bl) (by rw [bun0_len]; omega) (show (seg cs (a - f) (b - f)).length ≤ 1000 by omega) sg
    have el := encC_len sg
    have bl0 := bun0_len (a := a) (b := b) (t := tx) (l := bl)
    have bn : (bun a b tx bl (seg cs (a - f) (b - f))).length ≤ 1000000 := by unfold bun; rw [List.length_append]; omega
    have bb : Byt (bun a b tx bl (seg cs (a - f) (b - f))) := (bun0_byt _ _ _ _).append (encC_byt sg)
    rw [s_Write9_eq (by omega), Option.bind_some, s_two_eq (show (encR bl).length ≤ 1099511627776 by rw [encR_len]; omega), w1, w2]
    refine Ok.eq (Ok.yes (room8 (by simp only [List.length_cons, List.length_nil, bytesOf_len]; omega) (by omega)) (Ok.yes rfl (Ok.yes (room8 (by simp only [List.length_append, List.length_cons, List.length_nil, bytesOf_len, tw]; omega) (by omega)) (Ok.yes (room8 (by simp only [List.length_append, List.length_cons, List.length_nil, bytesOf_len, encR_len, tw]; omega) (by omega))
      (Ok.yes (by simp; omega) (Ok.yes (by simp; omega) (Ok.yes (by simp; omega) (Ok.yes (by simp) (Ok.bind_eq lp (Ok.bind_eq (s_DigestOf_eq (show (bun a b tx bl (seg cs (a - f) (b - f))).length ≤ 1099511627776 by omega) bb) (Ok.yes rfl (Ok.yes rfl (Ok.yes rfl (Ok.yes (room8 (show (bun a b tx bl (seg cs (a - f) (b - f))).length + 4 ≤ 1099511627776 by omega) (by omega)) ?_))))))))))))))
    show Ok (if decide (20000 < (((bundleOf a b tx bl (seg cs (a - f) (b - f))).length : Nat) : Int)) = true then some ([], 6) else some (bundleOf a b tx bl (seg cs (a - f) (b - f)), 0)) _
    by_cases hl : 20000 < (((bundleOf a b tx bl (seg cs (a - f) (b - f))).length : Nat) : Int)
    · rw [if_pos (by simpa using hl), if_pos hl]; exact Ok.mk rfl
    · rw [if_neg (by simpa using hl), if_neg hl]; exact Ok.mk rfl
  · rw [h0]; rfl
  · rw [h0]; rfl
end
end Go.V.G

set_option linter.unusedVariables false
set_option linter.unusedSimpArgs false
set_option maxRecDepth 100000
namespace Go.V.G
open Go.V
def decN : Nat → List Int → Option (List Prt)
  | 0, x => if x = [] then some [] else none
  | n + 1, x => match x with
    | [] => some []
    | [_] => none
    | k :: m :: r =>
      if k = 1 then (decN n r).map ((m, 0, []) :: ·)
      else if k = 2 then (decN n r).map ((0, m, []) :: ·)
      else if k = 3 ∧ m ≤ ((r.length : Nat) : Int) then (decN n (r.drop m.toNat)).map ((0, 0, textOf (r.take m.toNat)) :: ·)
      else none
theorem decN_nil : ∀ n, decN n [] = some []
  | 0 => rfl
  | _ + 1 => rfl
theorem decN_sm : ∀ (n : Nat) (x : List Int) (c : List Prt), Byt x → decN n x = some c → c.length ≤ x.length ∧ psum c ≤ x.length ∧ ∀ p ∈ c, (0 ≤ p.1 ∧ p.1 ≤ 255) ∧ (0 ≤ p.2.1 ∧ p.2.1 ≤ 255)
  | 0, x, c, hb, h => by
    unfold decN at h
    split at h
    · injection h with h; subst h; simp [psum]
    · cases h
  | n + 1, [], c, hb, h => by
    rw [decN_nil] at h
    injection h with h; subst h; simp [psum]
  | n + 1, [a], c, hb, h => by simp [decN] at h
  | n + 1, k :: m :: r, c, hb, h => by
    have hm := hb m (by simp)
    have hr : Byt r := fun v hv => hb v (by simp [hv])
    simp only [decN] at h
    split at h
    · obtain ⟨c', h1, rfl⟩ := Option.map_eq_some_iff.1 h
      obtain ⟨q1, q2, q3⟩ := decN_sm n r c' hr h1
      refine ⟨by simp only [List.length_cons]; omega, by simp only [psum, List.length_cons, List.length_nil] at q2 ⊢; omega, fun p hp => ?_⟩
      rcases List.mem_cons.1 hp with rfl | hp
      · exact ⟨hm, by dsimp only; omega⟩
      · exact q3 p hp
    · split at h
      · obtain ⟨c', h1, rfl⟩ := Option.map_eq_some_iff.1 h
        obtain ⟨q1, q2, q3⟩ := decN_sm n r c' hr h1
        refine ⟨by simp only [List.length_cons]; omega, by simp only [psum, List.length_cons, List.length_nil] at q2 ⊢; omega, fun p hp => ?_⟩
        rcases List.mem_cons.1 hp with rfl | hp
        · exact ⟨by dsimp only; omega, hm⟩
        · exact q3 p hp
      · split at h
        · rename_i h3
          obtain ⟨c', h1, rfl⟩ := Option.map_eq_some_iff.1 h
          obtain ⟨q1, q2, q3⟩ := decN_sm n _ c' (fun v hv => hr v (List.mem_of_mem_drop hv)) h1
          rw [List.length_drop] at q1 q2
          have ht : (textOf (r.take m.toNat)).length = m.toNat := by unfold textOf; rw [List.length_map, List.length_take]; omega
          refine ⟨by simp only [List.length_cons]; omega, by simp only [psum, List.length_cons, ht] at q2 ⊢; omega, fun p hp => ?_⟩
          rcases List.mem_cons.1 hp with rfl | hp
          · exact ⟨by dsimp only; omega, by dsimp only; omega⟩
          · exact q3 p hp
        · cases h
theorem decN_Sm {n : Nat} {x : List Int} {c : List Prt} (hb : Byt x) (h : decN n x = some c) : Sm x.length c := by
  obtain ⟨q1, q2, q3⟩ := decN_sm n x c hb h
  exact ⟨q1, q2, fun p hp => by obtain ⟨⟨a, b⟩, c, d⟩ := q3 p hp; exact ⟨by unfold I64; omega, by unfold I64; omega⟩⟩
theorem rc_room {l : List Prt} (h : l.length ≤ 1099511627776) (x : Prt) : roomFor (List.length l + List.length [x]) 32 = true := by simp [roomFor]; omega
theorem i_rc_loop : ∀ (n : Nat) (rest : List Int) (acc : List Prt), rest.length ≤ n → Byt rest → n ≤ 1000000000 → n + acc.length ≤ 1099511627776 →
    loopG i_ReadChange_L1 (rest, acc) = some (match decN n rest with | some c => .inl (acc ++ c) | none => .inr false)
  | n, [], acc, _, _, _, _ => by
    rw [loopG_eq, decN_nil]
    unfold i_ReadChange_L1
    simp
  | 0, a :: r, acc, h, _, _, _ => by simp at h
  | n + 1, [a], acc, _, _, _, _ => by
    rw [loopG_eq]
    unfold i_ReadChange_L1
    simp [decN]
  | n + 1, k :: m :: r, acc, h, hb, hn, ha => by
    have hm := hb m (by simp)
    have hr : Byt r := fun v hv => hb v (by simp [hv])
    simp only [List.length_cons] at h
    have hl2 : ¬ (((List.length (k :: m :: r) : Nat) : Int)) < 2 := by simp; omega
    have hl0 : (0 : Int) < (((List.length (k :: m :: r) : Nat) : Int)) := by simp; omega
    have hl3 : (2 : Int) ≤ (((List.length (k :: m :: r) : Nat) : Int)) := by simp; omega
    have g0 : (k :: m :: r)[Int.toNat 0]? = some k := rfl
    have g1 : (k :: m :: r)[Int.toNat 1]? = some m := rfl
    have w : IntKind.wrap .i64 m = m := w64 (by omega) (by omega)
    have room := rc_room (show acc.length ≤ 1099511627776 by omega)
    have ih := fun p => i_rc_loop n r (acc ++ [p]) (by omega) hr (by omega) (by simp only [List.length_append, List.length_cons, List.length_nil]; omega)
    rw [loopG_eq]
    by_cases k1 : k = 1
    · subst k1
      have hs : i_ReadChange_L1 (1 :: m :: r, acc) = some (.inl (r, acc ++ [(m, 0, [])])) := by
        unfold i_ReadChange_L1
        dsimp only
        rw [tail2]
        simp only [hl0, hl2, hl3, g0, g1, decide_true, decide_false, if_true, Bool.false_eq_true, if_false, Option.bind_some, Int.le_refl, show (0 : Int) ≤ 1 from by omega, show (0 : Int) ≤ 2 from by omega, w, room]
      rw [hs]
      dsimp only
      rw [ih, decN]
      simp only [if_true]
      cases decN n r with
      | none => rfl
      | some c => simp
    · by_cases k2 : k = 2
      · subst k2
        have hs : i_ReadChange_L1 (2 :: m :: r, acc) = some (.inl (r, acc ++ [(0, m, [])])) := by
          unfold i_ReadChange_L1
          dsimp only
          rw [tail2]
          simp only [hl0, hl2, hl3, g0, g1, decide_true, decide_false, if_true, Bool.false_eq_true, if_false, Option.bind_some, Int.le_refl, show (0 : Int) ≤ 1 from by omega, show (0 : Int) ≤ 2 from by omega, show ¬ (2 : Int) = 1 from by omega, w, room]
        rw [hs]
        dsimp only
        rw [ih, decN]
        simp only [show ¬ (2 : Int) = 1 from by omega, if_true, if_false]
        cases decN n r with
        | none => rfl
        | some c => simp
      · by_cases k3 : k = 3 ∧ m ≤ ((r.length : Nat) : Int)
        · obtain ⟨rfl, k4⟩ := k3
          have tk : (List.drop (Int.toNat 0) r).take (Int.toNat m - Int.toNat 0) = r.take m.toNat := rfl
          have dr : (List.drop (Int.toNat m) r).take (Int.toNat ((List.length r : Nat) : Int) - Int.toNat m) = r.drop m.toNat := List.take_of_length_le (by rw [List.length_drop]; omega)
          have hs : i_ReadChange_L1 (3 :: m :: r, acc) = some (.inl (r.drop m.toNat, acc ++ [(0, 0, textOf (r.take m.toNat))])) := by
            unfold i_ReadChange_L1
            dsimp only
            rw [tail2]
            simp only [hl0, hl2, hl3, g0, g1, decide_true, decide_false, if_true, Bool.false_eq_true, if_false, Option.bind_some, Int.le_refl, show (0 : Int) ≤ 1 from by omega, show (0 : Int) ≤ 2 from by omega, show ¬ (3 : Int) = 1 from by omega, show ¬ (3 : Int) = 2 from by omega, w, k4, hm.1, tk, dr, room]
          rw [hs]
          dsimp only
          rw [i_rc_loop n (r.drop m.toNat) _ (by rw [List.length_drop]; omega) (fun v hv => hr v (List.mem_of_mem_drop hv)) (by omega) (by simp only [List.length_append, List.length_cons, List.length_nil]; omega), decN]
          simp only [k4, if_true, if_false, and_self, show ¬ (3 : Int) = 1 from by omega, show ¬ (3 : Int) = 2 from by omega]
          cases decN n (r.drop m.toNat) with
          | none => rfl
          | some c => simp
        · have hs : i_ReadChange_L1 (k :: m :: r, acc) = some (.inr (.inr false)) := by
            unfold i_ReadChange_L1
            dsimp only
            rw [tail2]
            by_cases k3' : k = 3
            · subst k3'
              have : ¬ m ≤ ((r.length : Nat) : Int) := fun h => k3 ⟨rfl, h⟩
              simp only [hl0, hl2, hl3, g0, g1, decide_true, decide_false, if_true, Bool.false_eq_true, if_false, Option.bind_some, Int.le_refl, show (0 : Int) ≤ 1 from by omega, show (0 : Int) ≤ 2 from by omega, show ¬ (3 : Int) = 1 from by omega, show ¬ (3 : Int) = 2 from by omega, w, this]
            · simp only [hl0, hl2, hl3, g0, g1, k1, k2, k3', decide_true, decide_false, if_true, Bool.false_eq_true, if_false, Option.bind_some, Int.le_refl, show (0 : Int) ≤ 1 from by omega, show (0 : Int) ≤ 2 from by omega, w]
          rw [hs, decN]
          simp only [k1, k2, k3, if_false]
def readC (x : List Int) : List Prt × Bool := match decN x.length x with
  | some c => if good c = true then (c, true) else ([], false)
  | none => ([], false)
theorem i_readC {x : List Int} (hb : Byt x) (hl : x.length ≤ 1000000000) : i_ReadChange x = some (readC x) := by
  unfold i_ReadChange readC
  rw [i_rc_loop x.length x [] (Nat.le_refl _) hb hl (by simp; omega)]
  cases hd : decN x.length x with
  | none => rfl
  | some c =>
    simp only [Option.bind_some, List.nil_append]
    rw [i_Good_eq (decN_Sm hb hd) (by omega), Option.bind_some]
    cases hg : good c <;> simp
end Go.V.G

set_option linter.unusedVariables false
set_option linter.unusedSimpArgs false
set_option maxRecDepth 100000
namespace Go.V.G
open Go.V
theorem byt_take {x : List Int} (h : Byt x) (n : Nat) : Byt (x.take n) := fun v hv => h v (List.mem_of_mem_take hv)
theorem byt_drop {x : List Int} (h : Byt x) (n : Nat) : Byt (x.drop n) := fun v hv => h v (List.mem_of_mem_drop hv)
theorem i_take_eq (n : Int) (rest : List Int) (bad : Bool) (hn : 0 ≤ n) : i_taker_take_f n rest bad = some (if ((rest.length : Nat) : Int) < n then ([], rest, true) else (rest.take n.toNat, rest.drop n.toNat, bad)) := by
  unfold i_taker_take_f
  by_cases h : ((rest.length : Nat) : Int) < n
  · simp only [h, decide_true, if_true, Option.bind_some, Int.le_refl]
    simp
  · have h2 : n ≤ ((rest.length : Nat) : Int) := by omega
    have e1 : (List.drop (Int.toNat 0) rest).take (Int.toNat n - Int.toNat 0) = rest.take n.toNat := rfl
    have e2 : (List.drop (Int.toNat n) rest).take (Int.toNat ((List.length rest : Nat) : Int) - Int.toNat n) = rest.drop n.toNat := List.take_of_length_le (by rw [List.length_drop]; omega)
    simp only [h, h2, hn, e1, e2, decide_true, decide_false, Bool.false_eq_true, if_true, if_false, Option.bind_some, Int.le_refl]
def be (x : List Int) : Int := x.foldl (fun a b => a * 256 + b) 0
theorem or64 {a c : Int} (ha : 0 ≤ a ∧ a ≤ 255) (hc : 0 ≤ c ∧ c ≤ 255) : IntKind.wrap .i64 (((BitVec.ofInt (IntKind.bits .i64) (a * 256) ||| BitVec.ofInt (IntKind.bits .i64) c).toNat : Int)) = a * 256 + c := by
  obtain ⟨a, rfl⟩ := Int.eq_ofNat_of_zero_le ha.1
  obtain ⟨c, rfl⟩ := Int.eq_ofNat_of_zero_le hc.1
  have e : ((a : Nat) : Int) * 256 = ((a * 256 : Nat) : Int) := by omega
  rw [e, BitVec.toNat_or, BitVec.ofInt_natCast, BitVec.ofInt_natCast, BitVec.toNat_ofNat, BitVec.toNat_ofNat, show IntKind.bits .i64 = 64 from rfl, Nat.mod_eq_of_lt (by omega), Nat.mod_eq_of_lt (by omega)]
  have := Nat.shiftLeft_add_eq_or_of_lt (show c < 2 ^ 8 by omega) a
  rw [Nat.shiftLeft_eq] at this
  rw [show a * 256 = a * 2 ^ 8 from rfl, ← this, w64 (by omega) (by omega)]
  omega
theorem i_num {x : List Int} {rest : List Int} {bad : Bool} (hb : Byt x) (hl : x.length ≤ 2) : loopG i_taker_sized_f_L1 (0, x, ((List.length x : Nat) : Int), 0, rest, bad) = some (be x, rest, bad) := by
  match x, hb, hl with
  | [], _, _ => rw [loopG_eq]; unfold i_taker_sized_f_L1; simp [be]
  | [a], hb, _ =>
    have ha := hb a (by simp)
    have o := or64 (a := 0) (c := a) (by omega) ha
    have w : IntKind.wrap .i64 a = a := w64 (by omega) (by omega)
    rw [loopG_eq]
    have hs : i_taker_sized_f_L1 (0, [a], (([a].length : Nat) : Int), 0, rest, bad) = some (.inl (a, [a], 1, 1, rest, bad)) := by
      unfold i_taker_sized_f_L1
      simp only [show [a][Int.toNat 0]? = some a from rfl, Option.bind_some, w, show IntKind.wrap .i64 ((0 : Int) * 2 ^ (min (Int.toNat 8) (IntKind.bits .i64))) = 0 * 256 from by decide, o]
      simp
      rfl
    rw [hs]
    dsimp only
    rw [loopG_eq]; unfold i_taker_sized_f_L1; simp [be]
  | [a, c], hb, _ =>
    have ha := hb a (by simp)
    have hc := hb c (by simp)
    have o := or64 (a := 0) (c := a) (by omega) ha
    have o2 := or64 (a := a) (c := c) ha hc
    have w : IntKind.wrap .i64 a = a := w64 (by omega) (by omega)
    have wc : IntKind.wrap .i64 c = c := w64 (by omega) (by omega)
    have w2 : IntKind.wrap .i64 (a * 2 ^ (min (Int.toNat 8) (IntKind.bits .i64))) = a * 256 := by
      rw [show ((2 : Int) ^ (min (Int.toNat 8) (IntKind.bits .i64))) = 256 from by decide]; exact w64 (by omega) (by omega)
    have hs : i_taker_sized_f_L1 (0, [a, c], (([a, c].length : Nat) : Int), 0, rest, bad) = some (.inl (a, [a, c], 2, 1, rest, bad)) := by
      unfold i_taker_sized_f_L1
      simp only [show [a, c][Int.toNat 0]? = some a from rfl, Option.bind_some, w, show IntKind.wrap .i64 ((0 : Int) * 2 ^ (min (Int.toNat 8) (IntKind.bits .i64))) = 0 * 256 from by decide, o]
      simp
      rfl
    have hs2 : i_taker_sized_f_L1 (a, [a, c], 2, 1, rest, bad) = some (.inl (a * 256 + c, [a, c], 2, 2, rest, bad)) := by
      unfold i_taker_sized_f_L1
      simp only [w2, show [a, c][Int.toNat 1]? = some c from rfl, Option.bind_some, wc, o2]
      simp
      rfl
    rw [loopG_eq, hs]
    dsimp only
    rw [loopG_eq, hs2]
    dsimp only
    rw [loopG_eq]; unfold i_taker_sized_f_L1; simp [be]
end Go.V.G

set_option linter.unusedVariables false
set_option linter.unusedSimpArgs false
set_option maxRecDepth 100000
namespace Go.V.G
open Go.V
def ChOk (l : List (List Int)) : Prop := ∀ c ∈ l, Byt c ∧ c.length ≤ 20000
theorem ChOk.add {l : List (List Int)} {c : List Int} (h : ChOk l) (hc : Byt c ∧ c.length ≤ 20000) : ChOk (l ++ [c]) := fun x hx => by
  rcases List.mem_append.1 hx with hx | hx
  · exact h x hx
  · rw [List.mem_singleton.1 hx]; exact hc
theorem ch_room {l : List (List Int)} (h : l.length ≤ 1000000) (c : List Int) : roomFor (List.length l + List.length ([c] : List (List Int))) 24 = true := by simp [roomFor]; omega
section
variable {b : List Int} {runs runs' : List Int} {f0 f1 fr fr' : Int} {t0 t1 tx tx' : List UInt8} {body : List Int}
end
def okF (ok : Bool) (l : List (List Int)) : Bool := ok && l.all fun c => (readC c).2
def chF (l : List (List Int)) : List (List Prt) := l.map fun c => (readC c).1
theorem okF_add {ok : Bool} {l : List (List Int)} {i : Nat} (h : i < l.length) : okF ok (l.take (i + 1)) = (if okF ok (l.take i) = true then (readC l[i]).2 else false) := by
  unfold okF
  rw [List.take_succ_eq_append_getElem h, List.all_append]
  cases ok <;> cases (l.take i).all (fun c => (readC c).2) <;> simp
theorem chF_add {l : List (List Int)} {i : Nat} (h : i < l.length) : chF (l.take (i + 1)) = chF (l.take i) ++ [(readC l[i]).1] := by
  unfold chF
  rw [List.take_succ_eq_append_getElem h, List.map_append]; rfl
theorem cc_room {l : List (List Prt)} (h : l.length ≤ 1000000) (c : List Prt) : roomFor (List.length l + List.length ([c] : List (List Prt))) 24 = true := by simp [roomFor]; omega
theorem i_chunks {ok : Bool} {l : List (List Int)} {f0 fr : Int} {t0 tx : List UInt8} {r : List Rn} (hc : ChOk l) (hl : l.length ≤ 100) :
    loopG i_ReadBundle_L2 (ok, l, ((l.length : Nat) : Int), 0, f0, t0, fr, tx, r, []) = some (okF ok l, f0, t0, fr, tx, r, chF l) := by
  have := loop_run i_ReadBundle_L2 (fun i => (okF ok (l.take i), l, ((l.length : Nat) : Int), ((i : Nat) : Int), f0, t0, fr, tx, r, chF (l.take i))) l.length (okF ok l, f0, t0, fr, tx, r, chF l) (fun i hi => by
    have c0 : ((i : Nat) : Int) < ((l.length : Nat) : Int) := by omega
    have hge : l[0 + Int.toNat ((i : Nat) : Int)]? = some l[i] := by rw [Nat.zero_add, Int.toNat_natCast]; exact List.getElem?_eq_getElem hi
    have hci := hc _ (List.getElem_mem hi)
    have room := cc_room (l := chF (l.take i)) (by unfold chF; rw [List.length_map, List.length_take]; omega)
    unfold i_ReadBundle_L2
    simp only [c0, hge, show (0 : Int) ≤ ((i : Nat) : Int) from by omega, decide_true, if_true, Option.bind_some, i_readC hci.1 (by omega), okF_add hi, chF_add hi]
    cases okF ok (l.take i) <;> simp only [if_true, Bool.false_eq_true, if_false, Option.bind_some, room, idx_succ (show l.length ≤ 1099511627776 by omega) hi]) (by
    unfold i_ReadBundle_L2
    simp)
  simpa [okF, chF] using this
theorem sEq_loop {a b : List Int} (hab : a.length = b.length) (hl : a.length ≤ 1000000000) : ∀ (n i : Nat), i + n = a.length → a.take i = b.take i →
    loopG slices_Equal_byte_byte_L1 (a, b, ((a.length : Nat) : Int), ((i : Nat) : Int)) = some (if a = b then .inl () else .inr false)
  | 0, i, hi, he => by
    obtain rfl : i = a.length := by omega
    have : a = b := by rw [List.take_length, hab, List.take_length] at he; exact he
    rw [if_pos this, loopG_eq]
    unfold slices_Equal_byte_byte_L1
    simp
  | n + 1, i, hi, he => by
    have h1 : i < a.length := by omega
    have h2 : i < b.length := by omega
    have c0 : ((i : Nat) : Int) < ((a.length : Nat) : Int) := by omega
    have g1 : a[Int.toNat ((i : Nat) : Int)]? = some a[i] := by rw [Int.toNat_natCast]; exact List.getElem?_eq_getElem h1
    have g2 : b[Int.toNat ((i : Nat) : Int)]? = some b[i] := by rw [Int.toNat_natCast]; exact List.getElem?_eq_getElem h2
    rw [loopG_eq]
    by_cases hx : a[i] = b[i]
    · have hs : slices_Equal_byte_byte_L1 (a, b, ((a.length : Nat) : Int), ((i : Nat) : Int)) = some (.inl (a, b, ((a.length : Nat) : Int), ((i + 1 : Nat) : Int))) := by
        unfold slices_Equal_byte_byte_L1
        simp only [c0, g1, g2, hx, show (0 : Int) ≤ ((i : Nat) : Int) from by omega, decide_true, if_true, Option.bind_some, not_true_eq_false, decide_false, Bool.false_eq_true, if_false, idx_succ (show a.length ≤ 1099511627776 by omega) h1]
      rw [hs]
      exact sEq_loop hab hl n (i + 1) (by omega) (by rw [List.take_succ_eq_append_getElem h1, List.take_succ_eq_append_getElem h2, he, hx])
    · have hne : a ≠ b := fun e => hx (by subst e; rfl)
      rw [if_neg hne]
      have hs : slices_Equal_byte_byte_L1 (a, b, ((a.length : Nat) : Int), ((i : Nat) : Int)) = some (.inr (.inr false)) := by
        unfold slices_Equal_byte_byte_L1
        simp only [c0, g1, g2, hx, show (0 : Int) ≤ ((i : Nat) : Int) from by omega, decide_true, if_true, Option.bind_some, not_false_eq_true]
      rw [hs]
theorem sEq_eq {a b : List Int} (hl : a.length ≤ 1000000000) : slices_Equal_byte_byte a b = some (decide (a = b)) := by
  unfold slices_Equal_byte_byte
  by_cases hab : a.length = b.length
  · have h1 : ((a.length : Nat) : Int) = ((b.length : Nat) : Int) := by omega
    rw [if_neg (by simpa using h1), show loopG slices_Equal_byte_byte_L1 (a, b, ((a.length : Nat) : Int), 0) = _ from sEq_loop hab hl a.length 0 (by omega) rfl]
    by_cases he : a = b
    · rw [if_pos he]; simp [he]
    · rw [if_neg he]; simp [he]
  · have h1 : ¬ ((a.length : Nat) : Int) = ((b.length : Nat) : Int) := by omega
    have hne : a ≠ b := fun e => hab (by rw [e])
    rw [if_pos (by simpa using h1)]
    simp [hne]
end Go.V.G

set_option linter.unusedVariables false
set_option linter.unusedSimpArgs false
set_option maxRecDepth 100000
namespace Go.V.G
open Go.V
abbrev Bd5 := Int × (Int × (List UInt8 × (List Rn × List (List Prt))))
def bad5 (c : Int) : Bd5 := (c, 0, [], [], [])
end Go.V.G
