/-
  S13: every operation but the calls of functions.
-/
import Derived.Test.YtdicgiljgelkfaaS12
namespace Go.V
open Go.RowKit

/-- the operation runs, and what it leaves is so -/
def Goes (P : Program) (o : Oper) (a : Act) (w : World) (post : Value → World → Prop) : Prop :=
  ∀ (next : Act → World → Prop) (Q : Exit → Act → World → Prop), (∀ v w', post v w' → next (a.put o.dst v) w') → o.wp P a w next Q

section
variable {P : Program} {E : Env} {b : Base} {S : St} {c : Cc} {w : World} {a : Act} {o : Oper} {post : Value → World → Prop}

theorem goes_value {s : Sem Value} (he : execOp a.eval o = (do pure (.value (← s)))) (hr : ∃ v w', s.run P w = .ok v w' ∧ post v w') : Goes P o a w post := by
  intro next Q h
  obtain ⟨v, w', h1, h2⟩ := hr
  unfold Oper.wp
  rw [he]
  simp only [Sem.run_bind, h1, Result.andThen_ok, Sem.run_pure]
  exact h v w' h2
theorem goes_unit {s : Sem Unit} (he : execOp a.eval o = (do s; pure .skip)) (hr : ∃ w', s.run P w = .ok () w' ∧ post undef w') : Goes P o a w post := by
  intro next Q h
  obtain ⟨w', h1, h2⟩ := hr
  unfold Oper.wp
  rw [he]
  simp only [Sem.run_bind, h1, Result.andThen_ok, Sem.run_pure]
  exact h undef w' h2
theorem goes_now {v : Value} (he : execOp a.eval o = pure (.value v)) (hr : post v w) : Goes P o a w post := by
  intro next Q h
  unfold Oper.wp
  rw [he, Sem.run_pure]
  exact h v w hr

theorem goes_some (hr : ∃ v w', (execOp a.eval o).run P w = .ok (.value v) w' ∧ post v w') : Goes P o a w post := by
  intro next Q h
  obtain ⟨v, w', h1, h2⟩ := hr
  unfold Oper.wp
  rw [h1]
  exact h v w' h2

theorem vbin_val {K : Nat → Prop} {op : BinOp} {x y l : Leaf} {u : Value} (hx : LeafOk S c w K x u) (h : (vbin op x y).ev S = some l) : u.oneCell' = true ∧ u ≠ .nilIface := by
  unfold vbin at h
  split at h
  · obtain rfl := int_leaf hx; exact ⟨rfl, by simp⟩
  · obtain rfl := bool_leaf hx; exact ⟨rfl, by simp⟩
  · obtain rfl := str_leaf hx; exact ⟨rfl, by simp⟩
  · simp [Tr.ev] at h

theorem parts_all {N : Nat} {K : Nat → Prop} (hs : Slots N S c w K a) : ∀ (ps : List (Nat × Operand)), All2 (fun (p : Nat × SV) u => SVOk S c w K p.2 u) (ps.map fun p => (p.1, opnd S p.2)) (ps.map fun p => a.eval p.2)
  | [] => .nil
  | p :: ps => .cons (opnd_ok hs p.2) (parts_all hs ps)
theorem parts_zip {S : St} {a : Act} : ∀ (ps : List (Nat × Operand)), ps.map (fun (p : Nat × Operand) => (p.1, a.eval p.2)) = ((ps.map fun p => (p.1, opnd S p.2)).map (·.1)).zip (ps.map fun p => a.eval p.2)
  | [] => rfl
  | p :: ps => by simp [parts_zip (S := S) (a := a) ps]
theorem parts_arr {a : Act} (ps : Array (Nat × Operand)) : (ps.map fun (i, x) => (i, a.eval x)) = (ps.toList.map fun p => (p.1, a.eval p.2)).toArray := by
  apply Array.ext'
  simp
theorem args_all {N : Nat} {K : Nat → Prop} (hs : Slots N S c w K a) : ∀ (ps : List Operand), All2 (SVOk S c w K) (ps.map (opnd S)) (ps.map a.eval)
  | [] => .nil
  | p :: ps => .cons (opnd_ok hs p) (args_all hs ps)

theorem builtin_goes {N : Nat} {f : Builtin} {args : Array Operand} {ts : Array TypeId} {dst : Option Tmp} {ty : TypeId} {pos : String} {aft : Array Edge} {gd : Option (Nat × Bool)} {s : Sem Value} (_ : Slots N S c w (Kok b S c) a)
    (he : ∀ consts, builtin f ts ty consts (args.map a.eval) = (do pure (.value (← s)))) (hr : ∃ v w', s.run P w = .ok v w' ∧ post v w') : Goes P ⟨dst, .call ⟨.builtin f, args, ts⟩, ty, pos, aft, gd⟩ a w post := by
  intro next Q h
  obtain ⟨v, w', h1, h2⟩ := hr
  unfold Oper.wp
  simp only [execOp, resolve, Sem.run_bind, Sem.run_pure, Result.andThen_ok, invoke, he, h1]
  exact h v w' h2

theorem core_ok (hT : TabOk P E.ti) {N : Nat} (hi : Inv b S w c) (hs : Slots N S c w (Kok b S c) a) (o : Oper) {d : Nat} (hdn : d < b.n1) {out : Out}
    (hcall : ∀ f args ts out, o.op = .call ⟨.value (.func f), args, ts⟩ → args.size = ts.size → (callT E d f ((args.toList.map (opnd S)).zip ts.toList)).ev S = some out → Goes P o a w fun v w' => Did b S c w out v w')
    (h : (core E (opnd S) d o.op).ev S = some out) : Goes P o a w fun v w' => Did b S c w out v w' := by
  obtain ⟨dst, op, ty, pos, aft, gd⟩ := o
  simp only at h hcall
  unfold core at h
  split at h
  -- move
  · rename_i x
    split at h
    · simp [Tr.ev] at h
    · simp [Tr.ev] at h
    · simp only [Tr.ev, Option.some.injEq] at h
      subst h
      exact goes_now rfl (Did.same hi (opnd_ok hs x))
  · rename_i x
    split at h
    · simp [Tr.ev] at h
    · simp [Tr.ev] at h
    · simp only [Tr.ev, Option.some.injEq] at h
      subst h
      exact goes_now rfl (Did.same hi (opnd_ok hs x))
  -- pick
  · rename_i cc x y
    split at h
    · rename_i cb hc
      have hb : a.eval cc = .bool cb := by
        have := opnd_ok hs cc
        rw [hc] at this
        exact bool_leaf (leaf_sv this)
      simp only [Tr.ev] at h
      refine goes_some ⟨if cb then a.eval x else a.eval y, w, ?_, ?_⟩
      · simp [execOp, hb, asBool]
      · split at h
        · rename_i hcb
          rw [if_pos hcb]
          split at h
          · simp [Tr.ev] at h
          · simp [Tr.ev] at h
          · simp only [Tr.ev, Option.some.injEq] at h
            subst h
            exact Did.same hi (opnd_ok hs x)
        · rename_i hcb
          rw [if_neg hcb]
          split at h
          · simp [Tr.ev] at h
          · simp [Tr.ev] at h
          · simp only [Tr.ev, Option.some.injEq] at h
            subst h
            exact Did.same hi (opnd_ok hs y)
    · simp [Tr.ev] at h
  -- alloc
  · rename_i t
    split at h
    · rename_i ts ht
      simp only [Tr.ev, Option.some.injEq] at h
      subst h
      exact goes_value rfl (alloc_ok hT hi ht d hdn)
    · simp [Tr.ev] at h
  -- box
  · rename_i t x
    split at h
    · rename_i ts ls ht hl
      split at h
      · simp only [Tr.ev, Option.some.injEq] at h
        subst h
        exact goes_value rfl (box_ok hi (opnd_ok hs x) hl d hdn)
      · simp [Tr.ev] at h
    · simp [Tr.ev] at h
  -- build
  · rename_i t ps
    split at h
    · rename_i fs row eq ht
      split at h
      · rename_i ls hl
        simp only [Tr.ev, Option.some.injEq] at h
        subst h
        obtain ⟨u, h1, h2⟩ := build_ok (P := P) hT hi ht (parts_all hs ps.toList) (parts_zip ps.toList) hl
        rw [← parts_arr] at h1
        exact goes_value rfl ⟨u, w, h1, Did.same hi h2⟩
      · simp [Tr.ev] at h
    · simp [Tr.ev] at h
  -- buildSlice
  · rename_i t len ps
    obtain ⟨u, w', h1, h2⟩ := buildSlice_ok (P := P) hT hi (parts_all hs ps.toList) (parts_zip ps.toList) h
    rw [← parts_arr] at h1
    exact goes_value rfl ⟨u, w', h1, h2⟩
  -- load
  · rename_i t x
    split at h
    · rename_i a1 ts hx ht
      split at h
      · simp [Tr.ev] at h
      · rename_i hne
        simp only [ev_bind, Option.bind_eq_some_iff] at h
        obtain ⟨r, hr, h⟩ := h
        simp only [Tr.ev, Option.some.injEq] at h
        subst h
        have hv := opnd_ok hs x
        rw [hx] at hv
        have hpos : 0 < ts.length := by
          cases ts with
          | nil => simp at hne
          | cons _ _ => simp
        obtain ⟨u, h1, h2⟩ := load_ok (P := P) hT hi hv ht hr hpos
        exact goes_value rfl ⟨u, w, h1, Did.same hi h2⟩
    · simp [Tr.ev] at h
  -- store
  · rename_i t p x
    split at h
    · rename_i a1 ts ls hx ht hl
      split at h
      · rename_i hn
        simp only [ev_bind, Option.bind_eq_some_iff, Tr.ev, Option.some.injEq] at h
        obtain ⟨r, hr, h⟩ := h
        subst h
        have hv := opnd_ok hs p
        rw [hx] at hv
        match a1, hv, hr with
        | .pl k off, hv, hr => exact goes_unit rfl (stPl_ok hT hi hv ht (opnd_ok hs x) hl hn hr)
        | .el k st, hv, hr => exact goes_unit rfl (stEl_ok hT hi hv ht (opnd_ok hs x) hl hn hr)
        | .one _, _, hr => simp [stCells, Tr.ev] at hr
        | .ag _, _, hr => simp [stCells, Tr.ev] at hr
        | .rp _ _ _, _, hr => simp [stCells, Tr.ev] at hr
      · simp [Tr.ev] at h
    · simp [Tr.ev] at h
  -- nilCheck
  · rename_i x
    have hx := opnd_ok hs x
    split at h
    all_goals first
      | (simp [Tr.ev] at h; done)
      | skip
    · rename_i k off he
      simp only [Tr.ev, Option.some.injEq] at h
      subst h
      rw [he] at hx
      have hx' := hx
      obtain ⟨m, hm, hv⟩ := hx'
      refine goes_now (v := a.eval x) ?_ (Did.same hi hx)
      simp only [execOp, hv]
    · rename_i k st he
      simp only [Tr.ev, Option.some.injEq] at h
      subst h
      rw [he] at hx
      have hx' := hx
      obtain ⟨o0, ad, ho, had, hv, _⟩ := hx'
      refine goes_now (v := a.eval x) ?_ (Did.same hi hx)
      simp only [execOp, hv]
    · rename_i u y off he
      simp only [Tr.ev, Option.some.injEq] at h
      subst h
      rw [he] at hx
      have hx' := hx
      obtain ⟨ad, vs, hv, _⟩ := hx'
      refine goes_now (v := a.eval x) ?_ (Did.same hi hx)
      simp only [execOp, hv]
  -- binOp
  · rename_i op t x y z
    split at h
    · rename_i l1 l2 hx hy
      split at h
      · rename_i hb
        simp only [ev_bind, Option.bind_eq_some_iff, Tr.ev, Option.some.injEq] at h
        obtain ⟨l, hl, h⟩ := h
        subst h
        have h1 := opnd_ok hs x
        have h2 := opnd_ok hs y
        rw [hx] at h1
        rw [hy] at h2
        obtain ⟨r, h3, h4⟩ := vbin_ok (P := P) op t l1 l2 _ _ l (leaf_sv h1) (leaf_sv h2) hl (fun q hq => by
          subst hq
          cases ht : E.ti t with
          | cell u =>
            cases u with
            | bool => exact cell_bool hT ht
            | _ => rw [ht] at hb; simp [boolOk] at hb
          | _ => rw [ht] at hb; simp [boolOk] at hb)
        obtain ⟨g1, g2⟩ := vbin_val (leaf_sv h1) hl
        refine goes_value rfl ⟨r, w, ?_, Did.same hi (sv_leaf h4)⟩
        rw [guard_one op t x y g1 g2]
        simpa using h3
      · simp [Tr.ev] at h
    · rename_i xs ys hx hy
      have h1 := opnd_ok hs x
      have h2 := opnd_ok hs y
      rw [hx] at h1
      rw [hy] at h2
      obtain ⟨us, e1, k1⟩ := h1
      obtain ⟨vs, e2, k2⟩ := h2
      split at h
      · rename_i fs row ht
        obtain ⟨fields, f1, f2, f3, _⟩ := hT.struct ht
        obtain ⟨f4, f5, f6, f7⟩ := f3 rfl
        have hfo : P.fieldsOf t = fields := by simp [Program.fieldsOf, f1]
        split at h
        · rename_i r hr
          simp only [Tr.ev, Option.some.injEq] at h
          subst h
          have := agg_eql (w := w) t us vs fields f1 f6 (aggEq_ok (w := w) row fields.toList fs 0 xs ys us vs [] [] f4 f2 f5 rfl rfl k1 k2 hr)
          refine goes_value rfl ⟨.bool r, w, ?_, Did.same hi (sv_leaf mk_bool)⟩
          rw [e1, e2]
          simp only [Sem.run_bind, run_eqGuard_agg w _ _ _ _ _ _ f7, Result.andThen_ok, this.1]
        · rename_i r hr
          simp only [Tr.ev, Option.some.injEq] at h
          subst h
          have := agg_eql (w := w) t us vs fields f1 f6 (aggEq_ok (w := w) row fields.toList fs 0 xs ys us vs [] [] f4 f2 f5 rfl rfl k1 k2 hr)
          refine goes_value rfl ⟨.bool (!r), w, ?_, Did.same hi (sv_leaf mk_bool)⟩
          rw [e1, e2]
          simp only [Sem.run_bind, run_eqGuard_agg w _ _ _ _ _ _ f7, Result.andThen_ok, this.2]
        · simp [Tr.ev] at h
      · simp [Tr.ev] at h
    · simp [Tr.ev] at h
  -- unOp
  · rename_i op t x
    split at h
    · rename_i l1 hx
      simp only [ev_bind, Option.bind_eq_some_iff, Tr.ev, Option.some.injEq] at h
      obtain ⟨l, hl, h⟩ := h
      subst h
      have h1 := opnd_ok hs x
      rw [hx] at h1
      obtain ⟨r, h3, h4⟩ := vun_ok (P := P) op l1 _ l (leaf_sv h1) hl
      exact goes_value rfl ⟨r, w, h3, Did.same hi (sv_leaf h4)⟩
    · simp [Tr.ev] at h
  -- convert
  · rename_i s t x
    split at h
    · rename_i l1 hx
      have h1 := opnd_ok hs x
      rw [hx] at h1
      exact goes_value rfl (conv_ok hT hi (leaf_sv h1) h)
    · simp [Tr.ev] at h
  -- makeSlice
  · rename_i t l m
    exact goes_value rfl (makeSlice_ok hT hi (opnd_ok hs l) (opnd_ok hs m) h)
  -- slice
  · rename_i t x lo hi' mx
    split at h
    · rename_i l1 hx
      simp only [ev_bind, Option.bind_eq_some_iff, Tr.ev, Option.some.injEq] at h
      obtain ⟨r, hr, h⟩ := h
      subst h
      have h1 := opnd_ok hs x
      rw [hx] at h1
      obtain ⟨u, h2, h3⟩ := slice_ok (P := P) hT hi hs (leaf_sv h1) hr
      exact goes_value rfl ⟨u, w, h2, Did.same hi h3⟩
    · simp [Tr.ev] at h
  -- fieldAddr
  · rename_i t x f
    split at h
    · rename_i fs row eq ht
      have h1 := opnd_ok hs x
      split at h
      all_goals first
        | (simp [Tr.ev] at h; done)
        | skip
      · rename_i hf hx
        simp only [Tr.ev, Option.some.injEq] at h
        subst h
        rw [hx] at h1
        obtain ⟨u, h2, h3⟩ := fieldAddr_ok (P := P) hT ht hf h1 (.inl ⟨_, _, rfl, rfl⟩)
        exact goes_value rfl ⟨u, w, h2, Did.same hi h3⟩
      · rename_i hf hx
        simp only [Tr.ev, Option.some.injEq] at h
        subst h
        rw [hx] at h1
        obtain ⟨u, h2, h3⟩ := fieldAddr_ok (P := P) hT ht hf h1 (.inr (.inl ⟨_, _, rfl, rfl⟩))
        exact goes_value rfl ⟨u, w, h2, Did.same hi h3⟩
      · rename_i hf hx
        simp only [Tr.ev, Option.some.injEq] at h
        subst h
        rw [hx] at h1
        obtain ⟨u, h2, h3⟩ := fieldAddr_ok (P := P) hT ht hf h1 (.inr (.inr ⟨_, _, _, rfl, rfl⟩))
        exact goes_value rfl ⟨u, w, h2, Did.same hi h3⟩
    · simp [Tr.ev] at h
  -- field
  · rename_i t x f
    split at h
    · rename_i fs row eq ls ht hx
      have h1 := opnd_ok hs x
      rw [hx] at h1
      split at h
      · rename_i o n hf
        simp only [Tr.ev, Option.some.injEq] at h
        subst h
        obtain ⟨u, h2, h3⟩ := field_ok (P := P) (w := w) hT ht hf h1 (r := .s (.ag ((ls.drop o).take n))) (by simp)
        exact goes_value rfl ⟨u, w, h2, Did.same hi h3⟩
      · rename_i o n hf
        split at h
        · rename_i l hl
          simp only [Tr.ev, Option.some.injEq] at h
          subst h
          obtain ⟨u, h2, h3⟩ := field_ok (P := P) (w := w) hT ht hf h1 (r := .s (.one l)) (by simpa using hl)
          exact goes_value rfl ⟨u, w, h2, Did.same hi h3⟩
        · simp [Tr.ev] at h
      · simp [Tr.ev] at h
    · simp [Tr.ev] at h
  -- indexAddr
  · rename_i t x i
    split at h
    · rename_i l1 k n hx hn
      simp only [ev_bind, Option.bind_eq_some_iff, Tr.ev, Option.some.injEq] at h
      obtain ⟨r, hr, h⟩ := h
      subst h
      have h1 := opnd_ok hs x
      have h2 := opnd_ok hs i
      rw [hx] at h1
      rw [hn] at h2
      obtain ⟨u, h3, h4⟩ := index_ok (P := P) (k := k) hT hi (leaf_sv h1) hr
      refine goes_value (s := Instr.indexAt t (a.eval x) (a.eval i)) rfl ⟨u, w, ?_, Did.same hi h4⟩
      rw [int_leaf (leaf_sv h2)]; exact h3
    · simp [Tr.ev] at h
  -- index
  · rename_i t x i
    split at h
    · rename_i s k n hx hn
      replace h := ev_iff h
      obtain ⟨c1, h⟩ := h
      replace h := ev_iff h
      obtain ⟨c2, h⟩ := h
      simp only [decide_eq_true_eq] at c2
      simp only [Tr.ev, Option.bind_eq_some_iff, Option.some.injEq] at h
      obtain ⟨u, hu, h⟩ := h
      subst h
      have h1 := opnd_ok hs x
      have h2 := opnd_ok hs i
      rw [hx] at h1
      rw [hn] at h2
      obtain ⟨h3, h4⟩ := index_str (P := P) (S := S) (c := c) (w := w) (K := Kok b S c) (k := k) (str_under hT c1) c2 hu
      refine goes_value (s := Instr.index t (a.eval x) (a.eval i)) rfl ⟨_, w, ?_, Did.same hi h4⟩
      rw [int_leaf (leaf_sv h2), str_leaf (leaf_sv h1)]; exact h3
    · simp [Tr.ev] at h
  -- extract
  · rename_i x i
    split at h
    · rename_i xs hx
      split at h
      · rename_i y hy
        simp only [Tr.ev, Option.some.injEq] at h
        subst h
        have h1 := opnd_ok hs x
        rw [hx] at h1
        obtain ⟨vs, hv, hall⟩ := h1
        obtain ⟨u, hu, h2⟩ := hall.get hy
        refine goes_value (s := Instr.extract (a.eval x) i) rfl ⟨u, w, ?_, Did.same hi h2⟩
        rw [hv]
        simp [Instr.extract, hu]
      · simp [Tr.ev] at h
    · simp [Tr.ev] at h
  -- len
  · rename_i as ts
    split at h
    · rename_i x t has hts
      simp only [ev_bind, Option.bind_eq_some_iff, Tr.ev, Option.some.injEq] at h
      obtain ⟨n, hn, h⟩ := h
      subst h
      have hall := args_all hs as.toList
      rw [has] at hall
      generalize hus : as.toList.map a.eval = us at hall
      cases hall with
      | cons h1 h2 =>
        cases h2
        rename_i u
        have ha : as.map a.eval = #[u] := by apply Array.ext'; simp [hus]
        have ht : ts = #[t] := by apply Array.ext'; simp [hts]
        subst ht
        refine builtin_goes hs (s := Builtin.len_ #[t] ty (as.map a.eval)) (fun _ => rfl) ⟨goInt n, w, ?_, Did.same hi (sv_leaf mk_int)⟩
        rw [ha]
        rcases len_ok hi (leaf_sv h1) hn with ⟨s, rfl, hsz, hst⟩ | ⟨hsl, A, cap, rfl⟩
        · rw [run_len_string w t ty s (str_under hT hst), hsz]
        · obtain ⟨e, ie, hu, _⟩ := sl_under' hT hsl
          simp [Builtin.len_, run_underlying hu]
    · simp [Tr.ev] at h
  -- append
  · rename_i as ts
    split at h
    · rename_i x y t t2 has hts
      have hall := args_all hs as.toList
      rw [has] at hall
      generalize hus : as.toList.map a.eval = us at hall
      cases hall with
      | cons h1 h2 =>
        cases h2 with
        | cons h2 h3 =>
          cases h3
          rename_i u v
          have ha : as.map a.eval = #[u, v] := by apply Array.ext'; simp [hus]
          have ht : ts = #[t, t2] := by apply Array.ext'; simp [hts]
          subst ht
          refine builtin_goes hs (s := Builtin.append_ #[t, t2] ty (as.map a.eval)) (fun _ => rfl) ?_
          rw [ha]
          exact append_ok hT hi (leaf_sv h1) (leaf_sv h2) h
    · simp [Tr.ev] at h
  -- min
  · rename_i as ts
    simp only [ev_bind, Option.bind_eq_some_iff, Tr.ev, Option.some.injEq] at h
    obtain ⟨r, hr, h⟩ := h
    subst h
    have ha : as.map a.eval = (as.toList.map a.eval).toArray := by apply Array.ext'; simp
    rcases minmax_ok (P := P) (w := w) ts ty (args_all hs as.toList) hr with ⟨_, u, h1, h2⟩ | ⟨h0, _⟩
    · refine builtin_goes hs (s := Builtin.min_ ts ty (as.map a.eval)) (fun _ => rfl) ⟨u, w, ?_, Did.same hi h2⟩
      rw [ha]; exact h1
    · cases h0
  -- max
  · rename_i as ts
    simp only [ev_bind, Option.bind_eq_some_iff, Tr.ev, Option.some.injEq] at h
    obtain ⟨r, hr, h⟩ := h
    subst h
    have ha : as.map a.eval = (as.toList.map a.eval).toArray := by apply Array.ext'; simp
    rcases minmax_ok (P := P) (w := w) ts ty (args_all hs as.toList) hr with ⟨h0, _⟩ | ⟨_, u, h1, h2⟩
    · cases h0
    · refine builtin_goes hs (s := Builtin.max_ ts ty (as.map a.eval)) (fun _ => rfl) ⟨u, w, ?_, Did.same hi h2⟩
      rw [ha]; exact h1
  -- a call
  · rename_i f as ts
    split at h
    · rename_i hsz
      exact hcall f as ts out rfl hsz h
    · simp [Tr.ev] at h
  · simp [Tr.ev] at h
end

#print axioms core_ok
end Go.V
