/-
  S19: regions: in order, and in whatever order.
-/
import Derived.Test.YtdicgiljgelkfaaS18
import Derived.Orders
import Derived.Tactics
namespace Go.V

/-- does its guard let it? -/
def Holds (ops : Array Oper) (S : St) (o : Oper) (y : Bool) : Prop :=
  match o.guard with
  | none => y = true
  | some (j, want) => ∃ g, gslot ops j = some g ∧ ((∃ b, S.sl g = .s (.one (.v .bool b)) ∧ y = (b == want)) ∨ (S.sl g = .un ∧ y = false))

/-- one step, as a fact -/
def Stp (E : Env) (N : Nat) (ops : Array Oper) (S : St) (r : Rec) : Prop :=
  dstOk N r.o = true ∧ ((Holds ops S r.o true ∧ (runOp E N r.o S).run = some (r.out, r.lg) ∧ r.ins = r.o.op.operands.toList.map (opnd S)) ∨ (Holds ops S r.o false ∧ r.out = noOut ∧ r.lg = [] ∧ r.ins = []))

theorem put_same {S : St} {g : Nat} {x : SV} (h : S.sl g = x) : S.put g x = S := by
  refine St.ext' (fun i => ?_) (fun _ => rfl) (fun _ _ => rfl) (fun _ => rfl)
  show (if i = g then x else S.sl i) = S.sl i
  split
  · rename_i hi; rw [hi, h]
  · rfl

section
variable {E : Env} {N : Nat} {ops : Array Oper}

theorem stepT_stp {o : Oper} {S S' : St} {r : Rec} (h : (stepT E N ops o S).run = some (S', r)) : r.o = o ∧ Stp E N ops S r ∧ S' = S.app o.dst r.out := by
  have yes : dstOk N o = true → Holds ops S o true → (yesT E N o S).run = some (S', r) → r.o = o ∧ Stp E N ops S r ∧ S' = S.app o.dst r.out := by
    intro hd hh h
    simp only [yesT, run_bind, Option.bind_eq_some_iff, Tr.run, Option.some.injEq, Prod.mk.injEq] at h
    obtain ⟨x, hx, h1, h2⟩ := h
    subst h1 h2
    exact ⟨rfl, ⟨hd, .inl ⟨hh, hx, rfl⟩⟩, rfl⟩
  have nay : dstOk N o = true → Holds ops S o false → (nayT o S).run = some (S', r) → r.o = o ∧ Stp E N ops S r ∧ S' = S.app o.dst r.out := by
    intro hd hh h
    simp only [nayT, Tr.run, Option.some.injEq, Prod.mk.injEq] at h
    obtain ⟨h1, h2⟩ := h
    subst h1 h2
    exact ⟨rfl, ⟨hd, .inr ⟨hh, rfl, rfl, rfl⟩⟩, rfl⟩
  unfold stepT at h
  split at h
  · rename_i hd
    split at h
    · rename_i hg
      exact yes hd (by simp [Holds, hg]) h
    · rename_i j want hg
      split at h
      · rename_i g hgs
        split at h
        · rename_i bb hs
          have hold : ∀ y, y = (bb == want) → Holds ops S o y := fun y hy => by simp only [Holds, hg]; exact ⟨g, hgs, .inl ⟨bb, hs, hy⟩⟩
          simp only [Tr.run] at h
          cases hb : (bb : Bool) with
          | true =>
            rw [hb] at h hs
            simp only [if_true] at h
            rw [put_same hs] at h
            cases want with
            | true => exact yes hd (hold _ (by rw [hb]; rfl)) h
            | false => exact nay hd (hold _ (by rw [hb]; rfl)) h
          | false =>
            rw [hb] at h hs
            simp only [Bool.false_eq_true, if_false] at h
            rw [put_same hs] at h
            cases want with
            | true => exact nay hd (hold _ (by rw [hb]; rfl)) h
            | false => exact yes hd (hold _ (by rw [hb]; rfl)) h
        · rename_i hs
          exact nay hd (by unfold Holds; rw [hg]; exact ⟨g, hgs, .inr ⟨hs, rfl⟩⟩) h
        · simp [Tr.run] at h
      · simp [Tr.run] at h
  · simp [Tr.run] at h

/-! ### two steps change places -/
theorem ups_sl' (S : St) : ∀ us, (S.ups us).sl = S.sl := fun us => funext fun i => by rw [ups_sl]
theorem app_sl (S : St) (d : Option Nat) (p : Out) {t : Nat} (h : d ≠ some t) : (S.app d p).sl t = (S.sl t).kp p.ks := by
  have e : ((S.kp p.ks).ups p.us).sl t = (S.sl t).kp p.ks := by rw [ups_sl, kp_sl]
  cases d with
  | none => exact e
  | some d =>
    show (if t = d then p.x else ((S.kp p.ks).ups p.us).sl t) = _
    rw [if_neg (fun ht => h (by rw [ht])), e]
theorem ups_ow_at {k : Nat} : ∀ (us : List U) (S : St), us.all (fun u => !u.hits (.o k)) = true → (S.ups us).ow k = S.ow k
  | [], _, _ => rfl
  | u :: us, S, h => by
    simp only [List.all_cons, Bool.and_eq_true, Bool.not_eq_true'] at h
    show ((S.up u).ups us).ow k = _
    rw [ups_ow_at us _ (by simpa using h.2)]
    cases u with
    | ow k' o =>
      have : ¬ k = k' := fun hk => by rw [hk] at h; simp [U.hits] at h
      show (if k = k' then o else S.ow k) = _; rw [if_neg this]
    | mc _ _ _ => rfl
    | ms _ _ => rfl
theorem ups_ms_at {k : Nat} : ∀ (us : List U) (S : St), us.all (fun u => !u.hits (.m k)) = true → (S.ups us).ms k = S.ms k
  | [], _, _ => rfl
  | u :: us, S, h => by
    simp only [List.all_cons, Bool.and_eq_true, Bool.not_eq_true'] at h
    show ((S.up u).ups us).ms k = _
    rw [ups_ms_at us _ (by simpa using h.2)]
    cases u with
    | ms k' row =>
      have : ¬ k = k' := fun hk => by rw [hk] at h; simp [U.hits] at h
      show (if k = k' then _ else S.ms k) = _; rw [if_neg this]
    | mc _ _ _ => rfl
    | ow _ _ => rfl
theorem ups_mc_at {k off : Nat} {l : Leaf} : ∀ (us : List U) (S : St), us.all (fun u => !u.hits (.c k off l)) = true → (S.ups us).mc k off = S.mc k off
  | [], _, _ => rfl
  | u :: us, S, h => by
    simp only [List.all_cons, Bool.and_eq_true, Bool.not_eq_true'] at h
    show ((S.up u).ups us).mc k off = _
    rw [ups_mc_at us _ (by simpa using h.2)]
    cases u with
    | mc k' off' l' =>
      show (if k = k' then (if off = off' then l' else S.mc k off) else S.mc k off) = _
      have := h.1
      simp only [U.hits, Bool.and_eq_false_iff, beq_eq_false_iff_ne] at this
      by_cases h1 : k = k'
      · rw [if_pos h1, if_neg (fun h2 => by rcases this with h3 | h3 <;> simp_all)]
      · rw [if_neg h1]
    | ms k' row =>
      have : ¬ k = k' := fun hk => by rw [hk] at h; simp [U.hits] at h
      show (if k = k' then _ else S.mc k off) = _; rw [if_neg this]
    | ow _ _ => rfl
theorem app_ow (S : St) (d : Option Nat) (p : Out) : (S.app d p).ow = ((S.kp p.ks).ups p.us).ow := by cases d <;> rfl
theorem app_ms (S : St) (d : Option Nat) (p : Out) : (S.app d p).ms = ((S.kp p.ks).ups p.us).ms := by cases d <;> rfl
theorem app_mc (S : St) (d : Option Nat) (p : Out) : (S.app d p).mc = ((S.kp p.ks).ups p.us).mc := by cases d <;> rfl

theorem bool_kp {x : SV} {c : List Kl} {b : Bool} (h : x.kp c = .s (.one (.v .bool b))) : x = .s (.one (.v .bool b)) := by
  cases x with
  | s x =>
    cases x with
    | one l =>
      cases l with
      | v t y => exact h
      | vw k st win =>
        simp only [SV.kp, S1.kp, Leaf.kp, SV.s.injEq, S1.one.injEq] at h
        split at h <;> cases h
      | nil => exact h
      | no => exact h
    | ag ls => simp [SV.kp, S1.kp] at h
    | pl k off =>
      simp only [SV.kp, S1.kp, SV.s.injEq] at h
      split at h <;> cases h
    | el k st =>
      simp only [SV.kp, S1.kp, SV.s.injEq] at h
      split at h <;> cases h
    | rp t y off => exact h
  | tu xs => simp [SV.kp] at h
  | un => exact h
  | no => exact h

theorem un_kp {x : SV} {c : List Kl} (h : x.kp c = .un) : x = .un := by
  cases x <;> simp_all [SV.kp]

theorem slot_spec {a b : Oper} (h : slotApart ops a b = true) : (∀ d, a.dst = some d → d ∉ slotsOf ops b) ∧ (∀ d, a.dst = some d → b.dst ≠ some d) ∧ (∀ d, b.dst = some d → d ∉ slotsOf ops a) := by
  simp only [slotApart, Bool.and_eq_true] at h
  refine ⟨fun d hd => ?_, fun d hd => ?_, fun d hd => ?_⟩
  · rw [hd] at h; simp only [Bool.and_eq_true, Bool.not_eq_true'] at h; simpa using h.1.1
  · rw [hd] at h; simp only [Bool.and_eq_true, Bool.not_eq_true'] at h
    intro he; rw [he] at h; simp at h
  · rw [hd] at h; simp only [Bool.not_eq_true'] at h; simpa using h.2
theorem tmp_slot {o : Oper} {t : Nat} (h : Operand.tmp t ∈ o.op.operands.toList) : t ∈ slotsOf ops o :=
  List.mem_append_left _ (List.mem_filterMap.2 ⟨.tmp t, h, rfl⟩)
theorem guard_slot {o : Oper} {j : Nat} {want : Bool} {g : Nat} (h : o.guard = some (j, want)) (hg : gslot ops j = some g) : g ∈ slotsOf ops o :=
  List.mem_append_right _ (by rw [h]; simp [hg])

structure Past (a b : Rec) : Prop where
  whole : b.out.ks = [] ∨ ((∀ x, x ∈ a.ins → x.whole = true) ∧ ∀ x, x ∈ a.lg → x.whole = true)
  ins : ∀ x, x ∈ a.ins → x.safe b.out.ks = true
  x : a.out.x.safe b.out.ks = true
  lg : ∀ x, x ∈ a.lg → x.safe b.out.ks = true
  us : a.out.us.all (U.safe b.out.ks) = true
  hits : ∀ x, x ∈ a.lg → b.out.us.all (fun u => !u.hits x) = true
theorem past_spec {a b : Rec} (h : a.past b = true) : Past a b := by
  simp only [Rec.past, Bool.and_eq_true, Bool.or_eq_true, List.isEmpty_iff, List.all_eq_true (p := SV.whole), List.all_eq_true (p := Lg.whole), List.all_eq_true (p := SV.safe b.out.ks), List.all_eq_true (p := Lg.safe b.out.ks)] at h
  obtain ⟨⟨⟨⟨⟨h1, h2⟩, h3⟩, h4⟩, h5⟩, h6⟩ := h
  rw [List.all_eq_true] at h6
  exact ⟨h1, h2, h3, h4, h5, h6⟩

/-- the same step at another state -/
theorem Stp.move {S S' : St} {r : Rec} (h : Stp E N ops S r) (hop : ∀ t, t ∈ slotsOf ops r.o → (∀ x, x ∈ r.ins → x = S.sl t → S'.sl t = S.sl t)) (hg : ∀ t, t ∈ slotsOf ops r.o → ((∃ b, S.sl t = .s (.one (.v .bool b))) ∨ S.sl t = .un) → S'.sl t = S.sl t)
    (hlg : Sees S r.lg → Ag S S' r.lg) : Stp E N ops S' r := by
  have hold : ∀ y, Holds ops S r.o y → Holds ops S' r.o y := by
    intro y hy
    unfold Holds at hy ⊢
    split
    · rename_i hgd; rw [hgd] at hy; exact hy
    · rename_i j want hgd
      rw [hgd] at hy
      obtain ⟨g, h1, ⟨bb, h2, h3⟩ | ⟨h2, h3⟩⟩ := hy
      · exact ⟨g, h1, .inl ⟨bb, by rw [hg g (guard_slot hgd h1) (.inl ⟨bb, h2⟩), h2], h3⟩⟩
      · exact ⟨g, h1, .inr ⟨by rw [hg g (guard_slot hgd h1) (.inr h2), h2], h3⟩⟩
  obtain ⟨hd, h | ⟨h1, h2, h3, h4⟩⟩ := h
  · obtain ⟨h1, h2, h3⟩ := h
    have hopn : ∀ x, x ∈ r.o.op.operands.toList → opnd S' x = opnd S x := by
      intro x hx
      cases x with
      | tmp t => exact hop t (tmp_slot hx) (S.sl t) (by rw [h3]; exact List.mem_map.2 ⟨.tmp t, hx, rfl⟩) rfl
      | _ => rfl
    refine ⟨hd, .inl ⟨hold _ h1, ?_, ?_⟩⟩
    · unfold runOp at h2 ⊢
      rw [core_congr E (opnd S') (opnd S) _ _ hopn]
      exact at_congr S S' _ [] h2 (hlg (at_sees S _ [] (fun k off x hx => by cases hx) h2))
    · rw [h3]; exact List.map_congr_left fun x hx => (hopn x hx).symm
  · exact ⟨hd, .inr ⟨hold _ h1, h2, h3, h4⟩⟩

theorem Stp.swap {S : St} {p q : Rec} (hp : Stp E N ops S p) (hq : Stp E N ops (S.app p.o.dst p.out) q) (hs : slotApart ops p.o q.o = true) (ha : p.apart q = true) :
    Stp E N ops S q ∧ Stp E N ops (S.app q.o.dst q.out) p ∧ (S.app p.o.dst p.out).app q.o.dst q.out = (S.app q.o.dst q.out).app p.o.dst p.out := by
  obtain ⟨s1, s2, s3⟩ := slot_spec hs
  simp only [Rec.apart, Bool.and_eq_true] at ha
  obtain ⟨⟨ha, hb⟩, hm⟩ := ha
  have pa := past_spec ha
  have pb := past_spec hb
  refine ⟨?_, ?_, app_app S _ _ _ _ s2 pa.x pb.x pa.us pb.us hm⟩
  · refine hq.move ?_ ?_ ?_
    · intro t ht x hx hxt
      have e := app_sl S p.o.dst p.out (fun h => s1 t h ht : p.o.dst ≠ some t)
      rw [e] at hxt ⊢
      rcases pb.whole with h0 | ⟨h0, _⟩
      · rw [h0, SV.kp_nil]
      · have := h0 x hx
        rw [hxt] at this
        exact (SV.kp_whole this).symm
    · intro t ht hb
      have e := app_sl S p.o.dst p.out (fun h => s1 t h ht : p.o.dst ≠ some t)
      rw [e] at hb ⊢
      rcases hb with ⟨bb, hb⟩ | hb
      · rw [bool_kp hb]; rfl
      · rw [un_kp hb]; rfl
    · intro hsee l hl
      have hh := pb.hits l hl
      cases l with
      | o k => show (S.app p.o.dst p.out).ow k = S.ow k; rw [app_ow, ups_ow_at _ _ hh, kp_ow]
      | m k => show (S.app p.o.dst p.out).ms k = S.ms k; rw [app_ms, ups_ms_at _ _ hh, kp_ms]
      | c k off l =>
        show (S.app p.o.dst p.out).mc k off = S.mc k off
        have h1 := hsee k off l hl
        rw [app_mc, ups_mc_at _ _ hh, kp_mc] at h1 ⊢
        rcases pb.whole with h0 | ⟨_, h0⟩
        · rw [h0, Leaf.kp_nil]
        · have := h0 _ hl
          simp only [Lg.whole] at this
          rw [← h1] at this
          exact Leaf.kp_whole this
  · refine hp.move ?_ ?_ ?_
    · intro t ht x hx hxt
      have e := app_sl S q.o.dst q.out (fun h => s3 t h ht : q.o.dst ≠ some t)
      rw [e]
      have := pa.ins x hx
      rw [hxt] at this
      exact SV.kp_safe this
    · intro t ht hb
      have e := app_sl S q.o.dst q.out (fun h => s3 t h ht : q.o.dst ≠ some t)
      rcases hb with ⟨bb, hb⟩ | hb
      · rw [e, hb]; rfl
      · rw [e, hb]; rfl
    · intro hsee l hl
      have hh := pa.hits l hl
      cases l with
      | o k => show S.ow k = (S.app q.o.dst q.out).ow k; rw [app_ow, ups_ow_at _ _ hh, kp_ow]
      | m k => show S.ms k = (S.app q.o.dst q.out).ms k; rw [app_ms, ups_ms_at _ _ hh, kp_ms]
      | c k off l =>
        show S.mc k off = (S.app q.o.dst q.out).mc k off
        have h1 := hsee k off l hl
        have h2 := pa.lg _ hl
        simp only [Lg.safe] at h2
        rw [app_mc, ups_mc_at _ _ hh, kp_mc, h1, Leaf.kp_safe h2]

/-! ### runs -/
inductive Runs (E : Env) (N : Nat) (ops : Array Oper) : List (Nat × Rec) → St → St → Prop
  | nil {S} : Runs E N ops [] S S
  | cons {i r l S S'} : Stp E N ops S r → Runs E N ops l (S.app r.o.dst r.out) S' → Runs E N ops ((i, r) :: l) S S'

theorem Runs.front {q : Nat × Rec} {R2 : List (Nat × Rec)} : ∀ (R1 : List (Nat × Rec)) {S S' : St}, (∀ p, p ∈ R1 → slotApart ops p.2.o q.2.o = true ∧ p.2.apart q.2 = true) → Runs E N ops (R1 ++ q :: R2) S S' → Runs E N ops (q :: (R1 ++ R2)) S S'
  | [], _, _, _, h => h
  | (i, p) :: R1, S, S', ha, h => by
    obtain ⟨qi, q⟩ := q
    cases h with
    | cons h1 h2 =>
      have := Runs.front R1 (fun p hp => ha p (by simp [hp])) h2
      cases this with
      | cons h3 h4 =>
        obtain ⟨s1, s2⟩ := ha (i, p) (by simp)
        obtain ⟨k1, k2, k3⟩ := h1.swap h3 s1 s2
        rw [k3] at h4
        exact .cons k1 (.cons k2 h4)

theorem regT_runs : ∀ (os : List Oper) (S S' : St) (n : Nat), (regT E N ops os S).run = some S' → ∃ rs : List Rec, rs.map (·.o) = os ∧ Runs E N ops (numbered rs n) S S'
  | [], S, S', n, h => by
    rw [regT] at h
    simp only [Tr.run, Option.some.injEq] at h
    subst h
    exact ⟨[], rfl, .nil⟩
  | o :: os, S, S', n, h => by
    rw [regT] at h
    simp only [run_bind, Option.bind_eq_some_iff] at h
    obtain ⟨⟨S1, r⟩, h1, h2⟩ := h
    obtain ⟨e1, e2, e3⟩ := stepT_stp h1
    subst e3
    obtain ⟨rs, k1, k2⟩ := regT_runs os _ S' (n + 1) h2
    exact ⟨r :: rs, by rw [List.map_cons, k1, e1], .cons e2 (by rw [e1]; exact k2)⟩
theorem regR_runs : ∀ (os : List Oper) (S S' : St) (acc rs : List Rec) (n : Nat), (regR E N ops os S acc).run = some (S', rs) → ∃ rs' : List Rec, rs = acc.reverse ++ rs' ∧ rs'.map (·.o) = os ∧ Runs E N ops (numbered rs' n) S S'
  | [], S, S', acc, rs, n, h => by
    rw [regR] at h
    simp only [Tr.run, Option.some.injEq, Prod.mk.injEq] at h
    obtain ⟨h1, h2⟩ := h
    subst h1 h2
    exact ⟨[], by simp, rfl, .nil⟩
  | o :: os, S, S', acc, rs, n, h => by
    rw [regR] at h
    simp only [run_bind, Option.bind_eq_some_iff] at h
    obtain ⟨⟨S1, r⟩, h1, h2⟩ := h
    obtain ⟨e1, e2, e3⟩ := stepT_stp h1
    subst e3
    obtain ⟨rs', k0, k1, k2⟩ := regR_runs os _ S' (r :: acc) rs (n + 1) h2
    exact ⟨r :: rs', by rw [k0]; simp, by rw [List.map_cons, k1, e1], .cons e2 (by rw [e1]; exact k2)⟩
end
end Go.V
