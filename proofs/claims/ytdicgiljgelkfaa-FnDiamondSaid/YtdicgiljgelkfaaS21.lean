/-
  S21: code is sound.
-/
import Derived.Test.YtdicgiljgelkfaaS20
import Derived.Deep.LoopGhost
namespace Go.V

def Ex.out : Ex → Exit
  | .n => .normal
  | .x id => .exit id
  | .r => .ret

section
variable {P : Program} {E : Env} {b : Base} {N : Nat}

theorem opt_run {α : Type} {o : Option α} {x : α} (h : (Tr.opt o).run = some x) : o = some x := by
  cases o with
  | none => simp [Tr.run] at h
  | some a => simpa [Tr.run] using h

theorem Joins.ok : ∀ (J : Joins) {e e' : Ex} {S S' : St} {x : J.D}, J.prj e S = some x → (J.inj x).run = some (e', S') → e = e' ∧ ∀ {a w}, Sim b N S a w → Sim b N S' a w
  | [], e, e', S, S', x, _, _ => nomatch x
  | [t], e, e', S, S', x, h, h' => by
    simp only [Joins.prj] at h
    split at h
    · rename_i he
      simp only [Joins.inj, Tr.run, Option.some.injEq, Prod.mk.injEq] at h'
      obtain ⟨h1, h2⟩ := h'
      subst h2
      exact ⟨he.trans h1, fun hs => t.2.ok h hs⟩
    · cases h
  | t :: u :: l, e, e', S, S', x, h, h' => by
    simp only [Joins.prj] at h
    split at h
    · rename_i he
      split at h
      · rename_i y hy
        injection h with h
        subst h
        simp only [Joins.inj, Tr.run, Option.some.injEq, Prod.mk.injEq] at h'
        obtain ⟨h1, h2⟩ := h'
        subst h2
        exact ⟨he.trans h1, fun hs => t.2.ok hy hs⟩
      · cases h
    · split at h
      · rename_i y hy
        injection h with h
        subst h
        exact Joins.ok (u :: l) hy h'
      · cases h

theorem joined_ok {J : Joins} {t : Tr (Ex × St)} {e : Ex} {S' : St} (h : (joined J t).run = some (e, S')) : ∃ S0, t.run = some (e, S0) ∧ ∀ {a w}, Sim b N S0 a w → Sim b N S' a w := by
  cases J with
  | nil => exact ⟨S', h, fun hs => hs⟩
  | cons j l =>
    simp only [joined, run_get, Option.bind_eq_some_iff] at h
    obtain ⟨x, hx, h⟩ := h
    rw [run_bind, Option.bind_eq_some_iff] at hx
    obtain ⟨⟨e0, S0⟩, h1, h2⟩ := hx
    obtain ⟨k1, k2⟩ := Joins.ok (b := b) (N := N) (j :: l) (opt_run h2) h
    subst k1
    exact ⟨S0, h1, k2⟩

/-- what a run of code says -/
def CodeOk (P : Program) (b : Base) (N : Nat) (c : Code) (S : St) (e : Ex) (S' : St) : Prop :=
  ∀ {a : Act} {w : World} {Q : Exit → Act → World → Prop}, Sim b N S a w → (∀ a' w', Sim b N S' a' w' → Q e.out a' w') → c.wp P Q a w

theorem weak {c : Code} {S S0 S' : St} {e : Ex} (h : CodeOk P b N c S e S0) (hw : ∀ {a w}, Sim b N S0 a w → Sim b N S' a w) : CodeOk P b N c S e S' :=
  fun hs hQ => h hs fun a' w' hs' => hQ a' w' (hw hs')

theorem then_out {e : Ex} {next : Act → World → Prop} {Q : Exit → Act → World → Prop} {a : Act} {w : World} : Exit.then next Q e.out a w ↔ (match e with | .n => next a w | e => Q e.out a w) := by
  cases e <;> exact Iff.rfl

theorem seq_ok {c d : Code} {S : St} {x y : Ann} {e : Ex} {S' : St} (ih1 : ∀ {ann S e S'}, (vcode E N ann c S).run = some (e, S') → CodeOk P b N c S e S') (ih2 : ∀ {ann S e S'}, (vcode E N ann d S).run = some (e, S') → CodeOk P b N d S e S')
    (h : ((vcode E N x c S).bind fun r => match r.1 with | .n => vcode E N y d r.2 | e => .ret (e, r.2)).run = some (e, S')) : CodeOk P b N (.seq c d) S e S' := by
  rw [run_bind, Option.bind_eq_some_iff] at h
  obtain ⟨⟨e1, S1⟩, h1, h2⟩ := h
  intro a w Q hs hQ
  refine wp_seq (ih1 h1 hs fun a' w' hs' => then_out.2 ?_)
  cases e1 with
  | n => exact ih2 h2 hs' hQ
  | x id =>
    simp only [Tr.run, Option.some.injEq, Prod.mk.injEq] at h2
    obtain ⟨k1, k2⟩ := h2
    subst k1 k2
    exact hQ a' w' hs'
  | r =>
    simp only [Tr.run, Option.some.injEq, Prod.mk.injEq] at h2
    obtain ⟨k1, k2⟩ := h2
    subst k1 k2
    exact hQ a' w' hs'

theorem cond_ok {o : Operand} {c d : Code} {S : St} {t : Bool} {x y : Ann} {e : Ex} {S' : St} (ih1 : ∀ {ann S e S'}, (vcode E N ann c S).run = some (e, S') → CodeOk P b N c S e S') (ih2 : ∀ {ann S e S'}, (vcode E N ann d S).run = some (e, S') → CodeOk P b N d S e S')
    (ho : opnd S o = .s (.one (.v .bool t))) (h : (Tr.br t (vcode E N x c S) (vcode E N y d S)).run = some (e, S')) : CodeOk P b N (.cond o c d) S e S' := by
  intro a w Q hs hQ
  have hb : a.eval o = .bool t := by
    obtain ⟨c, _, hsl⟩ := hs
    have := opnd_ok hsl o
    rw [ho] at this
    exact bool_leaf (leaf_sv this)
  refine wp_cond hb ?_
  simp only [Tr.run] at h
  split at h
  · rename_i ht; rw [if_pos ht]; exact ih1 h hs hQ
  · rename_i ht; rw [if_neg ht]; exact ih2 h hs hQ

theorem block_ok {id : Nat} {c : Code} {S : St} {x : Ann} {e : Ex} {S' : St} (ih1 : ∀ {ann S e S'}, (vcode E N ann c S).run = some (e, S') → CodeOk P b N c S e S')
    (h : ((vcode E N x c S).bind fun r => .ret (if r.1 = .x id then .n else r.1, r.2)).run = some (e, S')) : CodeOk P b N (.block id c) S e S' := by
  rw [run_bind, Option.bind_eq_some_iff] at h
  obtain ⟨⟨e1, S1⟩, h1, h2⟩ := h
  simp only [Tr.run, Option.some.injEq, Prod.mk.injEq] at h2
  obtain ⟨k1, k2⟩ := h2
  subst k2
  intro a w Q hs hQ
  refine wp_block (ih1 h1 hs fun a' w' hs' => ?_)
  have := hQ a' w' hs'
  cases e1 with
  | n => simp only [reduceCtorEq, if_false] at k1; subst k1; exact this
  | x id' =>
    by_cases hid : id' = id
    · subst hid
      simp only [if_true] at k1
      subst k1
      simp only [Ex.out, Exit.inBlock, if_true]
      exact this
    · have : ¬ (Ex.x id' = Ex.x id) := fun h => hid (by injection h)
      rw [if_neg this] at k1
      subst k1
      simp only [Ex.out, Exit.inBlock, hid, if_false]
      assumption
  | r => simp only [reduceCtorEq, if_false] at k1; subst k1; exact this

theorem loop_ok {c : Code} {S : St} {t : Tpl} {J : Joins} {x : Ann} {e : Ex} {S' : St} (ih1 : ∀ {ann S e S'}, (vcode E N ann c S).run = some (e, S') → CodeOk P b N c S e S') {x0 : t.D} (hx : t.prj S = some x0)
    (h : (Tr.get (Joins.D J) (loopG (fun y : t.D => ((vcode E N x c (t.inj y)).bind fun r => match r.1 with
        | .n => Tr.opt (match t.prj r.2 with | some z => some (Sum.inl (β := Joins.D J) z) | none => none)
        | e => Tr.opt (match J.prj e r.2 with | some z => some (Sum.inr (α := t.D) z) | none => none)).run) x0) J.inj).run = some (e, S')) : CodeOk P b N (.loop c) S e S' := by
  rw [run_get, Option.bind_eq_some_iff] at h
  obtain ⟨y, hy, h⟩ := h
  obtain ⟨n0, hn0⟩ := (loopG_some _ _ _).1 hy
  intro a w Q hs hQ
  generalize hf : (fun y : t.D => ((vcode E N x c (t.inj y)).bind fun r => match r.1 with
        | .n => Tr.opt (match t.prj r.2 with | some z => some (Sum.inl (β := Joins.D J) z) | none => none)
        | e => Tr.opt (match J.prj e r.2 with | some z => some (Sum.inr (α := t.D) z) | none => none)).run) = f at hn0
  refine wp_loop_ghost (fun n a w => ∃ x, Sim b N (t.inj x) a w ∧ loopN f n x = some y) n0 ⟨x0, t.ok hx hs, hn0⟩ ?_
  rintro n a w ⟨z, hz, hn⟩
  cases n with
  | zero => simp [loopN] at hn
  | succ n =>
    simp only [loopN] at hn
    have hfz : f z = ((vcode E N x c (t.inj z)).bind fun r => match r.1 with
        | .n => Tr.opt (match t.prj r.2 with | some z => some (Sum.inl (β := Joins.D J) z) | none => none)
        | e => Tr.opt (match J.prj e r.2 with | some z => some (Sum.inr (α := t.D) z) | none => none)).run := by rw [← hf]
    cases hfv : f z with
    | none => rw [hfv] at hn; cases hn
    | some v =>
      rw [hfv] at hn hfz
      have hfz' := hfz.symm
      rw [run_bind, Option.bind_eq_some_iff] at hfz'
      obtain ⟨⟨e1, S1⟩, h1, h2⟩ := hfz'
      refine ih1 h1 hz fun a' w' hs' => then_out.2 ?_
      have other : ∀ e2, (Tr.opt (match J.prj e2 S1 with | some z => some (Sum.inr (α := t.D) z) | none => none)).run = some v → Q e2.out a' w' := by
        intro e2 h2
        have h3 := opt_run h2
        split at h3
        · rename_i z' hz'
          injection h3 with h3
          subst h3
          simp only [Option.some.injEq] at hn
          subst hn
          obtain ⟨k1, k2⟩ := Joins.ok (b := b) (N := N) J hz' h
          subst k1
          exact hQ a' w' (k2 hs')
        · cases h3
      cases e1 with
      | n =>
        have h3 := opt_run h2
        split at h3
        · rename_i z' hz'
          injection h3 with h3
          subst h3
          exact ⟨n, by omega, z', t.ok hz' hs', hn⟩
        · cases h3
      | x id => exact other _ h2
      | r => exact other _ h2

theorem vcode_ok (hE : EnvOk P E) (hN : N < b.n1) (c : Code) : ∀ {ann : Ann} {S : St} {e : Ex} {S' : St}, (vcode E N ann c S).run = some (e, S') → CodeOk P b N c S e S' := by
  have reg : ∀ {id : Nat} {ops : Array Oper} {draw : Bool} {S : St} {e : Ex} {S' : St}, ((regionT E N ops draw S).bind fun S => .ret (.n, S)).run = some (e, S') → CodeOk P b N (.region id ops draw) S e S' := by
    intro id ops draw S e S' h
    rw [run_bind, Option.bind_eq_some_iff] at h
    obtain ⟨S1, h1, h2⟩ := h
    simp only [Tr.run, Option.some.injEq, Prod.mk.injEq] at h2
    obtain ⟨k1, k2⟩ := h2
    subst k1 k2
    intro a w Q hs hQ
    exact region_ok hE hN h1 hs hQ
  induction c with
  | skip =>
    intro ann S e S' h
    have : vcode E N ann .skip S = .ret (.n, S) := by cases ann <;> rfl
    rw [this] at h
    simp only [Tr.run, Option.some.injEq, Prod.mk.injEq] at h
    obtain ⟨k1, k2⟩ := h
    subst k1 k2
    intro a w Q hs hQ
    exact wp_skip (hQ a w hs)
  | region id ops draw =>
    intro ann S e S' h
    cases ann with
    | reg J =>
      obtain ⟨S0, h1, h2⟩ := joined_ok (b := b) (N := N) (show (joined J ((regionT E N ops draw S).bind fun S => .ret (.n, S))).run = some (e, S') from h)
      exact weak (reg h1) h2
    | _ => exact reg h
  | seq c d ih1 ih2 =>
    intro ann S e S' h
    cases ann with
    | seq x y => exact seq_ok ih1 ih2 h
    | nil => exact seq_ok ih1 ih2 h
    | _ => cases h
  | cond o c d ih1 ih2 =>
    intro ann S e S' h
    cases ann with
    | cond J x y =>
      simp only [vcode] at h
      split at h
      · rename_i t ho
        obtain ⟨S0, h1, h2⟩ := joined_ok (b := b) (N := N) h
        exact weak (cond_ok ih1 ih2 ho h1) h2
      · cases h
    | nil =>
      simp only [vcode] at h
      split at h
      · rename_i t ho
        exact cond_ok ih1 ih2 ho h
      · cases h
    | _ => cases h
  | block id c ih1 =>
    intro ann S e S' h
    cases ann with
    | block J x =>
      obtain ⟨S0, h1, h2⟩ := joined_ok (b := b) (N := N) h
      exact weak (block_ok ih1 h1) h2
    | nil => exact block_ok ih1 h
    | _ => cases h
  | loop c ih1 =>
    intro ann S e S' h
    cases ann with
    | loop t J x =>
      simp only [vcode] at h
      split at h
      · rename_i x0 hx
        exact loop_ok ih1 hx h
      · cases h
    | _ => cases h
  | exit id =>
    intro ann S e S' h
    have : vcode E N ann (.exit id) S = .ret (.x id, S) := by cases ann <;> rfl
    rw [this] at h
    simp only [Tr.run, Option.some.injEq, Prod.mk.injEq] at h
    obtain ⟨k1, k2⟩ := h
    subst k1 k2
    intro a w Q hs hQ
    exact wp_exit (hQ a w hs)
  | ret =>
    intro ann S e S' h
    have : vcode E N ann .ret S = .ret (.r, S) := by cases ann <;> rfl
    rw [this] at h
    simp only [Tr.run, Option.some.injEq, Prod.mk.injEq] at h
    obtain ⟨k1, k2⟩ := h
    subst k1 k2
    intro a w Q hs hQ
    exact wp_ret (hQ a w hs)
  | _ =>
    intro ann S e S' h
    cases ann <;> cases h
end

#print axioms vcode_ok
end Go.V
