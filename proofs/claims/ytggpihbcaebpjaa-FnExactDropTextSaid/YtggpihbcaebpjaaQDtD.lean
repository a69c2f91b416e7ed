import Derived.Test.YtggpihbcaebpjaaQDtC
import Derived.Deep.LoopGhost
import Derived.Below
import Derived.WalkKit
import Derived.ProofKit
import Derived.ChangeOld
import Derived.DataReads
namespace Go.V
def Ex.out : Ex → Exit
  | .n => .normal
  | .x id => .exit id
  | .r => .ret
section
variable {P : Program} {E : Env} {b : Base} {N : Nat}
theorem opt_run {α : Type} {o : Option α} {x : α} (h : (Tr.opt o).run = some x) : o = some x := by
  cases o with
  | none => simp [Tr.run] at h
  | some a => simpa [Tr.run] using h
theorem Joins.ok : ∀ (J : Joins) {e e' : Ex} {S S' : St} {x : J.D}, J.prj e S = some x → (J.inj x).run = some (e', S') → e = e' ∧ ∀ {a w}, Sim b N S a w → Sim b N S' a w
  | [], e, e', S, S', x, _, _ => nomatch x
  | [t], e, e', S, S', x, h, h' => by
    simp only [Joins.prj] at h
    split at h
    · rename_i he
      simp only [Joins.inj, Tr.run, Option.some.injEq, Prod.mk.injEq] at h'
      obtain ⟨h1, h2⟩ := h'
      subst h2
      exact ⟨he.trans h1, fun hs => t.2.ok h hs⟩
    · cases h
  | t :: u :: l, e, e', S, S', x, h, h' => by
    simp only [Joins.prj] at h
    split at h
    · rename_i he
      split at h
      · rename_i y hy
        injection h with h
        subst h
        simp only [Joins.inj, Tr.run, Option.some.injEq, Prod.mk.injEq] at h'
        obtain ⟨h1, h2⟩ := h'
        subst h2
        exact ⟨he.trans h1, fun hs => t.2.ok hy hs⟩
      · cases h
    · split at h
      · rename_i y hy
        injection h with h
        subst h
        exact Joins.ok (u :: l) hy h'
      · cases h
theorem joined_ok {J : Joins} {t : Tr (Ex × St)} {e : Ex} {S' : St} (h : (joined J t).run = some (e, S')) : ∃ S0, t.run = some (e, S0) ∧ ∀ {a w}, Sim b N S0 a w → Sim b N S' a w := by
  cases J with
  | nil => exact ⟨S', h, fun hs => hs⟩
  | cons j l =>
    simp only [joined, run_get, Option.bind_eq_some_iff] at h
    obtain ⟨x, hx, h⟩ := h
    rw [run_bind, Option.bind_eq_some_iff] at hx
    obtain ⟨⟨e0, S0⟩, h1, h2⟩ := hx
    obtain ⟨k1, k2⟩ := Joins.ok (b := b) (N := N) (j :: l) (opt_run h2) h
    subst k1
    exact ⟨S0, h1, k2⟩
def CodeOk (P : Program) (b : Base) (N : Nat) (c : Code) (S : St) (e : Ex) (S' : St) : Prop :=
  ∀ {a : Act} {w : World} {Q : Exit → Act → World → Prop}, Sim b N S a w → (∀ a' w', Sim b N S' a' w' → Q e.out a' w') → c.wp P Q a w
theorem weak {c : Code} {S S0 S' : St} {e : Ex} (h : CodeOk P b N c S e S0) (hw : ∀ {a w}, Sim b N S0 a w → Sim b N S' a w) : CodeOk P b N c S e S' :=
  fun hs hQ => h hs fun a' w' hs' => hQ a' w' (hw hs')
theorem then_out {e : Ex} {next : Act → World → Prop} {Q : Exit → Act → World → Prop} {a : Act} {w : World} : Exit.then next Q e.out a w ↔ (match e with | .n => next a w | e => Q e.out a w) := by
  cases e <;> exact Iff.rfl
theorem seq_ok {c d : Code} {S : St} {x y : Ann} {e : Ex} {S' : St} (ih1 : ∀ {ann S e S'}, (vcode E N ann c S).run = some (e, S') → CodeOk P b N c S e S') (ih2 : ∀ {ann S e S'}, (vcode E N ann d S).run = some (e, S') → CodeOk P b N d S e S')
    (h : ((vcode E N x c S).bind fun r => match r.1 with | .n => vcode E N y d r.2 | e => .ret (e, r.2)).run = some (e, S')) : CodeOk P b N (.seq c d) S e S' := by
  rw [run_bind, Option.bind_eq_some_iff] at h
  obtain ⟨⟨e1, S1⟩, h1, h2⟩ := h
  intro a w Q hs hQ
  refine wp_seq (ih1 h1 hs fun a' w' hs' => then_out.2 ?_)
  cases e1 with
  | n => exact ih2 h2 hs' hQ
  | x id =>
    simp only [Tr.run, Option.some.injEq, Prod.mk.injEq] at h2
    obtain ⟨k1, k2⟩ := h2
    subst k1 k2
    exact hQ a' w' hs'
  | r =>
    simp only [Tr.run, Option.some.injEq, Prod.mk.injEq] at h2
    obtain ⟨k1, k2⟩ := h2
    subst k1 k2
    exact hQ a' w' hs'
theorem cond_ok {o : Operand} {c d : Code} {S : St} {t : Bool} {x y : Ann} {e : Ex} {S' : St} (ih1 : ∀ {ann S e S'}, (vcode E N ann c S).run = some (e, S') → CodeOk P b N c S e S') (ih2 : ∀ {ann S e S'}, (vcode E N ann d S).run = some (e, S') → CodeOk P b N d S e S')
    (ho : opnd S o = .s (.one (.v .bool t))) (h : (Tr.br t (vcode E N x c S) (vcode E N y d S)).run = some (e, S')) : CodeOk P b N (.cond o c d) S e S' := by
  intro a w Q hs hQ
  have hb : a.eval o = .bool t := by
    obtain ⟨c, _, hsl, _⟩ := hs
    have := opnd_ok hsl o
    rw [ho] at this
    exact bool_leaf (leaf_sv this)
  refine wp_cond hb ?_
  simp only [Tr.run] at h
  split at h
  · rename_i ht; rw [if_pos ht]; exact ih1 h hs hQ
  · rename_i ht; rw [if_neg ht]; exact ih2 h hs hQ
theorem bothQ_some {α : Type} {e : Bool} {x y : Option α} {z : α} (h : bothQ e x y = some z) : y = some z ∧ (e = true → x = some z) := by
  unfold bothQ at h
  split at h
  · split at h
    · rename_i hxy; exact ⟨h, fun _ => by rw [hxy]; exact h⟩
    · cases h
  · rename_i he; exact ⟨h, fun h' => absurd h' he⟩
theorem condq_ok {o : Operand} {c d : Code} {S : St} {q : Bool} {x y : Ann} {J : Joins} {z : J.D} {e : Ex} {S' : St} (ih1 : ∀ {ann S e S'}, (vcode E N ann c S).run = some (e, S') → CodeOk P b N c S e S') (ih2 : ∀ {ann S e S'}, (vcode E N ann d S).run = some (e, S') → CodeOk P b N d S e S')
    (ho : opnd S o = .s (.one (.qn q))) (hz : bothQ q ((vcode E N x c S).bind fun r => Tr.opt (Joins.prj J r.1 r.2)).run ((vcode E N y d S).bind fun r => Tr.opt (Joins.prj J r.1 r.2)).run = some z)
    (h : (J.inj z).run = some (e, S')) : CodeOk P b N (.cond o c d) S e S' := by
  obtain ⟨hB, hA⟩ := bothQ_some hz
  have side : ∀ {k : Code} {v : Ann}, (∀ {ann S e S'}, (vcode E N ann k S).run = some (e, S') → CodeOk P b N k S e S') → ((vcode E N v k S).bind fun r => Tr.opt (Joins.prj J r.1 r.2)).run = some z → CodeOk P b N k S e S' := by
    intro k v ih hk
    rw [run_bind, Option.bind_eq_some_iff] at hk
    obtain ⟨⟨e1, S1⟩, h1, h2⟩ := hk
    obtain ⟨k1, k2⟩ := Joins.ok (b := b) (N := N) J (opt_run h2) h
    subst k1
    exact weak (ih h1) k2
  intro a w Q hs hQ
  obtain ⟨r, hb, hr⟩ : ∃ r : Bool, a.eval o = .bool r ∧ (r = true → q = true) := by
    obtain ⟨c, _, hsl, _⟩ := hs
    have := opnd_ok hsl o
    rw [ho] at this
    exact this
  refine wp_cond hb ?_
  split
  · rename_i hrt; exact side ih1 (hA (hr hrt)) hs hQ
  · exact side ih2 hB hs hQ
def AllOk (P : Program) (E : Env) (b : Base) (N : Nat) (c : Code) : Prop := ∀ (ann : Ann) (S : St) (e : Ex) (S' : St), (vcode E N ann c S).run = some (e, S') → CodeOk P b N c S e S'
def SubOk (P : Program) (E : Env) (b : Base) (N : Nat) (c : Code) : Prop := match c with
  | .cond _ x y => AllOk P E b N x ∧ AllOk P E b N y
  | .seq r (.cond _ x y) => AllOk P E b N r ∧ AllOk P E b N x ∧ AllOk P E b N y
  | _ => True
theorem both_side {k d : Code} {S : St} {v y : Ann} {J : Joins} {z : J.D} {e : Ex} {S' : St} (hk : AllOk P E b N k) (hd : AllOk P E b N d)
    (hz : (((vcode E N v k S).bind fun p => match p.1 with | .n => vcode E N y d p.2 | e => .ret (e, p.2)).bind fun t => Tr.opt (Joins.prj J t.1 t.2)).run = some z) (h : (J.inj z).run = some (e, S'))
    {a : Act} {w : World} {Q : Exit → Act → World → Prop} (hs : Sim b N S a w) (hQ : ∀ a' w', Sim b N S' a' w' → Q e.out a' w') : k.wp P (Exit.then (fun a w => d.wp P Q a w) Q) a w := by
  rw [run_bind, Option.bind_eq_some_iff] at hz
  obtain ⟨⟨e1, S1⟩, h1, h2⟩ := hz
  obtain ⟨k1, k2⟩ := Joins.ok (b := b) (N := N) J (opt_run h2) h
  subst k1
  rw [run_bind, Option.bind_eq_some_iff] at h1
  obtain ⟨⟨e3, S3⟩, h3, h4⟩ := h1
  refine hk _ _ _ _ h3 hs fun a' w' hs' => then_out.2 ?_
  cases e3 with
  | n => exact hd _ _ _ _ h4 hs' fun a2 w2 hs2 => hQ a2 w2 (k2 hs2)
  | x id =>
    simp only [Tr.run, Option.some.injEq, Prod.mk.injEq] at h4
    obtain ⟨q1, q2⟩ := h4
    subst q1 q2
    exact hQ a' w' (k2 hs')
  | r =>
    simp only [Tr.run, Option.some.injEq, Prod.mk.injEq] at h4
    obtain ⟨q1, q2⟩ := h4
    subst q1 q2
    exact hQ a' w' (k2 hs')
theorem both_ok {o : Operand} {r c1 c2 d : Code} {S : St} {J : Joins} {xr xa xb y z : Ann} {e : Ex} {S' : St} (hr : AllOk P E b N r) (h1 : AllOk P E b N c1) (h2 : AllOk P E b N c2) (hd : AllOk P E b N d)
    (h : (vcode E N (.both J xr xa xb y z) (.seq (.seq r (.cond o c1 c2)) d) S).run = some (e, S')) : CodeOk P b N (.seq (.seq r (.cond o c1 c2)) d) S e S' := by
  rw [vcode, run_bind, Option.bind_eq_some_iff] at h
  obtain ⟨⟨e1, S1⟩, h3, h4⟩ := h
  intro a w Q hs hQ
  refine wp_seq (wp_seq (hr _ _ _ _ h3 hs fun a' w' hs' => then_out.2 ?_))
  cases e1 with
  | x id =>
    simp only [Tr.run, Option.some.injEq, Prod.mk.injEq] at h4
    obtain ⟨q1, q2⟩ := h4
    subst q1 q2
    exact then_out (e := .x id).2 (hQ a' w' hs')
  | r =>
    simp only [Tr.run, Option.some.injEq, Prod.mk.injEq] at h4
    obtain ⟨q1, q2⟩ := h4
    subst q1 q2
    exact then_out (e := .r).2 (hQ a' w' hs')
  | n =>
    simp only at h4
    split at h4
    · rename_i q ho
      rw [run_get, Option.bind_eq_some_iff] at h4
      obtain ⟨t, ht, h5⟩ := h4
      obtain ⟨hB, hA⟩ := bothQ_some ht
      obtain ⟨g, hb, hg⟩ : ∃ g : Bool, a'.eval o = .bool g ∧ (g = true → q = true) := by
        obtain ⟨c, _, hsl, _⟩ := hs'
        have := opnd_ok hsl o
        rw [ho] at this
        exact this
      refine wp_cond hb ?_
      split
      · rename_i hgt; exact both_side h1 hd (hA (hg hgt)) h5 hs' hQ
      · exact both_side h2 hd hB h5 hs' hQ
    · simp [Tr.run] at h4
theorem block_ok {id : Nat} {c : Code} {S : St} {x : Ann} {e : Ex} {S' : St} (ih1 : ∀ {ann S e S'}, (vcode E N ann c S).run = some (e, S') → CodeOk P b N c S e S')
    (h : ((vcode E N x c S).bind fun r => .ret (if r.1 = .x id then .n else r.1, r.2)).run = some (e, S')) : CodeOk P b N (.block id c) S e S' := by
  rw [run_bind, Option.bind_eq_some_iff] at h
  obtain ⟨⟨e1, S1⟩, h1, h2⟩ := h
  simp only [Tr.run, Option.some.injEq, Prod.mk.injEq] at h2
  obtain ⟨k1, k2⟩ := h2
  subst k2
  intro a w Q hs hQ
  refine wp_block (ih1 h1 hs fun a' w' hs' => ?_)
  have := hQ a' w' hs'
  cases e1 with
  | n => simp only [reduceCtorEq, if_false] at k1; subst k1; exact this
  | x id' =>
    by_cases hid : id' = id
    · subst hid
      simp only [if_true] at k1
      subst k1
      simp only [Ex.out, Exit.inBlock, if_true]
      exact this
    · have : ¬ (Ex.x id' = Ex.x id) := fun h => hid (by injection h)
      rw [if_neg this] at k1
      subst k1
      simp only [Ex.out, Exit.inBlock, hid, if_false]
      assumption
  | r => simp only [reduceCtorEq, if_false] at k1; subst k1; exact this
theorem loop_ok {c : Code} {S : St} {t : Tpl} {J : Joins} {x : Ann} {e : Ex} {S' : St} (ih1 : ∀ {ann S e S'}, (vcode E N ann c S).run = some (e, S') → CodeOk P b N c S e S') {x0 : t.D} (hx : t.prj S = some x0)
    (h : (Tr.get (Joins.D J) (loopG (fun y : t.D => ((vcode E N x c (t.inj y)).bind fun r => match r.1 with
        | .n => Tr.opt (match t.prj r.2 with | some z => some (Sum.inl (β := Joins.D J) z) | none => none)
        | e => Tr.opt (match J.prj e r.2 with | some z => some (Sum.inr (α := t.D) z) | none => none)).run) x0) J.inj).run = some (e, S')) : CodeOk P b N (.loop c) S e S' := by
  rw [run_get, Option.bind_eq_some_iff] at h
  obtain ⟨y, hy, h⟩ := h
  obtain ⟨n0, hn0⟩ := (loopG_some _ _ _).1 hy
  intro a w Q hs hQ
  generalize hf : (fun y : t.D => ((vcode E N x c (t.inj y)).bind fun r => match r.1 with
        | .n => Tr.opt (match t.prj r.2 with | some z => some (Sum.inl (β := Joins.D J) z) | none => none)
        | e => Tr.opt (match J.prj e r.2 with | some z => some (Sum.inr (α := t.D) z) | none => none)).run) = f at hn0
  refine wp_loop_ghost (fun n a w => ∃ x, Sim b N (t.inj x) a w ∧ loopN f n x = some y) n0 ⟨x0, t.ok hx hs, hn0⟩ ?_
  rintro n a w ⟨z, hz, hn⟩
  cases n with
  | zero => simp [loopN] at hn
  | succ n =>
    simp only [loopN] at hn
    have hfz : f z = ((vcode E N x c (t.inj z)).bind fun r => match r.1 with
        | .n => Tr.opt (match t.prj r.2 with | some z => some (Sum.inl (β := Joins.D J) z) | none => none)
        | e => Tr.opt (match J.prj e r.2 with | some z => some (Sum.inr (α := t.D) z) | none => none)).run := by rw [← hf]
    cases hfv : f z with
    | none => rw [hfv] at hn; cases hn
    | some v =>
      rw [hfv] at hn hfz
      have hfz' := hfz.symm
      rw [run_bind, Option.bind_eq_some_iff] at hfz'
      obtain ⟨⟨e1, S1⟩, h1, h2⟩ := hfz'
      refine ih1 h1 hz fun a' w' hs' => then_out.2 ?_
      have other : ∀ e2, (Tr.opt (match J.prj e2 S1 with | some z => some (Sum.inr (α := t.D) z) | none => none)).run = some v → Q e2.out a' w' := by
        intro e2 h2
        have h3 := opt_run h2
        split at h3
        · rename_i z' hz'
          injection h3 with h3
          subst h3
          simp only [Option.some.injEq] at hn
          subst hn
          obtain ⟨k1, k2⟩ := Joins.ok (b := b) (N := N) J hz' h
          subst k1
          exact hQ a' w' (k2 hs')
        · cases h3
      cases e1 with
      | n =>
        have h3 := opt_run h2
        split at h3
        · rename_i z' hz'
          injection h3 with h3
          subst h3
          exact ⟨n, by omega, z', t.ok hz' hs', hn⟩
        · cases h3
      | x id => exact other _ h2
      | r => exact other _ h2
theorem vcode_ok (hE : EnvOk P E) (hF : ∀ p, p ∈ b.fx → E.fx.contains p.1 = true) (hN : N < b.n1) (c : Code) : ∀ {ann : Ann} {S : St} {e : Ex} {S' : St}, (vcode E N ann c S).run = some (e, S') → CodeOk P b N c S e S' := by
  have reg : ∀ {id : Nat} {ops : Array Oper} {draw : Bool} {S : St} {e : Ex} {S' : St}, ((regionT E N ops draw S).bind fun S => .ret (.n, S)).run = some (e, S') → CodeOk P b N (.region id ops draw) S e S' := by
    intro id ops draw S e S' h
    rw [run_bind, Option.bind_eq_some_iff] at h
    obtain ⟨S1, h1, h2⟩ := h
    simp only [Tr.run, Option.some.injEq, Prod.mk.injEq] at h2
    obtain ⟨k1, k2⟩ := h2
    subst k1 k2
    intro a w Q hs hQ
    exact region_ok hE hF hN h1 hs hQ
  suffices hh : AllOk P E b N c ∧ SubOk P E b N c by
    intro ann S e S' h
    exact hh.1 _ _ _ _ h
  induction c with
  | skip =>
    refine ⟨?_, trivial⟩
    intro ann S e S' h
    have : vcode E N ann .skip S = .ret (.n, S) := by cases ann <;> rfl
    rw [this] at h
    simp only [Tr.run, Option.some.injEq, Prod.mk.injEq] at h
    obtain ⟨k1, k2⟩ := h
    subst k1 k2
    intro a w Q hs hQ
    exact wp_skip (hQ a w hs)
  | region id ops draw =>
    refine ⟨?_, trivial⟩
    intro ann S e S' h
    cases ann with
    | reg J =>
      obtain ⟨S0, h1, h2⟩ := joined_ok (b := b) (N := N) (show (joined J ((regionT E N ops draw S).bind fun S => .ret (.n, S))).run = some (e, S') from h)
      exact weak (reg h1) h2
    | _ => exact reg h
  | seq c d ih1 ih2 =>
    have i1 : ∀ {ann S e S'}, (vcode E N ann c S).run = some (e, S') → CodeOk P b N c S e S' := fun h => ih1.1 _ _ _ _ h
    have i2 : ∀ {ann S e S'}, (vcode E N ann d S).run = some (e, S') → CodeOk P b N d S e S' := fun h => ih2.1 _ _ _ _ h
    refine ⟨?_, ?_⟩
    · intro ann S e S' h
      cases ann with
      | seq x y => exact seq_ok i1 i2 h
      | nil => exact seq_ok i1 i2 h
      | both J xr xa xb y z =>
        match c, ih1, h with
        | .seq r (.cond o c1 c2), ih1, h => (intro a w Q hs hQ; exact both_ok ih1.2.1 ih1.2.2.1 ih1.2.2.2 ih2.1 h hs hQ)
        | .seq _ (.skip), _, h | .seq _ (.region ..), _, h | .seq _ (.seq ..), _, h | .seq _ (.block ..), _, h | .seq _ (.loop ..), _, h | .seq _ (.rangeFunc ..), _, h | .seq _ (.exit ..), _, h | .seq _ (.scope ..), _, h | .seq _ (.label ..), _, h | .seq _ (.goto ..), _, h | .seq _ (.ret), _, h | .seq _ (.refuse ..), _, h => cases h
        | .skip, _, h | .region .., _, h | .cond .., _, h | .block .., _, h | .loop .., _, h | .rangeFunc .., _, h | .exit .., _, h | .scope .., _, h | .label .., _, h | .goto .., _, h | .ret, _, h | .refuse .., _, h => cases h
      | _ => cases h
    · cases d with
      | cond o c1 c2 => exact ⟨ih1.1, ih2.2.1, ih2.2.2⟩
      | _ => trivial
  | cond o c d ih1' ih2' =>
    have ih1 : ∀ {ann S e S'}, (vcode E N ann c S).run = some (e, S') → CodeOk P b N c S e S' := fun h => ih1'.1 _ _ _ _ h
    have ih2 : ∀ {ann S e S'}, (vcode E N ann d S).run = some (e, S') → CodeOk P b N d S e S' := fun h => ih2'.1 _ _ _ _ h
    refine ⟨?_, ih1'.1, ih2'.1⟩
    intro ann S e S' h
    cases ann with
    | cond J x y =>
      simp only [vcode] at h
      split at h
      · rename_i t ho
        obtain ⟨S0, h1, h2⟩ := joined_ok (b := b) (N := N) h
        exact weak (cond_ok ih1 ih2 ho h1) h2
      · rename_i e0 ho
        rw [run_get, Option.bind_eq_some_iff] at h
        obtain ⟨z, hz, h⟩ := h
        exact condq_ok ih1 ih2 ho hz h
      · cases h
    | nil =>
      simp only [vcode] at h
      split at h
      · rename_i t ho
        exact cond_ok ih1 ih2 ho h
      · cases h
    | _ => cases h
  | block id c ih1' =>
    have ih1 : ∀ {ann S e S'}, (vcode E N ann c S).run = some (e, S') → CodeOk P b N c S e S' := fun h => ih1'.1 _ _ _ _ h
    refine ⟨?_, trivial⟩
    intro ann S e S' h
    cases ann with
    | block J x =>
      obtain ⟨S0, h1, h2⟩ := joined_ok (b := b) (N := N) h
      exact weak (block_ok ih1 h1) h2
    | nil => exact block_ok ih1 h
    | _ => cases h
  | loop c ih1' =>
    have ih1 : ∀ {ann S e S'}, (vcode E N ann c S).run = some (e, S') → CodeOk P b N c S e S' := fun h => ih1'.1 _ _ _ _ h
    refine ⟨?_, trivial⟩
    intro ann S e S' h
    cases ann with
    | loop t J x =>
      simp only [vcode] at h
      split at h
      · rename_i x0 hx
        exact loop_ok ih1 hx h
      · cases h
    | _ => cases h
  | exit id =>
    refine ⟨?_, trivial⟩
    intro ann S e S' h
    have : vcode E N ann (.exit id) S = .ret (.x id, S) := by cases ann <;> rfl
    rw [this] at h
    simp only [Tr.run, Option.some.injEq, Prod.mk.injEq] at h
    obtain ⟨k1, k2⟩ := h
    subst k1 k2
    intro a w Q hs hQ
    exact wp_exit (hQ a w hs)
  | ret =>
    refine ⟨?_, trivial⟩
    intro ann S e S' h
    have : vcode E N ann .ret S = .ret (.r, S) := by cases ann <;> rfl
    rw [this] at h
    simp only [Tr.run, Option.some.injEq, Prod.mk.injEq] at h
    obtain ⟨k1, k2⟩ := h
    subst k1 k2
    intro a w Q hs hQ
    exact wp_ret (hQ a w hs)
  | _ =>
    refine ⟨?_, trivial⟩
    intro ann S e S' h
    cases ann <;> cases h
end
end Go.V

namespace Go.V
open Go.RowKit
section
variable {P : Program} {E : Env} {b : Base} {S : St} {c : Cc} {w : World}
theorem outLeaf_ok (hi : Inv b S w c) {t : Ty} {l : Leaf} {v : Value} {y : ALeaf × List Nat} (hl : LeafOk S c w (Kok b S c) l v) (h : (outLeaf t l).ev S = some y) :
    Ows S y.2 ∧ ∃ G, ALOk w (Kok b S c) y.1 v G ∧ G.Nodup ∧ Held c y.2 G := by
  have hn : Ows S [] := fun k hk => (by cases hk)
  have hh : Held c [] [] := fun g hg => (by cases hg)
  unfold outLeaf at h
  split at h
  · simp only [Tr.ev, Option.some.injEq] at h
    subst h
    exact ⟨hn, [], ⟨hl, fun _ => rfl⟩, by simp, hh⟩
  · obtain rfl : v = .slice none 0 0 := hl
    split at h
    · simp only [Tr.ev, Option.some.injEq] at h
      subst h
      refine ⟨hn, [], ⟨?_, fun _ => rfl⟩, by simp, hh⟩
      simp only [Rp]; exact .inl ⟨trivial, trivial, trivial⟩
    · simp [Tr.ev] at h
  · rename_i k win
    simp only [ev_bind, Option.bind_eq_some_iff, Tr.ev, Option.some.injEq] at h
    obtain ⟨o, ho, h⟩ := h
    subst h
    obtain ⟨h1, F', h2, h3, h4⟩ := view_own hi hl ho
    exact ⟨fun k' hk' => (by simp only [List.mem_singleton] at hk'; subst hk'; exact h1), F', ⟨h2, fun h => (by simp [Ty.own] at h)⟩, h4, fun g hg => ⟨k, by simp, h3 g hg⟩⟩
  · simp [Tr.ev] at h
def Outs (S : St) (c : Cc) (gv G : List Nat) : Prop := Ows S gv ∧ (unlike gv = true → G.Nodup) ∧ Held c gv G
theorem Outs.nil : Outs S c [] [] := ⟨fun k hk => (by cases hk), fun _ => by simp, fun g hg => (by cases hg)⟩
theorem Outs.append (hi : Inv b S w c) {k l G H : List Nat} (h1 : Outs S c k G) (h2 : Outs S c l H) : Outs S c (k ++ l) (G ++ H) := by
  refine ⟨ows_append h1.1 h2.1, fun hu => ?_, fun g hg => ?_⟩
  · obtain ⟨u1, u2, _⟩ := unlike_append hu
    exact (held_append hi h1.2.2 h2.2.2 h1.1 h2.1 hu (h1.2.1 u1) (h2.2.1 u2)).2
  · rcases List.mem_append.1 hg with hg | hg
    · obtain ⟨k, h, h'⟩ := h1.2.2 g hg; exact ⟨k, by simp [h], h'⟩
    · obtain ⟨k, h, h'⟩ := h2.2.2 g hg; exact ⟨k, by simp [h], h'⟩
theorem outLeaves_ok (hi : Inv b S w c) : ∀ {ls : List Leaf} {ts : List Ty} {vs : List Value} {y : List ALeaf × List Nat}, All2 (LeafOk S c w (Kok b S c)) ls vs → (outLeaves ts ls).ev S = some y →
    ∃ G, FL (ALOk w (Kok b S c)) y.1 vs G ∧ Outs S c y.2 G
  | [], [], _, y, .nil, h => by
    rw [outLeaves] at h
    simp only [Tr.ev, Option.some.injEq] at h
    subst h
    exact ⟨[], ⟨rfl, rfl⟩, Outs.nil⟩
  | l :: ls, t :: ts, _, y, .cons (b := v) (bs := vs) h1 h2, h => by
    rw [outLeaves] at h
    simp only [ev_bind, Option.bind_eq_some_iff, Tr.ev, Option.some.injEq] at h
    obtain ⟨y1, hy1, y2, hy2, rfl⟩ := h
    obtain ⟨k1, G, k2, k3, k4⟩ := outLeaf_ok hi h1 hy1
    obtain ⟨H, m2, m3⟩ := outLeaves_ok hi h2 hy2
    exact ⟨G ++ H, ⟨v, vs, G, H, rfl, rfl, k2, m2⟩, Outs.append hi ⟨k1, fun _ => k3, k4⟩ m3⟩
  | [], _ :: _, _, _, _, h => by simp [outLeaves, Tr.ev] at h
  | _ :: _, [], _, _, _, h => by simp [outLeaves, Tr.ev] at h
theorem outVal_ok (hi : Inv b S w c) {N M : Nat} (hN : b.n1 = N + 1) (hM : b.ms.length = M) {t : TypeId} {x : SV} {v : Value} {y : A1 × List Nat} (hx : SVOk S c w (Kok b S c) x v) (h : (outVal E N M t x).ev S = some y) :
    ∃ G, A1Ok w (Kok b S c) b.ms y.1 v G ∧ Outs S c y.2 G := by
  unfold outVal at h
  split at h
  · simp only [ev_bind, Option.bind_eq_some_iff, Tr.ev, Option.some.injEq] at h
    obtain ⟨z, hz, h⟩ := h
    subst h
    obtain ⟨k1, G, k2, k3, k4⟩ := outLeaf_ok hi (leaf_sv hx) hz
    exact ⟨G, k2, k1, fun _ => k3, k4⟩
  · simp only [ev_bind, Option.bind_eq_some_iff, Tr.ev, Option.some.injEq] at h
    obtain ⟨z, hz, h⟩ := h
    subst h
    obtain ⟨vs, rfl, hx⟩ := hx
    obtain ⟨G, k1, k2⟩ := outLeaves_ok hi hx hz
    exact ⟨G, ⟨vs, rfl, k1⟩, k2⟩
  · rename_i k off
    split at h
    · rename_i hk
      simp only [Tr.ev, Option.some.injEq] at h
      subst h
      obtain ⟨n, hn, rfl⟩ := hx
      have hlt : k - (N + 1) < b.ms.length := by omega
      have han := hi.an (k - (N + 1)) _ (List.getElem?_eq_getElem hlt)
      rw [hN, show N + 1 + (k - (N + 1)) = k by omega] at han
      exact ⟨[], ⟨rfl, _, List.getElem?_eq_getElem hlt, by rw [han]⟩, Outs.nil⟩
    · simp [Tr.ev] at h
  · simp [Tr.ev] at h
theorem loadAt_addr {t : TypeId} {v u : Value} {w' : World} (h : (Instr.loadAt t v).run P w = .ok u w') : (do loadVar t (← asAddr v) : Sem Value).run P w = .ok u w' := by
  unfold Instr.loadAt at h
  cases v with
  | pointer o =>
    cases o with
    | some a => simpa [asAddr, Instr.sureAddr] using h
    | none => simp [Instr.sureAddr] at h
  | _ => simp [Instr.sureAddr] at h
def readRes (tmps : Array Value) : ResultVar → Sem Value
  | .tmp t => pure (tmps.getD t undef)
  | .cell a t => do loadVar t (← asAddr (tmps.getD a undef))
theorem outVals_ok (hT : TabOk P E.ti) {N M : Nat} (hN : b.n1 = N + 1) (hM : b.ms.length = M) {a : Act} (hi : Inv b S w c) (hs : Slots N S c w (Kok b S c) a) : ∀ (rs : List ResultVar) (ts : List TypeId) {y : List A1 × List Nat}, (outVals E N M S rs ts).ev S = some y →
    ∃ vs G, (rs.mapM (readRes a.tmps)).run P w = .ok vs w ∧ FL (A1Ok w (Kok b S c) b.ms) y.1 vs G ∧ Outs S c y.2 G
  | [], [], y, h => by
    rw [outVals] at h
    simp only [Tr.ev, Option.some.injEq] at h
    subst h
    exact ⟨[], [], by simp, ⟨rfl, rfl⟩, Outs.nil⟩
  | .tmp s :: rs, t :: ts, y, h => by
    rw [outVals] at h
    simp only [ev_bind, Option.bind_eq_some_iff, Tr.ev, Option.some.injEq] at h
    obtain ⟨y1, hy1, y2, hy2, rfl⟩ := h
    obtain ⟨G, k1, k2⟩ := outVal_ok hi hN hM (hs.ok s) hy1
    obtain ⟨vs, H, m1, m2, m3⟩ := outVals_ok hT hN hM hi hs rs ts hy2
    refine ⟨_ :: vs, G ++ H, ?_, ⟨_, vs, G, H, rfl, rfl, k1, m2⟩, Outs.append hi k2 m3⟩
    simp only [List.mapM_cons, readRes, Sem.run_bind, Sem.run_pure, Result.andThen_ok, m1]
  | .cell s t' :: rs, t :: ts, y, h => by
    rw [outVals] at h
    split at h
    · rename_i a1 cs ha hcs
      split at h
      · simp [Tr.ev] at h
      · rename_i hne
        rw [ev_bind, Option.bind_eq_some_iff] at h
        obtain ⟨x, hx, h⟩ := h
        simp only [ev_bind, Option.bind_eq_some_iff, Tr.ev, Option.some.injEq] at h
        obtain ⟨y1, hy1, y2, hy2, rfl⟩ := h
        have hv := hs.ok s
        rw [ha] at hv
        have hpos : 0 < cs.length := by
          cases cs with
          | nil => simp at hne
          | cons _ _ => simp
        obtain ⟨u, k0, k1⟩ := load_ok (P := P) hT hi hv hcs hx hpos
        obtain ⟨G, k2, k3⟩ := outVal_ok hi hN hM k1 hy1
        obtain ⟨vs, H, m1, m2, m3⟩ := outVals_ok hT hN hM hi hs rs ts hy2
        refine ⟨u :: vs, G ++ H, ?_, ⟨u, vs, G, H, rfl, rfl, k2, m2⟩, Outs.append hi k3 m3⟩
        have hl := loadAt_addr k0
        rw [List.mapM_cons, Sem.run_bind]
        show ((do loadVar t' (← asAddr (a.tmps.getD s undef)) : Sem Value).run P w).andThen _ = _
        rw [hl]
        simp only [Result.andThen_ok, Sem.run_bind, m1, Sem.run_pure]
    · simp [Tr.ev] at h
  | [], _ :: _, _, h => by simp [outVals, Tr.ev] at h
  | _ :: _, [], _, h => by
    rename_i r _ _
    cases r <;> simp [outVals, Tr.ev] at h
theorem outRow_ok (hi : Inv b S w c) (k : Nat) : ∀ (row : List ALeaf) (i : Nat) (vs : List Value) {y : List ALeaf × List Nat}, vs.length = row.length → (∀ j v, vs[j]? = some v → LeafOk S c w (Kok b S c) (S.mc k (i + j)) v) → (outRow k row i).ev S = some y →
    ∃ G, FL (ALOk w (Kok b S c)) y.1 vs G ∧ Outs S c y.2 G
  | [], i, vs, y, hl, _, h => by
    rw [outRow] at h
    simp only [Tr.ev, Option.some.injEq] at h
    subst h
    obtain rfl : vs = [] := List.eq_nil_of_length_eq_zero hl
    exact ⟨[], ⟨rfl, rfl⟩, Outs.nil⟩
  | r :: row, i, [], y, hl, _, _ => by simp at hl
  | r :: row, i, v :: vs, y, hl, hc, h => by
    rw [outRow] at h
    simp only [Tr.ev, ev_bind, Option.bind_eq_some_iff, Option.some.injEq] at h
    obtain ⟨y1, hy1, y2, hy2, rfl⟩ := h
    obtain ⟨k1, G, k2, k3, k4⟩ := outLeaf_ok hi (hc 0 v rfl) hy1
    obtain ⟨H, m1, m2⟩ := outRow_ok hi k row (i + 1) vs (by simpa using hl) (fun j v hv => by
      have := hc (j + 1) v (by simpa using hv)
      rwa [show i + (j + 1) = i + 1 + j by omega] at this) hy2
    exact ⟨G ++ H, ⟨v, vs, G, H, rfl, rfl, k2, m1⟩, Outs.append hi ⟨k1, fun _ => k3, k4⟩ m2⟩
theorem outRows_ok (hi : Inv b S w c) {N : Nat} (hN : b.n1 = N + 1) : ∀ (rows : List (List ALeaf)) (m : Nat) (gs : List Nat) {y : List (List ALeaf) × List Nat}, gs.length = rows.length → (∀ j g, gs[j]? = some g → b.ms[m + j]? = some g) → (outRows N rows m).ev S = some y →
    (∀ j, j < rows.length → S.ms (N + 1 + m + j) ≠ none) ∧ ∃ G, RowsOk w (Kok b S c) gs y.1 G ∧ Outs S c y.2 G
  | [], m, gs, y, hl, _, h => by
    rw [outRows] at h
    simp only [Tr.ev, Option.some.injEq] at h
    subst h
    obtain rfl : gs = [] := List.eq_nil_of_length_eq_zero hl
    exact ⟨fun j hj => by simp at hj, [], ⟨rfl, rfl⟩, Outs.nil⟩
  | r :: rows, m, [], y, hl, _, _ => by simp at hl
  | r :: rows, m, g :: gs, y, hl, hg, h => by
    rw [outRows] at h
    simp only [Tr.ev] at h
    split at h
    · rename_i hn
      simp only [Tr.ev, ev_bind, Option.bind_eq_some_iff, Option.some.injEq] at h
      obtain ⟨y1, hy1, y2, hy2, rfl⟩ := h
      obtain ⟨cs, e, fr, h1, h2, h3, h4⟩ := hi.ms _ _ hn
      have hgm : c.mb (N + 1 + m) = g := by rw [← hN]; exact hi.an m g (by have := hg 0 g rfl; simpa using this)
      obtain ⟨G, k1, k2⟩ := outRow_ok hi (N + 1 + m) r 0 cs.toList (by simpa using h2) (fun j v hv => by rw [Nat.zero_add]; exact h4 j v (by simpa using hv)) hy1
      obtain ⟨q1, H, m1, m2⟩ := outRows_ok hi hN rows (m + 1) gs (by simpa using hl) (fun j g' hg' => by
        have := hg (j + 1) g' (by simpa using hg')
        rwa [show m + (j + 1) = m + 1 + j by omega] at this) hy2
      refine ⟨fun j hj => ?_, G ++ H, ⟨y1.1, y2.1, cs, e, fr, G, H, rfl, rfl, by rw [← hgm]; exact h1, h3, k1, m1⟩, Outs.append hi k2 m2⟩
      cases j with
      | zero => rw [Nat.add_zero, hn]; simp
      | succ j =>
        have := q1 j (by simpa using hj)
        rwa [show N + 1 + (m + 1) + j = N + 1 + m + (j + 1) by omega] at this
    · simp [Tr.ev] at h
end
theorem msU_at : ∀ (l : List (Nat × List Leaf)) (S : St), (l.map (·.1)).Nodup → (S.ups (l.map fun p => .ms p.1 p.2)).ow = S.ow ∧ (S.ups (l.map fun p => .ms p.1 p.2)).sl = S.sl ∧
    (∀ k, (S.ups (l.map fun p => .ms p.1 p.2)).ms k = match find l k with | some r => some r.length | none => S.ms k) ∧ ∀ k i, (S.ups (l.map fun p => .ms p.1 p.2)).mc k i = match find l k with | some r => r.getD i .no | none => S.mc k i
  | [], S, _ => ⟨rfl, rfl, fun _ => rfl, fun _ _ => rfl⟩
  | p :: l, S, h => by
    rw [List.map_cons, List.nodup_cons] at h
    obtain ⟨h1, h2, h3, h4⟩ := msU_at l (S.up (.ms p.1 p.2)) h.2
    obtain ⟨i0, row⟩ := p
    refine ⟨h1, h2, fun k => ?_, fun k i => ?_⟩
    · show ((S.up (.ms i0 row)).ups (l.map fun p => .ms p.1 p.2)).ms k = _
      rw [h3]
      simp only [find]
      by_cases hk : k = i0
      · subst hk; rw [find_none h.1, if_pos rfl]; simp [St.up]
      · rw [if_neg hk]
        have : (S.up (.ms i0 row)).ms k = S.ms k := by show (if k = i0 then _ else S.ms k) = _; rw [if_neg hk]
        rw [this]
    · show ((S.up (.ms i0 row)).ups (l.map fun p => .ms p.1 p.2)).mc k i = _
      rw [h4]
      simp only [find]
      by_cases hk : k = i0
      · subst hk; rw [find_none h.1, if_pos rfl]; simp [St.up]
      · rw [if_neg hk]
        have : (S.up (.ms i0 row)).mc k i = S.mc k i := by show (if k = i0 then _ else S.mc k i) = _; rw [if_neg hk]
        rw [this]
theorem putSlots_at : ∀ (xs : List S1) (n : Nat) (S : St), (putSlots xs n S).ow = S.ow ∧ (putSlots xs n S).ms = S.ms ∧ (putSlots xs n S).mc = S.mc ∧
    ∀ i, (putSlots xs n S).sl i = if n ≤ i then (match xs[i - n]? with | some x => .s x | none => S.sl i) else S.sl i
  | [], n, S => ⟨rfl, rfl, rfl, fun i => by split <;> rfl⟩
  | x :: xs, n, S => by
    obtain ⟨h1, h2, h3, h4⟩ := putSlots_at xs (n + 1) (S.put n (.s x))
    refine ⟨h1, h2, h3, fun i => ?_⟩
    show (putSlots xs (n + 1) (S.put n (.s x))).sl i = _
    rw [h4]
    by_cases hi : n + 1 ≤ i
    · rw [if_pos hi, if_pos (by omega), show i - n = (i - (n + 1)) + 1 by omega, List.getElem?_cons_succ]
      have : (S.put n (.s x)).sl i = S.sl i := by show (if i = n then _ else S.sl i) = _; rw [if_neg (by omega)]
      rw [this]
    · rw [if_neg hi]
      by_cases hin : i = n
      · subst hin
        rw [if_pos (Nat.le_refl _), Nat.sub_self]
        show (if i = i then SV.s x else S.sl i) = _
        rw [if_pos rfl]; rfl
      · rw [if_neg (by omega)]
        show (if i = n then _ else S.sl i) = _
        rw [if_neg hin]
theorem RowsOk.len {w : World} {K : Nat → Prop} : ∀ {ms : List Nat} {rs F}, RowsOk w K ms rs F → rs.length = ms.length
  | [], _, _, h => by rw [h.1]; rfl
  | _ :: _, _, _, ⟨_, _, _, _, _, _, _, e1, _, _, _, _, h⟩ => by rw [e1]; simp [RowsOk.len h]
theorem All2.map_right {α β : Type} {p : α → β → Prop} {as bs} (h : All2 p as bs) {i : Nat} {x : β} (hx : bs[i]? = some x) : ∃ a, as[i]? = some a ∧ p a x := by
  have hlt : i < as.length := by rw [h.len]; exact (List.getElem?_eq_some_iff.1 hx).1
  obtain ⟨y, hy, hp⟩ := h.get (List.getElem?_eq_getElem hlt)
  rw [hx] at hy
  injection hy with hy
  subst hy
  exact ⟨_, List.getElem?_eq_getElem hlt, hp⟩
theorem start_ok {N : Nat} {as : List A1} {rows : List (List ALeaf)} {S : St} (h : start N as rows = some S) {w : World} {vals : List Value} {Ro : Nat → Prop} {ms F1 F2 : List Nat} (hA : FL (A1Ok w Ro ms) as vals F1) (hR : RowsOk w Ro ms rows F2)
    (hnd : (ms ++ (F1 ++ F2)).Nodup) (hlt : ∀ g, g ∈ ms ++ (F1 ++ F2) → g < w.heap.size ∧ ¬ Ro g) (hN : vals.length ≤ N) (fx : List (Nat × Value)) (hfx : ∀ p, p ∈ fx → vals[p.1]? = some p.2) :
    Sim ⟨w, Ro, fun g => g ∈ ms ++ (F1 ++ F2), N + 1, ms, fx⟩ N S ⟨vals.toArray ++ Array.replicate (N - vals.length) undef, []⟩ w := by
  unfold start at h
  split at h
  · rename_i vs rs hv hr
    split at h
    · rename_i hu
      injection h with h
      have hlen := hR.len
      generalize hK : (List.range rows.length).map (N + 1 + ·) = K at hv hr
      let mb : Nat → Nat := fun κ => ms.getD (κ - (N + 1)) 0
      have hmb : K.map mb = ms := by
        rw [← hK, List.map_map, hlen]
        apply List.ext_getElem?
        intro i
        rw [List.getElem?_map]
        by_cases hi : i < ms.length
        · rw [List.getElem?_range hi]
          simp only [Option.map_some, Function.comp, mb]
          rw [Nat.add_sub_cancel_left, List.getD_eq_getElem?_getD, List.getElem?_eq_getElem hi]; rfl
        · rw [List.getElem?_eq_none (by simpa using Nat.le_of_not_lt hi), List.getElem?_eq_none (by omega)]; rfl
      have hKn : K.Nodup := by
        rw [← hK]
        exact List.Pairwise.map _ (fun a b h => by omega) List.nodup_range
      rw [← hmb] at hA hR
      obtain ⟨n1, a1, a2⟩ := backVals_ok K mb as _ hA hv
      obtain ⟨b1, b2, n2, b3, b4⟩ := backRows_ok mb K rows _ hR hr
      rw [hmb] at hA hR
      have hall := a1.append b3
      have hnl : n1.length = vs.2.length := a1.len
      have hkeys := unlike_nodup hu
      have hFn : (F1 ++ F2).Nodup := (List.nodup_append.1 hnd).2.1
      generalize hl : vs.2 ++ rs.2 = l at *
      generalize hns : n1 ++ n2 = ns at *
      let news : Nat → Option New := fun k => find ((l.map (·.1)).zip ns) k
      let c : Cc := ⟨mb, fun k => match news k with | some n => n.h | none => undef, fun k => match news k with | some n => n.F | none => []⟩
      obtain ⟨o1, o2, o3, o4⟩ := ownsU_at l blank hkeys
      obtain ⟨m1, m2, m3, m4⟩ := msU_at rs.1 (blank.ups (ownsU l)) (by rw [b1]; exact hKn)
      obtain ⟨p1, p2, p3, p4⟩ := putSlots_at vs.1 0 ((blank.ups (ownsU l)).ups (rs.1.map fun p => .ms p.1 p.2))
      have how : ∀ k, S.ow k = match news k with | some n => some n.o | none => none := by
        intro k
        rw [← h, p1, m1, o4]
        have := news_find hall k
        refine Eq.trans ?_ this.symm
        cases find l k <;> rfl
      have hms : ∀ k, S.ms k = match find rs.1 k with | some r => some r.length | none => none := by
        intro k
        rw [← h, p2, m3, o1]; rfl
      have hmc : ∀ k i, S.mc k i = match find rs.1 k with | some r => r.getD i .no | none => .no := by
        intro k i
        rw [← h, p3, m4, o2]; rfl
      have hsl : ∀ i, S.sl i = match vs.1[i]? with | some x => .s x | none => .no := by
        intro i
        rw [← h, p4, if_pos (Nat.zero_le _), Nat.sub_zero, m2, o3]; rfl
      have hHv : Hv S c l ns := by
        intro k n hk
        have hf : news k = some n := find_mem (by rw [List.map_fst_zip (by rw [hall.len]; simp)]; exact hkeys) hk
        refine ⟨by rw [how, hf], ?_⟩
        show (match news k with | some n => n.h | none => undef) = _
        rw [hf]
      have hmsK : ∀ k, k ∈ K ↔ S.ms k ≠ none := by
        intro k
        rw [hms]
        constructor
        · intro hk
          rw [← b1] at hk
          obtain ⟨p, hp, rfl⟩ := List.mem_map.1 hk
          rw [find_mem (by rw [b1]; exact hKn) hp]; simp
        · intro hk
          cases hf : find rs.1 k with
          | none => rw [hf] at hk; exact absurd rfl hk
          | some r => rw [← b1]; exact List.mem_map.2 ⟨_, find_some_mem hf, rfl⟩
      have hnw : ∀ k, S.ow k ≠ none → ∃ n, news k = some n ∧ S.ow k = some n.o ∧ c.hv k = n.h ∧ c.F k = n.F := by
        intro k hk
        rw [how] at hk
        cases hf : news k with
        | none => rw [hf] at hk; exact absurd rfl hk
        | some n => exact ⟨n, rfl, by rw [how, hf], by show (match news k with | some n => n.h | none => undef) = _; rw [hf], by show (match news k with | some n => n.F | none => []) = _; rw [hf]⟩
      have hmbms : ∀ k, S.ms k ≠ none → c.mb k ∈ ms := fun k hk => by rw [← hmb]; exact List.mem_map.2 ⟨k, (hmsK k).2 hk, rfl⟩
      have hOw : ∀ g, Owned S c g → g ∈ ms ++ (F1 ++ F2) := by
        rintro g (⟨k, hk, rfl⟩ | ⟨k, hk, hg⟩)
        · exact List.mem_append.2 (.inl (hmbms k hk))
        · obtain ⟨n, k1, k2, k3, k4⟩ := hnw k hk
          rw [k4] at hg
          exact List.mem_append.2 (.inr ((news_in hall k n k1).2.1 g hg))
      have hKok : ∀ g, g < w.heap.size → Ro g → Kok ⟨w, Ro, fun g => g ∈ ms ++ (F1 ++ F2), N + 1, ms, fx⟩ S c g := fun g _ hg => ⟨.inl hg, fun ho => (hlt g (hOw g ho)).2 hg⟩
      have hmsN := (List.nodup_append.1 hnd).1
      have hdis := (List.nodup_append.1 hnd).2.2
      refine ⟨c, ⟨?_, ?_, ?_, ?_, ?_, ?_, ?_, fun _ _ _ => rfl, rfl, rfl, rfl, Nat.le_refl _, ?_⟩, ⟨fun i => ?_, ?_, rfl⟩, ?_⟩
      · intro k n hn
        have hk : S.ms k ≠ none := by rw [hn]; simp
        rw [hms] at hn
        cases hf : find rs.1 k with
        | none => rw [hf] at hn; cases hn
        | some row =>
          rw [hf] at hn
          simp only [Option.some.injEq] at hn
          have hb := hHv
          rw [← hl, ← hns] at hb
          obtain ⟨cs, e, fr, h1, h2, h3⟩ := b4 S c (Hv.right hnl hb) (k, row) (find_some_mem hf)
          refine ⟨cs, e, fr, h1, by rw [← hn, h3.len]; simp, h2, fun i u hu => ?_⟩
          obtain ⟨lf, q1, q2⟩ := All2.map_right h3 (by rw [Array.getElem?_toList]; exact hu)
          rw [hmc, hf]
          simp only
          rw [List.getD_eq_getElem?_getD, q1]
          exact LeafOk.mono hKok q2
      · intro k o ho
        obtain ⟨n, k1, k2, k3, k4⟩ := hnw k (by rw [ho]; simp)
        rw [ho] at k2
        injection k2 with k2
        subst k2
        rw [k3, k4]
        exact Rp.mono hKok _ _ (news_in hall k n k1).2.2.2
      · intro k hk
        obtain ⟨n, k1, k2, k3, k4⟩ := hnw k hk
        rw [k4]; exact (news_in hall k n k1).2.2.1 hFn
      · intro k k' hne h1 h2 g hg
        obtain ⟨n, k1, _, _, k4⟩ := hnw k h1
        obtain ⟨n', q1, _, _, q4⟩ := hnw k' h2
        rw [k4] at hg
        rw [q4]
        exact news_dis hall hFn k n k' n' hne k1 q1 g hg
      · intro k k' hne h1 h2 he
        have h1' := (hmsK k).2 h1
        have h2' := (hmsK k').2 h2
        rw [← hK] at h1' h2'
        obtain ⟨m, hm, rfl⟩ := List.mem_map.1 h1'
        obtain ⟨m', hm', rfl⟩ := List.mem_map.1 h2'
        have hm := List.mem_range.1 hm
        have hm' := List.mem_range.1 hm'
        have he' : ms.getD (N + 1 + m - (N + 1)) 0 = ms.getD (N + 1 + m' - (N + 1)) 0 := he
        rw [Nat.add_sub_cancel_left, Nat.add_sub_cancel_left, List.getD_eq_getElem?_getD, List.getD_eq_getElem?_getD, List.getElem?_eq_getElem (by omega), List.getElem?_eq_getElem (by omega)] at he'
        simp only [Option.getD_some] at he'
        have hpw := List.pairwise_iff_getElem.1 hmsN
        rcases Nat.lt_trichotomy m m' with h | h | h
        · exact hpw m m' (by omega) (by omega) h he'
        · exact hne (by rw [h])
        · exact hpw m' m (by omega) (by omega) h he'.symm
      · intro k k' h1 h2 hg
        obtain ⟨n, k1, _, _, k4⟩ := hnw k' h2
        rw [k4] at hg
        exact hdis _ (hmbms k h1) _ ((news_in hall k' n k1).2.1 _ hg) rfl
      · intro g hg
        have := hOw g hg
        exact ⟨(hlt g this).1, .inr this⟩
      · intro m g hg
        show ms.getD (N + 1 + m - (N + 1)) 0 = g
        rw [Nat.add_sub_cancel_left, List.getD_eq_getElem?_getD, hg]; rfl
      · have hb := hHv
        rw [← hl, ← hns] at hb
        have hsv := a2 S c (Hv.left hnl hb) (fun k hk => (hmsK k).1 hk) (fun _ _ => rfl)
        rw [hsl]
        cases hx : vs.1[i]? with
        | none => trivial
        | some x =>
          obtain ⟨v, hv1, hv2⟩ := hsv.get hx
          have hlt' : i < vals.length := (List.getElem?_eq_some_iff.1 hv1).1
          have : (vals.toArray ++ Array.replicate (N - vals.length) undef).getD i undef = v := by
            rw [Array.getD_eq_getD_getElem?, Array.getElem?_append_left (by simpa using hlt'), List.getElem?_toArray, hv1]; rfl
          rw [this]
          exact S1Ok.mono hKok hv2
      · simp only [Array.size_append, List.size_toArray, Array.size_replicate]; omega
      · intro p hp
        have hp' := hfx p hp
        rw [Array.getD_eq_getD_getElem?, Array.getElem?_append_left (by simpa using (List.getElem?_eq_some_iff.1 hp').1), List.getElem?_toArray, hp']; rfl
    · cases h
  · cases h
theorem outLents_ok {b : Base} {S : St} {c : Cc} {w : World} {N : Nat} {a : Act} (hi : Inv b S w c) (hs : Slots N S c w (Kok b S c) a) {vals : List Value} : ∀ (ln : List (Nat × Nat)) {y : List ((Nat × Nat) × ALeaf) × List Nat},
    (∀ p, p ∈ ln → vals[p.1]? = some (a.tmps.getD p.1 undef)) → (outLents S ln).ev S = some y → ∃ G, LentOk w (Kok b S c) vals y.1 G ∧ Outs S c y.2 G
  | [], y, _, h => by
    simp only [outLents, Tr.ev, Option.some.injEq] at h
    subst h
    exact ⟨[], rfl, Outs.nil⟩
  | p :: ps, y, hv, h => by
    simp only [outLents] at h
    split at h
    · rename_i k hlf
      simp only [ev_bind, Option.bind_eq_some_iff, Tr.ev, Option.some.injEq] at h
      obtain ⟨o, ho, y', hy', rfl⟩ := h
      obtain ⟨G2, h1, h2⟩ := outLents_ok hi hs ps (fun q hq => hv q (by simp [hq])) hy'
      have hvp := hv p (by simp)
      obtain ⟨v, hval, hlk⟩ : ∃ v, valAt vals p = some v ∧ LeafOk S c w (Kok b S c) (.vw k [] none) v := by
        unfold lentAt at hlf
        have hok := hs.ok p.1
        split at hlf
        · rename_i l hl
          rw [hl] at hok
          split at hlf
          · rename_i hp2
            subst hlf
            have hsl : LeafOk S c w (Kok b S c) (.vw k [] none) (a.tmps.getD p.1 undef) := hok
            refine ⟨_, ?_, hsl⟩
            obtain ⟨A, n, cap, e⟩ := vw_slice hi hsl
            unfold valAt
            rw [hvp, e]
            simp [hp2]
          · cases hlf
        · rename_i ls hl
          rw [hl] at hok
          obtain ⟨vs, e, hall⟩ := hok
          rw [List.getD_eq_getElem?_getD] at hlf
          cases hj : ls[p.2]? with
          | none => rw [hj] at hlf; cases hlf
          | some l =>
            rw [hj] at hlf
            simp only [Option.getD_some] at hlf
            subst hlf
            obtain ⟨v, q1, q2⟩ := hall.get hj
            refine ⟨v, ?_, q2⟩
            unfold valAt
            rw [hvp, e]
            simpa using q1
        · cases hlf
      obtain ⟨g1, F', g2, g3, g4⟩ := view_own hi hlk ho
      refine ⟨F' ++ G2, ⟨v, F', G2, rfl, hval, ⟨g2, fun h => by simp [Ty.own] at h⟩, h1⟩, ?_⟩
      exact Outs.append hi (k := [k]) ⟨fun k' hk' => (by simp only [List.mem_singleton] at hk'; subst hk'; exact g1), fun _ => g4, fun g hg => ⟨k, by simp, g3 g hg⟩⟩ h2
    · simp [Tr.ev] at h
theorem vfun_ok {P : Program} {E : Env} (hE : EnvOk P E) {f : FuncId} {fn : Func} {J : Joins} {ann : Ann} {ln : List (Nat × Nat)} {as : List A1} {rows : List (List ALeaf)} {r : Res} (hf : P.funcs[f]? = some fn) (hname : (fn.name == "runtime.NumGoroutine") = false)
    (h : (vfun E fn J ann ln as rows).run = some r) : CallSound P f as rows r := by
  unfold vfun at h
  split at h
  · rename_i c hb
    split at h
    · rename_i hlen
      obtain ⟨hlen, hln⟩ := hlen
      split at h
      · rename_i S hS
        rw [run_bind, Option.bind_eq_some_iff] at h
        obtain ⟨⟨e, S1⟩, h1, h2⟩ := h
        refine ⟨⟨fn, hf, hname, by rw [hb]; rfl⟩, ?_⟩
        intro w vals Ro ms F1 F2 hA hR hnd hlt
        have hvl := hA.len
        generalize hfx : (vals.zipIdx.filter fun p => E.fx.contains p.2).map (fun p => (p.2, p.1)) = fx
        have hfx1 : ∀ i v, (i, v) ∈ fx ↔ vals[i]? = some v ∧ E.fx.contains i = true := by
          intro i v
          rw [← hfx]
          simp only [List.mem_map, List.mem_filter, Prod.exists, Prod.mk.injEq]
          constructor
          · rintro ⟨x, j, ⟨h1, h2⟩, rfl, rfl⟩
            exact ⟨by simpa using List.mk_mem_zipIdx_iff_getElem?.1 h1, h2⟩
          · rintro ⟨h1, h2⟩
            exact ⟨v, i, ⟨List.mk_mem_zipIdx_iff_getElem?.2 (by simpa using h1), h2⟩, rfl, rfl⟩
        have hF : ∀ p, p ∈ fx → E.fx.contains p.1 = true := fun p hp => ((hfx1 p.1 p.2).1 hp).2
        have hsim := start_ok hS hA hR hnd hlt (by omega) fx (fun p hp => ((hfx1 p.1 p.2).1 hp).1)
        have hml := hR.len
        have hfin : ∀ a' w', Sim ⟨w, Ro, fun g => g ∈ ms ++ (F1 ++ F2), fn.ntmps + 1, ms, fx⟩ fn.ntmps S1 a' w' → (finish E fn.ntmps fn rows ln S1).run = some r →
            a'.defers = [] ∧ ∃ v, (results fn a'.tmps).run P w' = .ok v w' ∧ ∃ v', Ending.returned v = .returned v' ∧ CallPost w Ro ms (F1 ++ F2) vals r v' w' := by
          rintro a' w' ⟨c', hi, hsl, hafx⟩ hfi
          refine ⟨hsl.d, ?_⟩
          unfold finish at hfi
          rw [run_bind, Option.bind_eq_some_iff] at hfi
          obtain ⟨⟨⟨y1, y2, y3⟩, lg⟩, g1, g2⟩ := hfi
          split at g2
          · rename_i hu
            simp only [Tr.run, Option.some.injEq] at g2
            subst g2
            have g3 := at_ev S1 _ [] g1
            rw [ev_bind, Option.bind_eq_some_iff] at g3
            obtain ⟨z1, hz1, g3⟩ := g3
            rw [ev_bind, Option.bind_eq_some_iff] at g3
            obtain ⟨z2, hz2, g3⟩ := g3
            rw [ev_bind, Option.bind_eq_some_iff] at g3
            obtain ⟨z3, hz3, g3⟩ := g3
            simp only [Tr.ev, Option.some.injEq, Prod.mk.injEq] at g3
            obtain ⟨e1, e2, e3⟩ := g3
            subst e1 e2 e3
            obtain ⟨vs, G1, k1, k2, k3⟩ := outVals_ok (P := P) hE.ti rfl hml.symm hi hsl _ _ hz1
            obtain ⟨q0, G2, q1, q2⟩ := outRows_ok hi rfl rows 0 ms hml.symm (fun j g hg => by rw [Nat.zero_add]; exact hg) hz2
            obtain ⟨G3, r1, r2⟩ := outLents_ok hi hsl (vals := vals) ln (fun p hp => by
              have := List.all_eq_true.1 hln p hp
              simp only [Bool.and_eq_true, decide_eq_true_eq] at this
              have hlv : p.1 < vals.length := by omega
              have hm := (hfx1 p.1 vals[p.1]).2 ⟨List.getElem?_eq_getElem hlv, this.1⟩
              rw [hafx _ hm]
              exact List.getElem?_eq_getElem hlv) hz3
            have hout := Outs.append hi k3 (Outs.append hi q2 r2)
            have hmsO : ∀ g, g ∈ ms → ∃ k, S1.ms k ≠ none ∧ c'.mb k = g := by
              intro g hg
              obtain ⟨m, hm, hmg⟩ := List.getElem_of_mem hg
              have h3 : ms[m]? = some g := by rw [List.getElem?_eq_getElem hm, hmg]
              refine ⟨fn.ntmps + 1 + m, ?_, hi.an m g h3⟩
              have := q0 m (by omega)
              rwa [Nat.add_zero] at this
            have hGO : ∀ g, g ∈ G1 ++ (G2 ++ G3) → ∃ k, S1.ow k ≠ none ∧ g ∈ c'.F k := by
              intro g hg
              obtain ⟨k, h3, h4⟩ := hout.2.2 g hg
              exact ⟨k, hout.1 k h3, h4⟩
            have hKK : ∀ g, g < w'.heap.size → Kok ⟨w, Ro, fun g => g ∈ ms ++ (F1 ++ F2), fn.ntmps + 1, ms, fx⟩ S1 c' g → ((Ro g ∨ w.heap.size ≤ g ∨ g ∈ F1 ++ F2) ∧ g ∉ ms ++ (G1 ++ (G2 ++ G3))) := by
              rintro g _ ⟨h3, h4⟩
              have hnm : g ∉ ms := fun hg => by
                obtain ⟨k, h5, h6⟩ := hmsO g hg
                exact h4 (.inl ⟨k, h5, h6⟩)
              refine ⟨h3.imp id fun h3 => h3.imp id fun h3 => (List.mem_append.1 h3).elim (fun hg => absurd hg hnm) id, fun hg => ?_⟩
              rcases List.mem_append.1 hg with hg | hg
              · obtain ⟨k, h5, h6⟩ := hmsO g hg
                exact h4 (.inl ⟨k, h5, h6⟩)
              · obtain ⟨k, h5, h6⟩ := hGO g hg
                exact h4 (.inr ⟨k, h5, h6⟩)
            have hres : (results fn a'.tmps).run P w' = .ok (tupledV vs) w' := by
              have he : results fn a'.tmps = (do let vs ← fn.results.mapM (readRes a'.tmps); pure (if h : vs.size = 1 then vs[0] else .tuple vs)) := rfl
              have hm : (fn.results.mapM (readRes a'.tmps)).run P w' = .ok vs.toArray w' := by
                rw [Array.mapM_eq_mapM_toList]
                simp [k1]
              rw [he]
              rw [Sem.run_bind, hm]
              simp only [Result.andThen_ok, Sem.run_pure]
              congr 1
              match vs with
              | [] => rfl
              | [v] => rfl
              | _ :: _ :: _ => rfl
            refine ⟨_, hres, _, rfl, vs, G1, G2, G3, rfl, k2.mono fun _ _ _ h => A1Ok.mono hKK h, RowsOk.mono hKK q1, LentOk.mono hKK r1, ?_, ?_, ?_⟩
            · refine List.nodup_append.2 ⟨(List.nodup_append.1 hnd).1, hout.2.1 hu, ?_⟩
              rintro g hg g' hg' rfl
              obtain ⟨k, h5, h6⟩ := hmsO g hg
              obtain ⟨k', h7, h8⟩ := hGO g hg'
              exact hi.mo k k' h5 h7 (by rw [h6]; exact h8)
            · intro g hg
              obtain ⟨k, h5, h6⟩ := hGO g hg
              obtain ⟨h7, h8⟩ := hi.fr g (.inr ⟨k, h5, h6⟩)
              refine ⟨h7, ?_⟩
              rcases h8 with h8 | h8
              · exact .inr h8
              · rcases List.mem_append.1 h8 with h8 | h8
                · obtain ⟨k', h9, h10⟩ := hmsO g h8
                  exact absurd h6 (h10 ▸ hi.mo k' k h9 h5)
                · exact .inl h8
            · exact ⟨hi.os, hi.tape, hi.output, hi.size, fun g hg hn => hi.fix g hg hn⟩
          · simp [Tr.run] at g2
        refine calls_of_wp hf hb ?_
        rw [List.size_toArray]
        obtain ⟨S0, h0, hw⟩ := joined_ok (b := ⟨w, Ro, fun g => g ∈ ms ++ (F1 ++ F2), fn.ntmps + 1, ms, fx⟩) (N := fn.ntmps) h1
        refine vcode_ok hE hF (b := ⟨w, Ro, fun g => g ∈ ms ++ (F1 ++ F2), fn.ntmps + 1, ms, fx⟩) (Nat.lt_succ_self _) c h0 hsim fun a' w' hs'' => ?_
        have hs' := hw hs''
        cases e with
        | n => exact hfin a' w' hs' h2
        | r => exact hfin a' w' hs' h2
        | x id => simp [Tr.run] at h2
      · simp [Tr.run] at h
    · simp [Tr.run] at h
  · simp [Tr.run] at h
end Go.V

namespace Go.V
open Go.ChangeShapes Go.RowKit
theorem law_calls {P : Program} {f : FuncId} {as : List A1} {vals : List Value} {w : World} (h : CallSound P f as [] ⟨[.one ⟨.bool, true⟩], [], []⟩) (ha : FL (A1Ok w (fun _ => True) []) as vals []) :
    Calls P f vals.toArray w fun e w' => e = .returned (.bool true) ∧ Below w.heap.size w w' := by
  refine Calls.mono (h.2 w vals (fun _ => True) [] [] [] ha ⟨rfl, rfl⟩ (by simp) (fun g hg => by simp at hg)) ?_
  rintro e w' ⟨v, rfl, vs, F1, F2, F3, rfl, h1, _, _, _, _, h5⟩
  obtain ⟨u, us, G1, G2, rfl, _, h6, h7⟩ := h1
  obtain ⟨rfl, _⟩ := h7
  have : u = .bool true := by
    have := h6.1
    simp only [Rp] at this
    have h8 := this.1
    injection h8
  subst this
  exact ⟨rfl, h5.os, h5.tape, h5.output, h5.size, fun k hk => h5.same k hk (by simp)⟩
end Go.V

namespace Go.V
structure Ans where
  β : Type
  o : Option β
  g : β → Res
structure Kn where
  f : FuncId
  mv : List Nat
  ca : List A1 → List (List ALeaf) → Option Ans
  fr : List (List Ty) := []
def mvOf : List Kn → FuncId → List Nat
  | [], _ => []
  | k :: l, g => if g = k.f then k.mv else mvOf l g
def frOf : List Kn → FuncId → List (List Ty)
  | [], _ => []
  | k :: l, g => if g = k.f then k.fr else frOf l g
def caOf : List Kn → FuncId → List A1 → List (List ALeaf) → Tr Res
  | [], _, _, _ => .fail
  | k :: l, g, as, rows => if g = k.f then match k.ca as rows with
      | some a => .get a.β a.o fun y => .ret (a.g y)
      | none => caOf l g as rows
    else caOf l g as rows
def envOf (ti : TypeId → TI) (l : List Kn) (fx : List Nat) : Env := ⟨ti, mvOf l, frOf l, fx, caOf l⟩
def KnOk (P : Program) (k : Kn) : Prop := ∀ as rows a, k.ca as rows = some a → ∀ y, a.o = some y → CallSound P k.f as rows (a.g y)
theorem caOf_ok {P : Program} : ∀ (l : List Kn), (∀ k ∈ l, KnOk P k) → ∀ f as rows S r, (caOf l f as rows).ev S = some r → CallSound P f as rows r
  | [], _, f, as, rows, S, r, h => by simp [caOf, Tr.ev] at h
  | k :: l, hk, f, as, rows, S, r, h => by
    rw [caOf] at h
    split at h
    · rename_i hf
      subst hf
      split at h
      · rename_i a ha
        simp only [Tr.ev, Option.bind_eq_some_iff, Option.some.injEq] at h
        obtain ⟨y, hy, rfl⟩ := h
        exact hk k (by simp) as rows a ha y hy
      · exact caOf_ok l (fun k h => hk k (by simp [h])) _ as rows S r h
    · exact caOf_ok l (fun k h => hk k (by simp [h])) f as rows S r h
theorem envOf_ok {P : Program} {ti : TypeId → TI} (ht : TabOk P ti) (hm : P.follows .mixedOrders = true) (l : List Kn) (fx : List Nat) (h : ∀ k ∈ l, KnOk P k) : EnvOk P (envOf ti l fx) :=
  ⟨ht, hm, fun f as rows S r hr => caOf_ok l h f as rows S r hr⟩
def allOk (P : Program) : List TI → Nat → Bool
  | [], _ => true
  | x :: l, n => tyOk P n x && allOk P l (n + 1)
theorem allOk_at {P : Program} : ∀ (l : List TI) (n : Nat), allOk P l n = true → ∀ t, tyOk P (n + t) (l.getD t .other) = true
  | [], n, _, t => by simp [tyOk]
  | x :: l, n, h, t => by
    simp only [allOk, Bool.and_eq_true] at h
    cases t with
    | zero => exact h.1
    | succ t => have := allOk_at l (n + 1) h.2 t; rw [show n + (t + 1) = n + 1 + t by omega]; exact this
theorem tabOf (P : Program) (l : List TI) (h : allOk P l 0 = true) : TabOk P (fun t => l.getD t .other) := fun t => by
  have := allOk_at l 0 h t; rwa [Nat.zero_add] at this
end Go.V

namespace Go.V
open Go.ChangeShapes Go.WideShapes Go.ChangeAt Go.RowKit
def Fits : (t : Ty) → t.D → Prop
  | .int k, n => (Lit.int k n).wf = true
  | .str, s => List.length s ≤ maxLen
  | .pair a b, x => Fits a x.1 ∧ Fits b x.2
  | .sl _ _ r, xs => List.length xs ≤ maxLen ∧ ∀ x ∈ (show List r.D from xs), Fits r x
  | _, _ => True
def rowOfF (ti : TypeId → TI) : List Field → Option (List Ty)
  | [] => some []
  | f :: fs => match (ti f.type).cells, rowOfF ti fs with
    | some a, some b => some (a ++ b)
    | _, _ => none
def offsF (ti : TypeId → TI) : List Field → Nat → Bool
  | [], _ => true
  | f :: fs, n => f.offset == n && offsF ti fs (n + (((ti f.type).cells).getD []).length)
def tyOk2 (P : Program) (ti : TypeId → TI) (t : TypeId) : TI → Bool
  | .slice e ts _ => decide ((ti e).cells = some ts)
  | .struct _ row _ => match P.underlying t with
    | some (.struct fields) => decide (rowOfF ti fields.toList = some row) && offsF ti fields.toList 0
    | _ => false
  | _ => true
def allOk2 (P : Program) (ti : TypeId → TI) : List TI → Nat → Bool
  | [], _ => true
  | x :: l, n => tyOk2 P ti n x && allOk2 P ti l (n + 1)
theorem allOk2_at {P : Program} {ti : TypeId → TI} : ∀ (l : List TI) (n : Nat), allOk2 P ti l n = true → ∀ t, tyOk2 P ti (n + t) (l.getD t .other) = true
  | [], n, _, t => by simp [tyOk2]
  | x :: l, n, h, t => by
    simp only [allOk2, Bool.and_eq_true] at h
    cases t with
    | zero => exact h.1
    | succ t => have := allOk2_at l (n + 1) h.2 t; rw [show n + (t + 1) = n + 1 + t by omega]; exact this
theorem tabOf2 (P : Program) (l : List TI) (h : allOk2 P (fun t => l.getD t .other) l 0 = true) : ∀ t, tyOk2 P (fun t => l.getD t .other) t (l.getD t .other) = true := fun t => by
  have := allOk2_at l 0 h t; rwa [Nat.zero_add] at this
section
variable {H : Type} {enc : TypeId × Value → H} {P : Program} {w : World} {ti : TypeId → TI}
abbrev Any : Nat → Prop := fun _ => True
theorem row_of : ∀ (ts : List Ty) (ls : List ALeaf) (cs : List Value), ls.map (·.1) = ts.map Ty.frz → FL (ALOk w Any) ls cs [] → (∀ l ∈ ls, Fits l.1 l.2) →
    ∃ x : (rowTy ts).frz.D, Rp w Any (rowTy ts).frz x cs [] ∧ Fits (rowTy ts).frz x
  | [], ls, cs, h1, h2, _ => by
    obtain rfl : ls = [] := by simpa using h1
    obtain ⟨rfl, _⟩ := h2
    exact ⟨(), ⟨rfl, rfl⟩, trivial⟩
  | [t], ls, cs, h1, h2, h3 => by
    match ls, h1, h2, h3 with
    | [⟨t', x⟩], h1, h2, h3 =>
      simp only [List.map_cons, List.map_nil, List.cons.injEq, and_true] at h1
      subst h1
      obtain ⟨v, vs, F1, F2, rfl, e, k1, rfl, rfl⟩ := h2
      obtain rfl : F1 = [] := by simpa using e.symm
      exact ⟨x, k1.1, h3 ⟨t.frz, x⟩ (by simp)⟩
  | t :: u :: ts, ls, cs, h1, h2, h3 => by
    match ls, h1, h2, h3 with
    | ⟨t', x⟩ :: ls, h1, h2, h3 =>
      simp only [List.map_cons, List.cons.injEq] at h1
      obtain ⟨e1, e2⟩ := h1
      subst e1
      obtain ⟨v, vs, F1, F2, rfl, e, k1, k2⟩ := h2
      obtain ⟨rfl, rfl⟩ : F1 = [] ∧ F2 = [] := by simpa using e.symm
      obtain ⟨y, k3, k4⟩ := row_of (u :: ts) ls vs (by simpa using e2) k2 (fun l hl => h3 l (by simp [hl]))
      exact ⟨(x, y), ⟨[v], vs, [], [], rfl, rfl, k1.1, k3⟩, h3 ⟨t.frz, x⟩ (by simp), k4⟩
theorem trod_open (hT : TabOk P ti) (hT2 : ∀ t, tyOk2 P ti t (ti t) = true) : ∀ (fuel : Nat) (t : TypeId) (cs : List Value) (ts : List Ty) {x : DataW H × List MemPlace}, (ti t).cells = some ts →
    DataW.trod enc P w 0 (fun _ => true) true fuel t cs = some x → ∃ ls : List ALeaf, ls.map (·.1) = ts.map Ty.frz ∧ FL (ALOk w Any) ls cs [] ∧ ∀ l ∈ ls, Fits l.1 l.2 := by
  intro fuel
  induction fuel with
  | zero => intro t cs ts x _ h; simp [DataW.trod] at h
  | succ n ih =>
    intro t cs ts x hts h
    cases ht : ti t with
    | cell u =>
      rw [ht] at hts
      simp only [TI.cells, Option.some.injEq] at hts
      subst hts
      obtain ⟨⟨d, hd, hdd⟩, _⟩ := hT.cell ht
      cases u with
      | int k =>
        cases d <;> simp [descIs] at hdd
        subst hdd
        obtain ⟨m, rfl, _, hw⟩ := DataW.trod_int hd h
        exact ⟨[⟨.int k, m⟩], rfl, ⟨_, [], [], [], rfl, rfl, ⟨⟨rfl, rfl⟩, fun _ => rfl⟩, rfl, rfl⟩, fun l hl => by rw [List.mem_singleton.1 hl]; exact hw⟩
      | bool =>
        cases d <;> simp [descIs] at hdd
        obtain ⟨m, rfl, _⟩ := DataW.trod_bool hd h
        exact ⟨[⟨.bool, m⟩], rfl, ⟨_, [], [], [], rfl, rfl, ⟨⟨rfl, rfl⟩, fun _ => rfl⟩, rfl, rfl⟩, fun l hl => by rw [List.mem_singleton.1 hl]; exact trivial⟩
      | str =>
        cases d <;> simp [descIs] at hdd
        obtain ⟨⟨⟨s⟩⟩, rfl, _, hs⟩ := DataW.trod_string hd h
        exact ⟨[⟨.str, s⟩], rfl, ⟨_, [], [], [], rfl, rfl, ⟨⟨rfl, rfl⟩, fun _ => rfl⟩, rfl, rfl⟩, fun l hl => by rw [List.mem_singleton.1 hl]; exact (show List.length s ≤ maxLen by simpa [ByteArray.size] using hs)⟩
      | unit => simp [descIs] at hdd
      | pair a b => simp [descIs] at hdd
      | sl o e r => simp [descIs] at hdd
    | slice e ts' bytes =>
      rw [ht] at hts
      simp only [TI.cells, Option.some.injEq] at hts
      subst hts
      obtain ⟨hu, _, _, hlen, i, z, hi, hsz, _⟩ := hT.slice ht
      have he : (ti e).cells = some ts' := by have := hT2 t; rw [ht] at this; simpa [tyOk2] using this
      have hce : P.cellsOf e = ts'.length := by simp [Program.cellsOf, hi, hsz]
      rcases DataW.trod_slice hu h with ⟨rfl, _⟩ | ⟨a, len, cap, elems, rest, m, hfm, rfl, _, _, hl, hm, hel, hels, _⟩
      · refine ⟨[⟨.sl false e (rowTy ts').frz, []⟩], rfl, ⟨_, [], [], [], rfl, rfl, ⟨?_, fun _ => rfl⟩, rfl, rfl⟩, fun l hl => by rw [List.mem_singleton.1 hl]; exact ⟨Nat.zero_le _, fun _ h => by cases h⟩⟩
        exact ⟨rfl, none, 0, [], rfl, Nat.le_refl _, ⟨rfl, rfl⟩, .inl rfl⟩
      · obtain rfl : n = m := by omega
        have key : ∀ q, q ≤ len → ∃ (xs : List (rowTy ts').frz.D) (ws : List Value), xs.length = q ∧ ws.length = q * ts'.length ∧ RpL (Rp w Any (rowTy ts').frz) xs ws [] ∧
            (∀ j, j < ws.length → w.cell? (a.add j) = ws[j]?) ∧ (∀ x ∈ xs, Fits (rowTy ts').frz x) := by
          intro q
          induction q with
          | zero => intro _; exact ⟨[], [], rfl, by simp, ⟨rfl, rfl⟩, fun j hj => by simp at hj, fun _ h => by cases h⟩
          | succ q ihq =>
            intro hq
            obtain ⟨xs, ws, h1, h2, h3, h4, h5⟩ := ihq (by omega)
            have hq' := hels q (by omega)
            rw [List.getElem?_eq_getElem (by omega), Option.bind_eq_some_iff] at hq'
            obtain ⟨cs', hcs, hy⟩ := hq'
            obtain ⟨ls, k1, k2, k3⟩ := ih e cs' ts' he hy
            obtain ⟨x, k4, k5⟩ := row_of ts' ls cs' k1 k2 k3
            obtain ⟨_, c2, c3⟩ := World.cells?_some hcs
            refine ⟨xs ++ [x], ws ++ cs', by simp [h1], ?_, ?_, ?_, ?_⟩
            · rw [List.length_append, h2, c2, hce, Nat.succ_mul]
            · have := h3.append (show RpL (Rp w Any (rowTy ts').frz) [x] cs' [] from ⟨cs', [], [], [], by simp, rfl, k4, rfl, rfl⟩)
              simpa using this
            · intro j hj
              by_cases hjw : j < ws.length
              · rw [h4 j hjw, List.getElem?_append_left hjw]
              · rw [List.getElem?_append_right (by omega)]
                have := c3 (j - ws.length) (by rw [List.length_append] at hj; omega)
                rw [← this]
                congr 1
                rw [hce, h2, Addr.add_add]
                congr 1; omega
            · intro y hy
              rcases List.mem_append.1 hy with hy | hy
              · exact h5 y hy
              · rw [List.mem_singleton.1 hy]; exact k5
        obtain ⟨xs, ws, h1, h2, h3, h4, h5⟩ := key len (Nat.le_refl _)
        have hxl : List.length xs = len := h1
        refine ⟨[⟨.sl false e (rowTy ts').frz, xs⟩], rfl, ⟨_, [], [], [], rfl, rfl, ⟨?_, fun _ => rfl⟩, rfl, rfl⟩, fun l hl => by rw [List.mem_singleton.1 hl]; exact ⟨show List.length xs ≤ maxLen by omega, h5⟩⟩
        refine ⟨rfl, some a, cap, ws, by rw [hxl], by rw [hxl]; exact hl, h3, ?_⟩
        rcases Nat.eq_zero_or_pos len with hz | hz
        · left; exact List.eq_nil_of_length_eq_zero (show List.length xs = 0 by omega)
        · right
          refine ⟨a, rfl, trivial, ?_, h4⟩
          have h0 := hels 0 hz
          rw [List.getElem?_eq_getElem (by omega), Option.bind_eq_some_iff] at h0
          obtain ⟨cs', hcs, _⟩ := h0
          have := World.cells?_block hcs (by rw [hce]; exact hlen)
          rwa [add_block] at this
    | struct fs row eq =>
      rw [ht] at hts
      simp only [TI.cells, Option.some.injEq] at hts
      subst hts
      obtain ⟨fields, hu, _, _, i, hi, hsz, _⟩ := hT.struct ht
      have h2 := hT2 t
      rw [ht] at h2
      simp only [tyOk2, hu, Bool.and_eq_true, decide_eq_true_eq] at h2
      obtain ⟨hr, ho⟩ := h2
      obtain ⟨xs, m, hfm, _, hcl, hxl, hf⟩ := DataW.trod_struct hu h
      obtain rfl : n = m := by omega
      have hcl' : cs.length = row.length := by rw [hcl]; simp [Program.cellsOf, hi, hsz]
      have key : ∀ (fl : List Field) (off : Nat) (row : List Ty), rowOfF ti fl = some row → offsF ti fl off = true → off + row.length = cs.length →
          (∀ f ∈ fl, ∃ y, DataW.trod enc P w 0 (fun _ => true) true n f.type ((cs.drop f.offset).take (P.cellsOf f.type)) = some y) →
          ∃ ls : List ALeaf, ls.map (·.1) = row.map Ty.frz ∧ FL (ALOk w Any) ls (cs.drop off) [] ∧ ∀ l ∈ ls, Fits l.1 l.2 := by
        intro fl
        induction fl with
        | nil =>
          intro off row h1 _ h3 _
          simp only [rowOfF, Option.some.injEq] at h1
          subst h1
          simp only [List.length_nil, Nat.add_zero] at h3
          exact ⟨[], rfl, ⟨by rw [h3]; simp, rfl⟩, fun _ h => by cases h⟩
        | cons f fl ihf =>
          intro off row h1 h2 h3 h4
          simp only [rowOfF] at h1
          split at h1
          · rename_i a b ha hb
            injection h1 with h1
            subst h1
            simp only [offsF, Bool.and_eq_true, beq_iff_eq, ha, Option.getD_some] at h2
            obtain ⟨ho, h2⟩ := h2
            rw [List.length_append] at h3
            obtain ⟨ls2, q1, q2, q3⟩ := ihf (off + a.length) b hb h2 (by omega) (fun g hg => h4 g (by simp [hg]))
            obtain ⟨y, hy⟩ := h4 f (by simp)
            obtain ⟨ls1, p1, p2, p3⟩ := ih _ _ a ha hy
            obtain ⟨i', hi', hsz', _⟩ := size_of hT ha
            have hc : P.cellsOf f.type = a.length := by simp [Program.cellsOf, hi', hsz']
            refine ⟨ls1 ++ ls2, by rw [List.map_append, List.map_append, p1, q1], ?_, ?_⟩
            · have := p2.append q2
              rw [ho, hc] at this
              rw [← List.drop_drop, List.take_append_drop] at this
              simpa using this
            · intro l hl
              rcases List.mem_append.1 hl with hl | hl
              · exact p3 l hl
              · exact q3 l hl
          · cases h1
      have := key fields.toList 0 row hr ho (by omega) (fun f hfm => by
        obtain ⟨j, hj⟩ := List.getElem?_of_mem hfm
        have hj' : fields[j]? = some f := by simpa using hj
        have hjl : j < fields.size := (Array.getElem?_eq_some_iff.1 hj').1
        rw [hf j f hj']
        exact ⟨_, List.getElem?_eq_getElem (by omega)⟩)
      simpa using this
    | ptr e => rw [ht] at hts; cases hts
    | other => rw [ht] at hts; cases hts
theorem leaf_cons {t : Ty} {ts : List Ty} : ∀ {ls : List ALeaf}, ls.map (·.1) = t :: ts → ∃ (x : t.D) (ls' : List ALeaf), ls = ⟨t, x⟩ :: ls' ∧ ls'.map (·.1) = ts
  | ⟨t', x⟩ :: ls, h => by
    simp only [List.map_cons, List.cons.injEq] at h
    obtain ⟨rfl, h⟩ := h
    exact ⟨x, ls, rfl, h⟩
theorem leaf_nil {ls : List ALeaf} (h : ls.map (·.1) = []) : ls = [] := by simpa using h
theorem kn_law {P : Program} {k : Kn} (h : KnOk P k) {args : List A1} {a : Ans} (ha : k.ca args [] = some a) {y : a.β} (hy : a.o = some y) (hr : a.g y = ⟨[.one ⟨.bool, true⟩], [], []⟩) : CallSound P k.f args [] ⟨[.one ⟨.bool, true⟩], [], []⟩ := hr ▸ h args [] a ha y hy
theorem open_one {r : Reach} {b0 : Nat} (hT : TabOk P ti) (hT2 : ∀ t, tyOk2 P ti t (ti t) = true) {t : TypeId} {u : Ty} {v : Value} {d : DataW H} {ps : List MemPlace} (hts : (ti t).cells = some [u]) (hag : (ti t).isAgg = false)
    (hval : Value.okWide P w r b0 t v) (h : DataW.Trod enc P w 0 (fun _ => true) true t v d ps) : ∃ x : u.frz.D, Fits u.frz x ∧ ∀ ms, A1Ok w Any ms (.one ⟨u.frz, x⟩) v [] := by
  obtain ⟨fuel, h⟩ := h
  obtain ⟨ls, h1, h2, h3⟩ := trod_open hT hT2 fuel t _ _ hts h
  match ls, h1, h2, h3 with
  | [⟨t', x⟩], h1, h2, h3 =>
    simp only [List.map_cons, List.map_nil, List.cons.injEq, and_true] at h1
    subst h1
    obtain ⟨v', vs, F1, F2, e1, e, k1, rfl, rfl⟩ := h2
    obtain rfl : F1 = [] := by simpa using e.symm
    refine ⟨x, h3 ⟨u.frz, x⟩ (by simp), fun ms => ?_⟩
    have : v.cells = #[v'] := Array.toList_inj.1 e1
    have hv : v = v' := by
      have h9 : v.cells = #[v] := by
        cases ht : ti t with
        | cell u' =>
          obtain ⟨⟨d', hd', hdd⟩, _⟩ := hT.cell ht
          cases u' <;> cases d' <;> first
            | (simp [descIs] at hdd; done)
            | (obtain ⟨n, rfl⟩ := okWide_int hd' hval; rfl)
            | (obtain ⟨n, rfl⟩ := okWide_bool hd' hval; rfl)
            | (obtain ⟨n, rfl⟩ := okWide_string hd' hval; rfl)
        | slice e ts' b =>
          obtain ⟨a, len, cap, rfl⟩ := okWide_slice (hT.slice ht).1 hval
          rfl
        | struct fs row eq => rw [ht] at hag; cases hag
        | ptr e => rw [ht] at hts; cases hts
        | other => rw [ht] at hts; cases hts
      rw [h9] at this
      simpa using this
    subst hv
    exact k1
theorem open_ag {r : Reach} {b0 : Nat} (hT : TabOk P ti) (hT2 : ∀ t, tyOk2 P ti t (ti t) = true) {t : TypeId} {ts : List Ty} {v : Value} {d : DataW H} {ps : List MemPlace} (hts : (ti t).cells = some ts) (hag : (ti t).isAgg = true)
    (hval : Value.okWide P w r b0 t v) (h : DataW.Trod enc P w 0 (fun _ => true) true t v d ps) : ∃ ls : List ALeaf, ls.map (·.1) = ts.map Ty.frz ∧ (∀ l ∈ ls, Fits l.1 l.2) ∧ ∀ ms, A1Ok w Any ms (.ag ls) v [] := by
  obtain ⟨fuel, h⟩ := h
  obtain ⟨ls, h1, h2, h3⟩ := trod_open hT hT2 fuel t _ _ hts h
  refine ⟨ls, h1, h3, fun ms => ?_⟩
  obtain ⟨i, _, _, ⟨d', hd', hdd⟩, _⟩ := size_of hT hts
  rw [hag] at hdd
  have : ∃ cs, v = .agg cs := by
    cases d' <;> simp [isAggD] at hdd <;> (simp only [Value.okWide, hd'] at hval; obtain ⟨cs, h, _⟩ := hval; exact ⟨cs, h⟩)
  obtain ⟨cs, rfl⟩ := this
  exact ⟨cs.toList, rfl, h2⟩
end
end Go.V

set_option linter.unusedVariables false
set_option linter.unusedSimpArgs false
set_option maxRecDepth 100000
namespace Go.V.G
open Go.V
theorem u8_of6 {n : Int} (h : Fits (.int .u8) n) : 0 ≤ n ∧ n ≤ 255 := by
  have h2 : (Lit.int .u8 n).wf = true := h
  simp [Lit.wf, IntKind.min, IntKind.max, IntKind.bits, IntKind.signed] at h2
  omega
theorem lft_low6 {n : Nat} {l : Int} (h : ¬ lft l n < 0) : ((n : Nat) : Int) ≤ l := by
  unfold lft at h
  split at h
  · assumption
  · exact absurd (by omega) h
theorem dropText_exact {b : Bls} {x y z : List Int} {root : Int} (f : FitS b x y z) (hu : ∀ c ∈ b, U8s c) : l_FnExactDropText b x y z root = some true := by
  unfold l_FnExactDropText
  rw [sz_Space f, Option.bind_some]
  by_cases hs : lft 1048576 (w_Space b x y z) < 0
  · rw [if_pos (by simpa using hs)]
  rw [if_neg (by simpa using hs)]
  have hw := lft_low6 hs
  have hsb : SB b x y z := by
    have e1 := w_ByteSS_len b
    have hw' := hw
    unfold w_Space w_IntS at hw'
    exact ⟨by omega, by omega, by omega⟩
  obtain ⟨r, hr1, hr2, hrw⟩ := dropText_eq (root := root) hsb hu
  have hto : l_toSpace b x y z = some (b, x, y, z) := to_Space (by omega)
  have heq : l_eqSpace b x y z b x y z = some true := eq_Space (by omega)
  have hcs : ((cSp b x y z : Nat) : Int) ≤ 1048576 := by
    have e1 := cb_ByteSS b; have e2 := cb_ByteS x; have e3 := cb_IntS y; have e4 := cb_IntS z
    have hw' := hw
    unfold w_Space w_ByteS w_IntS at hw'
    unfold cSp; omega
  have hmk : l_markSpace_l b x y z 1 = _ := mark_Space (by omega) (by omega) (by omega)
  have hn : ¬ ((1 : Int) + ((cSp b x y z : Nat) : Int) < 0) := by omega
  have hq : l_eqSpace r.2.1 r.2.2.1 r.2.2.2.1 r.2.2.2.2 r.2.1 r.2.2.1 r.2.2.2.1 r.2.2.2.2 = some true := eq_Space (by omega)
  have hm : l_markSpace_l r.2.1 r.2.2.1 r.2.2.2.1 r.2.2.2.2 1 = _ := mark_Space (by omega) (by omega) (by omega)
  have hh : l_heldSpace (mB r.2.1 1) (mX r.2.1 r.2.2.1 1) (mY r.2.1 r.2.2.1 r.2.2.2.1 1) (mZ r.2.1 r.2.2.1 r.2.2.2.1 r.2.2.2.2 1) 1 = _ := held_Space (by omega) (by omega) (by omega)
  have hn2 : ¬ ((1 : Int) + ((cSp r.2.1 r.2.2.1 r.2.2.2.1 r.2.2.2.2 : Nat) : Int) < 0) := by omega
  have hbn : ∀ c : Bool, (c != c) = false := fun c => by cases c <;> rfl
  simp only [hto, hr1, hr2, heq, hmk, hn, hq, hm, hh, hn2, hbn, Option.bind_some, Bool.not_true, Bool.false_eq_true, if_false, not_true_eq_false, decide_false]
end Go.V.G
namespace Go.Proofs.Ytggpihbcaebpjaa
open Go.V
theorem pure_FnExactDropText {e1 e2 e3 e4 e5 : TypeId} (x0 : List (List Int)) (x1 x2 x3 : List Int) (x4 : Int)
    (g0 : ∀ l ∈ ([⟨.sl false e1 (.sl false e2 (.int .u8)), x0⟩, ⟨.sl false e3 (.int .u8), x1⟩, ⟨.sl false e4 (.int .i64), x2⟩, ⟨.sl false e5 (.int .i64), x3⟩] : List ALeaf), Fits l.1 l.2) (g1 : Fits (.int .i64) x4) : G.l_FnExactDropText x0 x1 x2 x3 x4 = some true := by
  have h1 := g0 ⟨.sl false e1 (.sl false e2 (.int .u8)), x0⟩ (by simp)
  have h2 := g0 ⟨.sl false e3 (.int .u8), x1⟩ (by simp)
  have h3 := g0 ⟨.sl false e4 (.int .i64), x2⟩ (by simp)
  have h4 := g0 ⟨.sl false e5 (.int .i64), x3⟩ (by simp)
  exact G.dropText_exact ⟨⟨h1.1, fun c hc => (h1.2 c hc).1⟩, h2.1, h3.1, h4.1⟩ (fun c hc v hv => G.u8_of6 ((h1.2 c hc).2 v hv))
end Go.Proofs.Ytggpihbcaebpjaa
