/-
  S18: operations of a region may change places.
-/
import Derived.Test.YtdicgiljgelkfaaS17
namespace Go.V

/-! ### what is read alone matters -/
theorem callT_congr {E : Env} {d : Nat} {f : FuncId} {as bs : List (SV × TypeId)} (h : as = bs) : callT E d f as = callT E d f bs := by rw [h]

theorem core_congr (E : Env) (ρ ρ' : Operand → SV) (d : Nat) (op : Op) (h : ∀ x, x ∈ op.operands.toList → ρ x = ρ' x) : core E ρ d op = core E ρ' d op := by
  have pairs : ∀ ps : List (Nat × Operand), (∀ x, x ∈ ps.map (·.2) → ρ x = ρ' x) → (ps.map fun p => (p.1, ρ p.2)) = ps.map fun p => (p.1, ρ' p.2) := fun ps hp =>
    List.map_congr_left fun p hm => by rw [hp p.2 (List.mem_map.2 ⟨p, hm, rfl⟩)]
  cases op
  case build t ps => simp only [core, pairs ps.toList fun x hx => h x (by simpa [Op.operands] using hx)]
  case buildSlice t n ps => simp only [core, pairs ps.toList fun x hx => h x (by simpa [Op.operands] using hx)]
  case slice t x lo hi mx =>
    simp only [Op.operands] at h
    have h1 : ρ x = ρ' x := h x (by simp)
    have h2 : lo.map ρ = lo.map ρ' := by cases lo with | none => rfl | some y => simp only [Option.map_some]; rw [h y (by simp)]
    have h3 : hi.map ρ = hi.map ρ' := by cases hi with | none => rfl | some y => simp only [Option.map_some]; rw [h y (by simp)]
    have h4 : mx.map ρ = mx.map ρ' := by cases mx with | none => rfl | some y => simp only [Option.map_some]; rw [h y (by simp)]
    simp only [core, h1, h2, h3, h4]
  case call c =>
    obtain ⟨cal, as, ts⟩ := c
    have has : as.toList.map ρ = as.toList.map ρ' := List.map_congr_left fun x hx => h x (by
      cases cal <;> simp [Op.operands, Call.operands] <;> simp [Array.mem_toList_iff.1 hx])
    cases cal with
    | value f => cases f <;> simp only [core, has]
    | invoke r m => rfl
    | builtin b => cases b <;> simp only [core, has]
  all_goals first
    | rfl
    | (simp only [Op.operands, List.mem_cons, List.not_mem_nil, or_false, forall_eq_or_imp, forall_eq] at h; simp only [core, h]; done)

/-- the readings agree -/
def Ag (S S' : St) (l : List Lg) : Prop := ∀ x, x ∈ l → match x with | .o k => S.ow k = S'.ow k | .c k off _ => S.mc k off = S'.mc k off | .m k => S.ms k = S'.ms k

theorem at_sub {α : Type} (S : St) (t : Tr α) : ∀ (g : List Lg) {x : α} {l : List Lg}, (t.at S g).run = some (x, l) → ∀ y, y ∈ g → y ∈ l := by
  induction t with
  | ret a => intro g x l h; simp only [Tr.at, Tr.run, Option.some.injEq, Prod.mk.injEq] at h; rw [← h.2]; exact fun _ h => h
  | fail => intro g x l h; simp [Tr.at, Tr.run] at h
  | br c t e ih1 ih2 =>
    intro g x l h
    simp only [Tr.at, Tr.run] at h
    split at h
    · exact ih1 g h
    · exact ih2 g h
  | get γ o f ih =>
    intro g x l h
    simp only [Tr.at, run_get, Option.bind_eq_some_iff] at h
    obtain ⟨b, hb, h⟩ := h
    exact ih b g h
  | alt γ δ s f f' ih1 ih2 =>
    intro g x l h
    cases s with
    | inl b => exact ih1 b g h
    | inr b => exact ih2 b g h
  | rdO k f ih => intro g x l h y hy; exact ih _ _ h y (List.mem_cons_of_mem _ hy)
  | rdC k off f ih => intro g x l h y hy; exact ih _ _ h y (List.mem_cons_of_mem _ hy)
  | rdM k f ih => intro g x l h y hy; exact ih _ _ h y (List.mem_cons_of_mem _ hy)

theorem at_congr {α : Type} (S S' : St) (t : Tr α) : ∀ (g : List Lg) {x : α} {l : List Lg}, (t.at S g).run = some (x, l) → Ag S S' l → (t.at S' g).run = some (x, l) := by
  induction t with
  | ret a => intro g x l h _; exact h
  | fail => intro g x l h; simp [Tr.at, Tr.run] at h
  | br c t e ih1 ih2 =>
    intro g x l h ha
    simp only [Tr.at, Tr.run] at h ⊢
    split at h
    · rename_i hc; rw [if_pos hc]; exact ih1 g h ha
    · rename_i hc; rw [if_neg hc]; exact ih2 g h ha
  | get γ o f ih =>
    intro g x l h ha
    simp only [Tr.at, run_get, Option.bind_eq_some_iff] at h ⊢
    obtain ⟨b, hb, h⟩ := h
    exact ⟨b, hb, ih b g h ha⟩
  | alt γ δ s f f' ih1 ih2 =>
    intro g x l h ha
    cases s with
    | inl b => exact ih1 b g h ha
    | inr b => exact ih2 b g h ha
  | rdO k f ih =>
    intro g x l h ha
    replace h : ((f (S.ow k)).at S (.o k :: g)).run = some (x, l) := h
    have : S.ow k = S'.ow k := ha _ (at_sub S _ _ h (.o k) (by simp))
    show ((f (S'.ow k)).at S' (.o k :: g)).run = _
    rw [← this]
    exact ih _ _ h ha
  | rdC k off f ih =>
    intro g x l h ha
    replace h : ((f (S.mc k off)).at S (.c k off (S.mc k off) :: g)).run = some (x, l) := h
    have : S.mc k off = S'.mc k off := ha _ (at_sub S _ _ h (.c k off (S.mc k off)) (by simp))
    show ((f (S'.mc k off)).at S' (.c k off (S'.mc k off) :: g)).run = _
    rw [← this]
    exact ih _ _ h ha
  | rdM k f ih =>
    intro g x l h ha
    replace h : ((f (S.ms k)).at S (.m k :: g)).run = some (x, l) := h
    have : S.ms k = S'.ms k := ha _ (at_sub S _ _ h (.m k) (by simp))
    show ((f (S'.ms k)).at S' (.m k :: g)).run = _
    rw [← this]
    exact ih _ _ h ha

/-- the words of a cell bear what was read -/
def Sees (S : St) (l : List Lg) : Prop := ∀ k off x, Lg.c k off x ∈ l → S.mc k off = x
theorem at_sees {α : Type} (S : St) (t : Tr α) : ∀ (g : List Lg) {x : α} {l : List Lg}, Sees S g → (t.at S g).run = some (x, l) → Sees S l := by
  induction t with
  | ret a => intro g x l hg h; simp only [Tr.at, Tr.run, Option.some.injEq, Prod.mk.injEq] at h; rw [← h.2]; exact hg
  | fail => intro g x l _ h; simp [Tr.at, Tr.run] at h
  | br c t e ih1 ih2 =>
    intro g x l hg h
    simp only [Tr.at, Tr.run] at h
    split at h
    · exact ih1 g hg h
    · exact ih2 g hg h
  | get γ o f ih =>
    intro g x l hg h
    simp only [Tr.at, run_get, Option.bind_eq_some_iff] at h
    obtain ⟨b, hb, h⟩ := h
    exact ih b g hg h
  | alt γ δ s f f' ih1 ih2 =>
    intro g x l hg h
    cases s with
    | inl b => exact ih1 b g hg h
    | inr b => exact ih2 b g hg h
  | rdO k f ih => intro g x l hg h; exact ih _ _ (fun k' o' x' hx => by rcases List.mem_cons.1 hx with hx | hx; cases hx; exact hg _ _ _ hx) h
  | rdC k off f ih => intro g x l hg h; exact ih _ _ (fun k' o' x' hx => by
      rcases List.mem_cons.1 hx with hx | hx
      · injection hx with e1 e2 e3; subst e1 e2 e3; rfl
      · exact hg _ _ _ hx) h
  | rdM k f ih => intro g x l hg h; exact ih _ _ (fun k' o' x' hx => by rcases List.mem_cons.1 hx with hx | hx; cases hx; exact hg _ _ _ hx) h

/-! ### what falls, twice -/
theorem Leaf.kp_kp (c c' : List Kl) (l : Leaf) : (l.kp c).kp c' = (l.kp c').kp c := by
  cases l with
  | vw k st win =>
    by_cases h1 : c.all (fun x => x.okV k st) = true <;> by_cases h2 : c'.all (fun x => x.okV k st) = true <;> simp only [Leaf.kp, h1, h2, if_true] <;> rfl
  | _ => rfl
theorem S1.kp_kp (c c' : List Kl) (x : S1) : (x.kp c).kp c' = (x.kp c').kp c := by
  cases x with
  | one l => simp only [S1.kp, Leaf.kp_kp c c' l]
  | ag ls => simp only [S1.kp, List.map_map]; congr 1; apply List.map_congr_left; intro l _; exact Leaf.kp_kp c c' l
  | pl k off => by_cases h1 : c.all (fun x => x.okM k) = true <;> by_cases h2 : c'.all (fun x => x.okM k) = true <;> simp only [S1.kp, h1, h2, if_true] <;> rfl
  | el k st => by_cases h1 : c.all (fun x => x.okE k st) = true <;> by_cases h2 : c'.all (fun x => x.okE k st) = true <;> simp only [S1.kp, h1, h2, if_true] <;> rfl
  | rp t x off => rfl
theorem SV.kp_kp (c c' : List Kl) (x : SV) : (x.kp c).kp c' = (x.kp c').kp c := by
  cases x with
  | s x => simp only [SV.kp, S1.kp_kp c c' x]
  | tu xs => simp only [SV.kp, List.map_map]; congr 1; apply List.map_congr_left; intro l _; exact S1.kp_kp c c' l
  | un => rfl
  | no => rfl

theorem Leaf.kp_safe {c : List Kl} {l : Leaf} (h : l.safe c = true) : l.kp c = l := by
  cases l with
  | vw k st win => simp only [Leaf.safe] at h; simp only [Leaf.kp, h, if_true]
  | _ => rfl
theorem map_id_of {α : Type} {f : α → α} : ∀ {l : List α}, (∀ x, x ∈ l → f x = x) → l.map f = l
  | [], _ => rfl
  | x :: l, h => by rw [List.map_cons, h x (by simp), map_id_of fun y hy => h y (by simp [hy])]
theorem S1.kp_safe {c : List Kl} {x : S1} (h : x.safe c = true) : x.kp c = x := by
  cases x with
  | one l => simp only [S1.safe] at h; simp only [S1.kp, Leaf.kp_safe h]
  | ag ls => simp only [S1.safe, List.all_eq_true] at h; simp only [S1.kp]; rw [map_id_of fun l hl => Leaf.kp_safe (h l hl)]
  | pl k off => simp only [S1.safe] at h; simp only [S1.kp, h, if_true]
  | el k st => simp only [S1.safe] at h; simp only [S1.kp, h, if_true]
  | rp t x off => rfl
theorem SV.kp_safe {c : List Kl} {x : SV} (h : x.safe c = true) : x.kp c = x := by
  cases x with
  | s x => simp only [SV.safe] at h; simp only [SV.kp, S1.kp_safe h]
  | tu xs => simp only [SV.safe, List.all_eq_true] at h; simp only [SV.kp]; rw [map_id_of fun l hl => S1.kp_safe (h l hl)]
  | un => rfl
  | no => rfl
theorem Leaf.kp_whole {c : List Kl} {l : Leaf} (h : (l.kp c).whole = true) : l.kp c = l := by
  cases l with
  | vw k st win =>
    simp only [Leaf.kp] at h ⊢
    split
    · rfl
    · rename_i hc; rw [if_neg hc] at h; cases h
  | _ => rfl
theorem S1.kp_whole {c : List Kl} {x : S1} (h : (x.kp c).whole = true) : x.kp c = x := by
  cases x with
  | one l => simp only [S1.kp, S1.whole] at h ⊢; rw [Leaf.kp_whole h]
  | ag ls =>
    simp only [S1.kp, S1.whole, List.all_eq_true] at h ⊢
    rw [map_id_of fun l hl => Leaf.kp_whole (h (l.kp c) (List.mem_map.2 ⟨l, hl, rfl⟩))]
  | pl k off =>
    simp only [S1.kp] at h ⊢
    split
    · rfl
    · rename_i hc; rw [if_neg hc] at h; cases h
  | el k st =>
    simp only [S1.kp] at h ⊢
    split
    · rfl
    · rename_i hc; rw [if_neg hc] at h; cases h
  | rp t x off => rfl
theorem SV.kp_whole {c : List Kl} {x : SV} (h : (x.kp c).whole = true) : x.kp c = x := by
  cases x with
  | s x => simp only [SV.kp, SV.whole] at h ⊢; rw [S1.kp_whole h]
  | tu xs =>
    simp only [SV.kp, SV.whole, List.all_eq_true] at h ⊢
    rw [map_id_of fun l hl => S1.kp_whole (h (l.kp c) (List.mem_map.2 ⟨l, hl, rfl⟩))]
  | un => rfl
  | no => rfl

/-! ### states, turned in two ways -/
theorem St.ext' {S S' : St} (h1 : ∀ i, S.sl i = S'.sl i) (h2 : ∀ k, S.ms k = S'.ms k) (h3 : ∀ k i, S.mc k i = S'.mc k i) (h4 : ∀ k, S.ow k = S'.ow k) : S = S' := by
  obtain ⟨a, b, c, d⟩ := S
  obtain ⟨a', b', c', d'⟩ := S'
  simp only at h1 h2 h3 h4
  rw [funext h1, funext h2, funext h4, show c = c' from funext fun k => funext fun i => h3 k i]
theorem St.kp_kp (S : St) (c c' : List Kl) : (S.kp c).kp c' = (S.kp c').kp c :=
  St.ext' (fun i => by simp only [kp_sl, SV.kp_kp c c']) (fun k => by simp only [kp_ms]) (fun k i => by simp only [kp_mc, Leaf.kp_kp c c']) (fun k => by simp only [kp_ow])
theorem up_kp (S : St) (c : List Kl) {u : U} (h : u.safe c = true) : (S.up u).kp c = (S.kp c).up u := by
  have hsl : ∀ i, ((S.up u).kp c).sl i = ((S.kp c).up u).sl i := by
    intro i
    rw [kp_sl]
    have e1 : (S.up u).sl i = S.sl i := by cases u <;> rfl
    have e2 : ((S.kp c).up u).sl i = (S.kp c).sl i := by cases u <;> rfl
    rw [e1, e2, kp_sl]
  cases u with
  | ow k o =>
    refine St.ext' hsl (fun i => ?_) (fun i j => ?_) (fun i => ?_)
    · rw [kp_ms]; show S.ms i = (S.kp c).ms i; rw [kp_ms]
    · rw [kp_mc]; show (S.mc i j).kp c = (S.kp c).mc i j; rw [kp_mc]
    · rw [kp_ow]; show (if i = k then o else S.ow i) = (if i = k then o else (S.kp c).ow i); rw [kp_ow]
  | mc k off l =>
    refine St.ext' hsl (fun i => ?_) (fun i j => ?_) (fun i => ?_)
    · rw [kp_ms]; show S.ms i = (S.kp c).ms i; rw [kp_ms]
    · rw [kp_mc]
      show (if i = k then (if j = off then l else S.mc i j) else S.mc i j).kp c = (if i = k then (if j = off then l else (S.kp c).mc i j) else (S.kp c).mc i j)
      rw [kp_mc]
      split
      · split
        · exact Leaf.kp_safe h
        · rfl
      · rfl
    · rw [kp_ow]; show S.ow i = (S.kp c).ow i; rw [kp_ow]
  | ms k row =>
    refine St.ext' hsl (fun i => ?_) (fun i j => ?_) (fun i => ?_)
    · rw [kp_ms]; show (if i = k then some row.length else S.ms i) = (if i = k then some row.length else (S.kp c).ms i); rw [kp_ms]
    · rw [kp_mc]
      show (if i = k then row.getD j .no else S.mc i j).kp c = (if i = k then row.getD j .no else (S.kp c).mc i j)
      rw [kp_mc]
      split
      · simp only [U.safe, List.all_eq_true] at h
        rw [List.getD_eq_getElem?_getD]
        cases hr : row[j]? with
        | none => rfl
        | some l => exact Leaf.kp_safe (h l (List.mem_of_getElem? hr))
      · rfl
    · rw [kp_ow]; show S.ow i = (S.kp c).ow i; rw [kp_ow]
theorem ups_kp (c : List Kl) : ∀ (us : List U) (S : St), us.all (U.safe c) = true → (S.ups us).kp c = (S.kp c).ups us
  | [], _, _ => rfl
  | u :: us, S, h => by
    simp only [List.all_cons, Bool.and_eq_true] at h
    show ((S.up u).ups us).kp c = ((S.kp c).up u).ups us
    rw [ups_kp c us _ h.2, up_kp S c h.1]
theorem up_up (S : St) {u v : U} (h : u.meets v = false) : (S.up u).up v = (S.up v).up u := by
  cases u <;> cases v <;> simp only [U.meets, Bool.and_eq_false_iff, beq_eq_false_iff_ne] at h <;> (refine St.ext' (fun i => rfl) (fun i => ?_) (fun i j => ?_) (fun i => ?_)) <;> simp only [St.up] <;> (repeat' split) <;> simp_all
theorem up_ups {u : U} : ∀ (vs : List U) (S : St), vs.all (fun v => !u.meets v) = true → (S.up u).ups vs = (S.ups vs).up u
  | [], _, _ => rfl
  | v :: vs, S, h => by
    simp only [List.all_cons, Bool.and_eq_true, Bool.not_eq_true'] at h
    show ((S.up u).up v).ups vs = ((S.up v).ups vs).up u
    rw [up_up S h.1, up_ups vs _ (by simpa using h.2)]
theorem ups_ups : ∀ (us vs : List U) (S : St), us.all (fun u => vs.all fun v => !u.meets v) = true → (S.ups us).ups vs = (S.ups vs).ups us
  | [], _, _, _ => rfl
  | u :: us, vs, S, h => by
    simp only [List.all_cons, Bool.and_eq_true] at h
    show ((S.up u).ups us).ups vs = ((S.ups vs).up u).ups us
    rw [ups_ups us vs _ (by simpa using h.2), up_ups vs S h.1]
theorem putO_kp (S : St) (d : Option Nat) (x : SV) (c : List Kl) (h : x.safe c = true) : (S.putO d x).kp c = (S.kp c).putO d x := by
  cases d with
  | none => rfl
  | some d =>
    refine St.ext' (fun i => ?_) (fun i => ?_) (fun i j => ?_) (fun i => ?_)
    · rw [kp_sl]
      show (if i = d then x else S.sl i).kp c = (if i = d then x else (S.kp c).sl i)
      rw [kp_sl]
      split
      · exact SV.kp_safe h
      · rfl
    · rw [kp_ms]; show S.ms i = (S.kp c).ms i; rw [kp_ms]
    · rw [kp_mc]; show (S.mc i j).kp c = (S.kp c).mc i j; rw [kp_mc]
    · rw [kp_ow]; show S.ow i = (S.kp c).ow i; rw [kp_ow]
theorem putO_up (S : St) (d : Option Nat) (x : SV) (u : U) : (S.putO d x).up u = (S.up u).putO d x := by
  cases d <;> cases u <;> rfl
theorem putO_ups (d : Option Nat) (x : SV) : ∀ (us : List U) (S : St), (S.putO d x).ups us = (S.ups us).putO d x
  | [], _ => rfl
  | u :: us, S => by
    show ((S.putO d x).up u).ups us = ((S.up u).ups us).putO d x
    rw [putO_up, putO_ups d x us]
theorem putO_putO (S : St) (d e : Option Nat) (x y : SV) (h : ∀ i, d = some i → e ≠ some i) : (S.putO d x).putO e y = (S.putO e y).putO d x := by
  cases d with
  | none => rfl
  | some d =>
    cases e with
    | none => rfl
    | some e =>
      have hne : ¬ e = d := fun he => h d rfl (by rw [he])
      refine St.ext' (fun i => ?_) (fun _ => rfl) (fun _ _ => rfl) (fun _ => rfl)
      show (if i = e then y else if i = d then x else S.sl i) = (if i = d then x else if i = e then y else S.sl i)
      by_cases h1 : i = e
      · subst h1; rw [if_pos rfl, if_neg hne, if_pos rfl]
      · rw [if_neg h1, if_neg h1]

theorem app_app (S : St) (d e : Option Nat) (p q : Out) (hd : ∀ i, d = some i → e ≠ some i) (h1 : p.x.safe q.ks = true) (h2 : q.x.safe p.ks = true) (h3 : p.us.all (U.safe q.ks) = true) (h4 : q.us.all (U.safe p.ks) = true)
    (h5 : p.us.all (fun u => q.us.all fun v => !u.meets v) = true) : (S.app d p).app e q = (S.app e q).app d p := by
  simp only [St.app]
  rw [putO_kp _ _ _ _ h1, ups_kp _ _ _ h3, putO_ups, putO_kp _ _ _ _ h2, ups_kp _ _ _ h4, putO_ups, putO_putO _ _ _ _ _ hd, ups_ups _ _ _ h5, St.kp_kp]
end Go.V
