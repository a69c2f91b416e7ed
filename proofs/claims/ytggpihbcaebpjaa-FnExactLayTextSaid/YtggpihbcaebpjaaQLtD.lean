import Derived.Test.YtggpihbcaebpjaaQLtC
import Derived.Orders
import Derived.Tactics
import Derived.Deep.LoopGhost
import Derived.Below
import Derived.WalkKit
import Derived.ProofKit
import Derived.ChangeOld
import Derived.DataReads
namespace Go.V
theorem core_congr (E : Env) (ρ ρ' : Operand → SV) (d : Nat) (op : Op) (h : ∀ x, x ∈ op.operands.toList → ρ x = ρ' x) : core E ρ d op = core E ρ' d op := by
  have pairs : ∀ ps : List (Nat × Operand), (∀ x, x ∈ ps.map (·.2) → ρ x = ρ' x) → (ps.map fun p => (p.1, ρ p.2)) = ps.map fun p => (p.1, ρ' p.2) := fun ps hp =>
    List.map_congr_left fun p hm => by rw [hp p.2 (List.mem_map.2 ⟨p, hm, rfl⟩)]
  cases op
  case build t ps => simp only [core, pairs ps.toList fun x hx => h x (by simpa [Op.operands] using hx)]
  case buildSlice t n ps => simp only [core, pairs ps.toList fun x hx => h x (by simpa [Op.operands] using hx)]
  case slice t x lo hi mx =>
    simp only [Op.operands] at h
    have h1 : ρ x = ρ' x := h x (by simp)
    have h2 : lo.map ρ = lo.map ρ' := by cases lo with | none => rfl | some y => simp only [Option.map_some]; rw [h y (by simp)]
    have h3 : hi.map ρ = hi.map ρ' := by cases hi with | none => rfl | some y => simp only [Option.map_some]; rw [h y (by simp)]
    have h4 : mx.map ρ = mx.map ρ' := by cases mx with | none => rfl | some y => simp only [Option.map_some]; rw [h y (by simp)]
    simp only [core, h1, h2, h3, h4]
  case makeFunc f first cs =>
    have hcs : cs.toList.map ρ = cs.toList.map ρ' := List.map_congr_left fun x hx => h x (by
      simp only [Op.operands, Array.toList_append, List.mem_append]; exact .inr hx)
    cases f with
    | func f => simp only [core, hcs]
    | _ => rfl
  case call c =>
    obtain ⟨cal, as, ts⟩ := c
    have has : as.toList.map ρ = as.toList.map ρ' := List.map_congr_left fun x hx => h x (by
      cases cal <;> simp [Op.operands, Call.operands] <;> simp [Array.mem_toList_iff.1 hx])
    cases cal with
    | value f =>
      have hf : ρ f = ρ' f := h f (by simp [Op.operands, Call.operands])
      simp only [core, has, hf]
    | invoke r m => rfl
    | builtin b => cases b <;> simp only [core, has]
  all_goals first
    | rfl
    | (simp only [Op.operands, List.mem_cons, List.not_mem_nil, or_false, forall_eq_or_imp, forall_eq] at h; simp only [core, h]; done)
def Ag (S S' : St) (l : List Lg) : Prop := ∀ x, x ∈ l → match x with | .o k => S.ow k = S'.ow k | .c k off _ => S.mc k off = S'.mc k off | .m k => S.ms k = S'.ms k
theorem at_sub {α : Type} (S : St) (t : Tr α) : ∀ (g : List Lg) {x : α} {l : List Lg}, (t.at S g).run = some (x, l) → ∀ y, y ∈ g → y ∈ l := by
  induction t with
  | ret a => intro g x l h; simp only [Tr.at, Tr.run, Option.some.injEq, Prod.mk.injEq] at h; rw [← h.2]; exact fun _ h => h
  | fail => intro g x l h; simp [Tr.at, Tr.run] at h
  | br c t e ih1 ih2 =>
    intro g x l h
    simp only [Tr.at, Tr.run] at h
    split at h
    · exact ih1 g h
    · exact ih2 g h
  | get γ o f ih =>
    intro g x l h
    simp only [Tr.at, run_get, Option.bind_eq_some_iff] at h
    obtain ⟨b, hb, h⟩ := h
    exact ih b g h
  | alt γ δ s f f' ih1 ih2 =>
    intro g x l h
    cases s with
    | inl b => exact ih1 b g h
    | inr b => exact ih2 b g h
  | rdO k f ih => intro g x l h y hy; exact ih _ _ h y (List.mem_cons_of_mem _ hy)
  | rdC k off f ih => intro g x l h y hy; exact ih _ _ h y (List.mem_cons_of_mem _ hy)
  | rdM k f ih => intro g x l h y hy; exact ih _ _ h y (List.mem_cons_of_mem _ hy)
theorem at_congr {α : Type} (S S' : St) (t : Tr α) : ∀ (g : List Lg) {x : α} {l : List Lg}, (t.at S g).run = some (x, l) → Ag S S' l → (t.at S' g).run = some (x, l) := by
  induction t with
  | ret a => intro g x l h _; exact h
  | fail => intro g x l h; simp [Tr.at, Tr.run] at h
  | br c t e ih1 ih2 =>
    intro g x l h ha
    simp only [Tr.at, Tr.run] at h ⊢
    split at h
    · rename_i hc; rw [if_pos hc]; exact ih1 g h ha
    · rename_i hc; rw [if_neg hc]; exact ih2 g h ha
  | get γ o f ih =>
    intro g x l h ha
    simp only [Tr.at, run_get, Option.bind_eq_some_iff] at h ⊢
    obtain ⟨b, hb, h⟩ := h
    exact ⟨b, hb, ih b g h ha⟩
  | alt γ δ s f f' ih1 ih2 =>
    intro g x l h ha
    cases s with
    | inl b => exact ih1 b g h ha
    | inr b => exact ih2 b g h ha
  | rdO k f ih =>
    intro g x l h ha
    replace h : ((f (S.ow k)).at S (.o k :: g)).run = some (x, l) := h
    have : S.ow k = S'.ow k := ha _ (at_sub S _ _ h (.o k) (by simp))
    show ((f (S'.ow k)).at S' (.o k :: g)).run = _
    rw [← this]
    exact ih _ _ h ha
  | rdC k off f ih =>
    intro g x l h ha
    replace h : ((f (S.mc k off)).at S (.c k off (S.mc k off) :: g)).run = some (x, l) := h
    have : S.mc k off = S'.mc k off := ha _ (at_sub S _ _ h (.c k off (S.mc k off)) (by simp))
    show ((f (S'.mc k off)).at S' (.c k off (S'.mc k off) :: g)).run = _
    rw [← this]
    exact ih _ _ h ha
  | rdM k f ih =>
    intro g x l h ha
    replace h : ((f (S.ms k)).at S (.m k :: g)).run = some (x, l) := h
    have : S.ms k = S'.ms k := ha _ (at_sub S _ _ h (.m k) (by simp))
    show ((f (S'.ms k)).at S' (.m k :: g)).run = _
    rw [← this]
    exact ih _ _ h ha
def Sees (S : St) (l : List Lg) : Prop := ∀ k off x, Lg.c k off x ∈ l → S.mc k off = x
theorem at_sees {α : Type} (S : St) (t : Tr α) : ∀ (g : List Lg) {x : α} {l : List Lg}, Sees S g → (t.at S g).run = some (x, l) → Sees S l := by
  induction t with
  | ret a => intro g x l hg h; simp only [Tr.at, Tr.run, Option.some.injEq, Prod.mk.injEq] at h; rw [← h.2]; exact hg
  | fail => intro g x l _ h; simp [Tr.at, Tr.run] at h
  | br c t e ih1 ih2 =>
    intro g x l hg h
    simp only [Tr.at, Tr.run] at h
    split at h
    · exact ih1 g hg h
    · exact ih2 g hg h
  | get γ o f ih =>
    intro g x l hg h
    simp only [Tr.at, run_get, Option.bind_eq_some_iff] at h
    obtain ⟨b, hb, h⟩ := h
    exact ih b g hg h
  | alt γ δ s f f' ih1 ih2 =>
    intro g x l hg h
    cases s with
    | inl b => exact ih1 b g hg h
    | inr b => exact ih2 b g hg h
  | rdO k f ih => intro g x l hg h; exact ih _ _ (fun k' o' x' hx => by rcases List.mem_cons.1 hx with hx | hx; cases hx; exact hg _ _ _ hx) h
  | rdC k off f ih => intro g x l hg h; exact ih _ _ (fun k' o' x' hx => by
      rcases List.mem_cons.1 hx with hx | hx
      · injection hx with e1 e2 e3; subst e1 e2 e3; rfl
      · exact hg _ _ _ hx) h
  | rdM k f ih => intro g x l hg h; exact ih _ _ (fun k' o' x' hx => by rcases List.mem_cons.1 hx with hx | hx; cases hx; exact hg _ _ _ hx) h
theorem Leaf.kp_kp (c c' : List Kl) (l : Leaf) : (l.kp c).kp c' = (l.kp c').kp c := by
  cases l with
  | vw k st win =>
    by_cases h1 : c.all (fun x => x.okV k st) = true <;> by_cases h2 : c'.all (fun x => x.okV k st) = true <;> simp only [Leaf.kp, h1, h2, if_true] <;> rfl
  | _ => rfl
theorem S1.kp_kp (c c' : List Kl) (x : S1) : (x.kp c).kp c' = (x.kp c').kp c := by
  cases x with
  | one l => simp only [S1.kp, Leaf.kp_kp c c' l]
  | ag ls => simp only [S1.kp, List.map_map]; congr 1; apply List.map_congr_left; intro l _; exact Leaf.kp_kp c c' l
  | pl k off => by_cases h1 : c.all (fun x => x.okM k) = true <;> by_cases h2 : c'.all (fun x => x.okM k) = true <;> simp only [S1.kp, h1, h2, if_true] <;> rfl
  | el k st => by_cases h1 : c.all (fun x => x.okE k st) = true <;> by_cases h2 : c'.all (fun x => x.okE k st) = true <;> simp only [S1.kp, h1, h2, if_true] <;> rfl
  | rp t x off => rfl
  | fv f cs => by_cases h1 : c.all (fun x => cs.all fun p => x.okM p.1) = true <;> by_cases h2 : c'.all (fun x => cs.all fun p => x.okM p.1) = true <;> simp only [S1.kp, h1, h2, if_true] <;> rfl
theorem SV.kp_kp (c c' : List Kl) (x : SV) : (x.kp c).kp c' = (x.kp c').kp c := by
  cases x with
  | s x => simp only [SV.kp, S1.kp_kp c c' x]
  | tu xs => simp only [SV.kp, List.map_map]; congr 1; apply List.map_congr_left; intro l _; exact S1.kp_kp c c' l
  | un => rfl
  | no => rfl
theorem Leaf.kp_safe {c : List Kl} {l : Leaf} (h : l.safe c = true) : l.kp c = l := by
  cases l with
  | vw k st win => simp only [Leaf.safe] at h; simp only [Leaf.kp, h, if_true]
  | _ => rfl
theorem map_id_of {α : Type} {f : α → α} : ∀ {l : List α}, (∀ x, x ∈ l → f x = x) → l.map f = l
  | [], _ => rfl
  | x :: l, h => by rw [List.map_cons, h x (by simp), map_id_of fun y hy => h y (by simp [hy])]
theorem S1.kp_safe {c : List Kl} {x : S1} (h : x.safe c = true) : x.kp c = x := by
  cases x with
  | one l => simp only [S1.safe] at h; simp only [S1.kp, Leaf.kp_safe h]
  | ag ls => simp only [S1.safe, List.all_eq_true] at h; simp only [S1.kp]; rw [map_id_of fun l hl => Leaf.kp_safe (h l hl)]
  | pl k off => simp only [S1.safe] at h; simp only [S1.kp, h, if_true]
  | el k st => simp only [S1.safe] at h; simp only [S1.kp, h, if_true]
  | rp t x off => rfl
  | fv f cs => simp only [S1.safe] at h; simp only [S1.kp, h, if_true]
theorem SV.kp_safe {c : List Kl} {x : SV} (h : x.safe c = true) : x.kp c = x := by
  cases x with
  | s x => simp only [SV.safe] at h; simp only [SV.kp, S1.kp_safe h]
  | tu xs => simp only [SV.safe, List.all_eq_true] at h; simp only [SV.kp]; rw [map_id_of fun l hl => S1.kp_safe (h l hl)]
  | un => rfl
  | no => rfl
theorem Leaf.kp_whole {c : List Kl} {l : Leaf} (h : (l.kp c).whole = true) : l.kp c = l := by
  cases l with
  | vw k st win =>
    simp only [Leaf.kp] at h ⊢
    split
    · rfl
    · rename_i hc; rw [if_neg hc] at h; cases h
  | _ => rfl
theorem S1.kp_whole {c : List Kl} {x : S1} (h : (x.kp c).whole = true) : x.kp c = x := by
  cases x with
  | one l => simp only [S1.kp, S1.whole] at h ⊢; rw [Leaf.kp_whole h]
  | ag ls =>
    simp only [S1.kp, S1.whole, List.all_eq_true] at h ⊢
    rw [map_id_of fun l hl => Leaf.kp_whole (h (l.kp c) (List.mem_map.2 ⟨l, hl, rfl⟩))]
  | pl k off =>
    simp only [S1.kp] at h ⊢
    split
    · rfl
    · rename_i hc; rw [if_neg hc] at h; cases h
  | el k st =>
    simp only [S1.kp] at h ⊢
    split
    · rfl
    · rename_i hc; rw [if_neg hc] at h; cases h
  | rp t x off => rfl
  | fv f cs =>
    simp only [S1.kp] at h ⊢
    split
    · rfl
    · rename_i hc; rw [if_neg hc] at h; cases h
theorem SV.kp_whole {c : List Kl} {x : SV} (h : (x.kp c).whole = true) : x.kp c = x := by
  cases x with
  | s x => simp only [SV.kp, SV.whole] at h ⊢; rw [S1.kp_whole h]
  | tu xs =>
    simp only [SV.kp, SV.whole, List.all_eq_true] at h ⊢
    rw [map_id_of fun l hl => S1.kp_whole (h (l.kp c) (List.mem_map.2 ⟨l, hl, rfl⟩))]
  | un => rfl
  | no => rfl
theorem St.ext' {S S' : St} (h1 : ∀ i, S.sl i = S'.sl i) (h2 : ∀ k, S.ms k = S'.ms k) (h3 : ∀ k i, S.mc k i = S'.mc k i) (h4 : ∀ k, S.ow k = S'.ow k) : S = S' := by
  obtain ⟨a, b, c, d⟩ := S
  obtain ⟨a', b', c', d'⟩ := S'
  simp only at h1 h2 h3 h4
  rw [funext h1, funext h2, funext h4, show c = c' from funext fun k => funext fun i => h3 k i]
theorem St.kp_kp (S : St) (c c' : List Kl) : (S.kp c).kp c' = (S.kp c').kp c :=
  St.ext' (fun i => by simp only [kp_sl, SV.kp_kp c c']) (fun k => by simp only [kp_ms]) (fun k i => by simp only [kp_mc, Leaf.kp_kp c c']) (fun k => by simp only [kp_ow])
theorem up_kp (S : St) (c : List Kl) {u : U} (h : u.safe c = true) : (S.up u).kp c = (S.kp c).up u := by
  have hsl : ∀ i, ((S.up u).kp c).sl i = ((S.kp c).up u).sl i := by
    intro i
    rw [kp_sl]
    have e1 : (S.up u).sl i = S.sl i := by cases u <;> rfl
    have e2 : ((S.kp c).up u).sl i = (S.kp c).sl i := by cases u <;> rfl
    rw [e1, e2, kp_sl]
  cases u with
  | ow k o =>
    refine St.ext' hsl (fun i => ?_) (fun i j => ?_) (fun i => ?_)
    · rw [kp_ms]; show S.ms i = (S.kp c).ms i; rw [kp_ms]
    · rw [kp_mc]; show (S.mc i j).kp c = (S.kp c).mc i j; rw [kp_mc]
    · rw [kp_ow]; show (if i = k then o else S.ow i) = (if i = k then o else (S.kp c).ow i); rw [kp_ow]
  | mc k off l =>
    refine St.ext' hsl (fun i => ?_) (fun i j => ?_) (fun i => ?_)
    · rw [kp_ms]; show S.ms i = (S.kp c).ms i; rw [kp_ms]
    · rw [kp_mc]
      show (if i = k then (if j = off then l else S.mc i j) else S.mc i j).kp c = (if i = k then (if j = off then l else (S.kp c).mc i j) else (S.kp c).mc i j)
      rw [kp_mc]
      split
      · split
        · exact Leaf.kp_safe h
        · rfl
      · rfl
    · rw [kp_ow]; show S.ow i = (S.kp c).ow i; rw [kp_ow]
  | ms k row =>
    refine St.ext' hsl (fun i => ?_) (fun i j => ?_) (fun i => ?_)
    · rw [kp_ms]; show (if i = k then some row.length else S.ms i) = (if i = k then some row.length else (S.kp c).ms i); rw [kp_ms]
    · rw [kp_mc]
      show (if i = k then row.getD j .no else S.mc i j).kp c = (if i = k then row.getD j .no else (S.kp c).mc i j)
      rw [kp_mc]
      split
      · simp only [U.safe, List.all_eq_true] at h
        rw [List.getD_eq_getElem?_getD]
        cases hr : row[j]? with
        | none => rfl
        | some l => exact Leaf.kp_safe (h l (List.mem_of_getElem? hr))
      · rfl
    · rw [kp_ow]; show S.ow i = (S.kp c).ow i; rw [kp_ow]
theorem ups_kp (c : List Kl) : ∀ (us : List U) (S : St), us.all (U.safe c) = true → (S.ups us).kp c = (S.kp c).ups us
  | [], _, _ => rfl
  | u :: us, S, h => by
    simp only [List.all_cons, Bool.and_eq_true] at h
    show ((S.up u).ups us).kp c = ((S.kp c).up u).ups us
    rw [ups_kp c us _ h.2, up_kp S c h.1]
theorem up_up (S : St) {u v : U} (h : u.meets v = false) : (S.up u).up v = (S.up v).up u := by
  cases u <;> cases v <;> simp only [U.meets, Bool.and_eq_false_iff, beq_eq_false_iff_ne] at h <;> (refine St.ext' (fun i => rfl) (fun i => ?_) (fun i j => ?_) (fun i => ?_)) <;> simp only [St.up] <;> (repeat' split) <;> simp_all
theorem up_ups {u : U} : ∀ (vs : List U) (S : St), vs.all (fun v => !u.meets v) = true → (S.up u).ups vs = (S.ups vs).up u
  | [], _, _ => rfl
  | v :: vs, S, h => by
    simp only [List.all_cons, Bool.and_eq_true, Bool.not_eq_true'] at h
    show ((S.up u).up v).ups vs = ((S.up v).ups vs).up u
    rw [up_up S h.1, up_ups vs _ (by simpa using h.2)]
theorem ups_ups : ∀ (us vs : List U) (S : St), us.all (fun u => vs.all fun v => !u.meets v) = true → (S.ups us).ups vs = (S.ups vs).ups us
  | [], _, _, _ => rfl
  | u :: us, vs, S, h => by
    simp only [List.all_cons, Bool.and_eq_true] at h
    show ((S.up u).ups us).ups vs = ((S.ups vs).up u).ups us
    rw [ups_ups us vs _ (by simpa using h.2), up_ups vs S h.1]
theorem putO_kp (S : St) (d : Option Nat) (x : SV) (c : List Kl) (h : x.safe c = true) : (S.putO d x).kp c = (S.kp c).putO d x := by
  cases d with
  | none => rfl
  | some d =>
    refine St.ext' (fun i => ?_) (fun i => ?_) (fun i j => ?_) (fun i => ?_)
    · rw [kp_sl]
      show (if i = d then x else S.sl i).kp c = (if i = d then x else (S.kp c).sl i)
      rw [kp_sl]
      split
      · exact SV.kp_safe h
      · rfl
    · rw [kp_ms]; show S.ms i = (S.kp c).ms i; rw [kp_ms]
    · rw [kp_mc]; show (S.mc i j).kp c = (S.kp c).mc i j; rw [kp_mc]
    · rw [kp_ow]; show S.ow i = (S.kp c).ow i; rw [kp_ow]
theorem putO_up (S : St) (d : Option Nat) (x : SV) (u : U) : (S.putO d x).up u = (S.up u).putO d x := by
  cases d <;> cases u <;> rfl
theorem putO_ups (d : Option Nat) (x : SV) : ∀ (us : List U) (S : St), (S.putO d x).ups us = (S.ups us).putO d x
  | [], _ => rfl
  | u :: us, S => by
    show ((S.putO d x).up u).ups us = ((S.up u).ups us).putO d x
    rw [putO_up, putO_ups d x us]
theorem putO_putO (S : St) (d e : Option Nat) (x y : SV) (h : ∀ i, d = some i → e ≠ some i) : (S.putO d x).putO e y = (S.putO e y).putO d x := by
  cases d with
  | none => rfl
  | some d =>
    cases e with
    | none => rfl
    | some e =>
      have hne : ¬ e = d := fun he => h d rfl (by rw [he])
      refine St.ext' (fun i => ?_) (fun _ => rfl) (fun _ _ => rfl) (fun _ => rfl)
      show (if i = e then y else if i = d then x else S.sl i) = (if i = d then x else if i = e then y else S.sl i)
      by_cases h1 : i = e
      · subst h1; rw [if_pos rfl, if_neg hne, if_pos rfl]
      · rw [if_neg h1, if_neg h1]
theorem app_app (S : St) (d e : Option Nat) (p q : Out) (hd : ∀ i, d = some i → e ≠ some i) (h1 : p.x.safe q.ks = true) (h2 : q.x.safe p.ks = true) (h3 : p.us.all (U.safe q.ks) = true) (h4 : q.us.all (U.safe p.ks) = true)
    (h5 : p.us.all (fun u => q.us.all fun v => !u.meets v) = true) : (S.app d p).app e q = (S.app e q).app d p := by
  simp only [St.app]
  rw [putO_kp _ _ _ _ h1, ups_kp _ _ _ h3, putO_ups, putO_kp _ _ _ _ h2, ups_kp _ _ _ h4, putO_ups, putO_putO _ _ _ _ _ hd, ups_ups _ _ _ h5, St.kp_kp]
end Go.V

namespace Go.V
def Holds (ops : Array Oper) (S : St) (o : Oper) (y : Bool) : Prop :=
  match o.guard with
  | none => y = true
  | some (j, want) => ∃ g, gslot ops j = some g ∧ ((∃ b, S.sl g = .s (.one (.v .bool b)) ∧ y = (b == want)) ∨ (S.sl g = .un ∧ y = false))
def Stp (E : Env) (N : Nat) (ops : Array Oper) (S : St) (r : Rec) : Prop :=
  dstOk E N r.o = true ∧ ((Holds ops S r.o true ∧ (runOp E N r.o S).run = some (r.out, r.lg) ∧ r.ins = r.o.op.operands.toList.map (opnd S)) ∨ (Holds ops S r.o false ∧ r.out = noOut ∧ r.lg = [] ∧ r.ins = []))
theorem put_same {S : St} {g : Nat} {x : SV} (h : S.sl g = x) : S.put g x = S := by
  refine St.ext' (fun i => ?_) (fun _ => rfl) (fun _ _ => rfl) (fun _ => rfl)
  show (if i = g then x else S.sl i) = S.sl i
  split
  · rename_i hi; rw [hi, h]
  · rfl
section
variable {E : Env} {N : Nat} {ops : Array Oper}
theorem stepT_stp {o : Oper} {S S' : St} {r : Rec} (h : (stepT E N ops o S).run = some (S', r)) : r.o = o ∧ Stp E N ops S r ∧ S' = S.app o.dst r.out := by
  have yes : dstOk E N o = true → Holds ops S o true → (yesT E N o S).run = some (S', r) → r.o = o ∧ Stp E N ops S r ∧ S' = S.app o.dst r.out := by
    intro hd hh h
    simp only [yesT, run_bind, Option.bind_eq_some_iff, Tr.run, Option.some.injEq, Prod.mk.injEq] at h
    obtain ⟨x, hx, h1, h2⟩ := h
    subst h1 h2
    exact ⟨rfl, ⟨hd, .inl ⟨hh, hx, rfl⟩⟩, rfl⟩
  have nay : dstOk E N o = true → Holds ops S o false → (nayT o S).run = some (S', r) → r.o = o ∧ Stp E N ops S r ∧ S' = S.app o.dst r.out := by
    intro hd hh h
    simp only [nayT, Tr.run, Option.some.injEq, Prod.mk.injEq] at h
    obtain ⟨h1, h2⟩ := h
    subst h1 h2
    exact ⟨rfl, ⟨hd, .inr ⟨hh, rfl, rfl, rfl⟩⟩, rfl⟩
  unfold stepT at h
  split at h
  · rename_i hd
    split at h
    · rename_i hg
      exact yes hd (by simp [Holds, hg]) h
    · rename_i j want hg
      split at h
      · rename_i g hgs
        split at h
        · rename_i bb hs
          have hold : ∀ y, y = (bb == want) → Holds ops S o y := fun y hy => by simp only [Holds, hg]; exact ⟨g, hgs, .inl ⟨bb, hs, hy⟩⟩
          simp only [Tr.run] at h
          cases hb : (bb : Bool) with
          | true =>
            rw [hb] at h hs
            simp only [if_true] at h
            rw [put_same hs] at h
            cases want with
            | true => exact yes hd (hold _ (by rw [hb]; rfl)) h
            | false => exact nay hd (hold _ (by rw [hb]; rfl)) h
          | false =>
            rw [hb] at h hs
            simp only [Bool.false_eq_true, if_false] at h
            rw [put_same hs] at h
            cases want with
            | true => exact nay hd (hold _ (by rw [hb]; rfl)) h
            | false => exact yes hd (hold _ (by rw [hb]; rfl)) h
        · rename_i hs
          exact nay hd (by unfold Holds; rw [hg]; exact ⟨g, hgs, .inr ⟨hs, rfl⟩⟩) h
        · simp [Tr.run] at h
      · simp [Tr.run] at h
  · simp [Tr.run] at h
theorem app_sl (S : St) (d : Option Nat) (p : Out) {t : Nat} (h : d ≠ some t) : (S.app d p).sl t = (S.sl t).kp p.ks := by
  have e : ((S.kp p.ks).ups p.us).sl t = (S.sl t).kp p.ks := by rw [ups_sl, kp_sl]
  cases d with
  | none => exact e
  | some d =>
    show (if t = d then p.x else ((S.kp p.ks).ups p.us).sl t) = _
    rw [if_neg (fun ht => h (by rw [ht])), e]
theorem ups_ow_at {k : Nat} : ∀ (us : List U) (S : St), us.all (fun u => !u.hits (.o k)) = true → (S.ups us).ow k = S.ow k
  | [], _, _ => rfl
  | u :: us, S, h => by
    simp only [List.all_cons, Bool.and_eq_true, Bool.not_eq_true'] at h
    show ((S.up u).ups us).ow k = _
    rw [ups_ow_at us _ (by simpa using h.2)]
    cases u with
    | ow k' o =>
      have : ¬ k = k' := fun hk => by rw [hk] at h; simp [U.hits] at h
      show (if k = k' then o else S.ow k) = _; rw [if_neg this]
    | mc _ _ _ => rfl
    | ms _ _ => rfl
theorem ups_ms_at {k : Nat} : ∀ (us : List U) (S : St), us.all (fun u => !u.hits (.m k)) = true → (S.ups us).ms k = S.ms k
  | [], _, _ => rfl
  | u :: us, S, h => by
    simp only [List.all_cons, Bool.and_eq_true, Bool.not_eq_true'] at h
    show ((S.up u).ups us).ms k = _
    rw [ups_ms_at us _ (by simpa using h.2)]
    cases u with
    | ms k' row =>
      have : ¬ k = k' := fun hk => by rw [hk] at h; simp [U.hits] at h
      show (if k = k' then _ else S.ms k) = _; rw [if_neg this]
    | mc _ _ _ => rfl
    | ow _ _ => rfl
theorem ups_mc_at {k off : Nat} {l : Leaf} : ∀ (us : List U) (S : St), us.all (fun u => !u.hits (.c k off l)) = true → (S.ups us).mc k off = S.mc k off
  | [], _, _ => rfl
  | u :: us, S, h => by
    simp only [List.all_cons, Bool.and_eq_true, Bool.not_eq_true'] at h
    show ((S.up u).ups us).mc k off = _
    rw [ups_mc_at us _ (by simpa using h.2)]
    cases u with
    | mc k' off' l' =>
      show (if k = k' then (if off = off' then l' else S.mc k off) else S.mc k off) = _
      have := h.1
      simp only [U.hits, Bool.and_eq_false_iff, beq_eq_false_iff_ne] at this
      by_cases h1 : k = k'
      · rw [if_pos h1, if_neg (fun h2 => by rcases this with h3 | h3 <;> simp_all)]
      · rw [if_neg h1]
    | ms k' row =>
      have : ¬ k = k' := fun hk => by rw [hk] at h; simp [U.hits] at h
      show (if k = k' then _ else S.mc k off) = _; rw [if_neg this]
    | ow _ _ => rfl
theorem app_ow (S : St) (d : Option Nat) (p : Out) : (S.app d p).ow = ((S.kp p.ks).ups p.us).ow := by cases d <;> rfl
theorem app_ms (S : St) (d : Option Nat) (p : Out) : (S.app d p).ms = ((S.kp p.ks).ups p.us).ms := by cases d <;> rfl
theorem app_mc (S : St) (d : Option Nat) (p : Out) : (S.app d p).mc = ((S.kp p.ks).ups p.us).mc := by cases d <;> rfl
theorem bool_kp {x : SV} {c : List Kl} {b : Bool} (h : x.kp c = .s (.one (.v .bool b))) : x = .s (.one (.v .bool b)) := by
  cases x with
  | s x =>
    cases x with
    | one l =>
      cases l with
      | v t y => exact h
      | vw k st win =>
        simp only [SV.kp, S1.kp, Leaf.kp, SV.s.injEq, S1.one.injEq] at h
        split at h <;> cases h
      | qn e => exact h
      | nil => exact h
      | no => exact h
    | ag ls => simp [SV.kp, S1.kp] at h
    | pl k off =>
      simp only [SV.kp, S1.kp, SV.s.injEq] at h
      split at h <;> cases h
    | el k st =>
      simp only [SV.kp, S1.kp, SV.s.injEq] at h
      split at h <;> cases h
    | rp t y off => exact h
    | fv f cs =>
      simp only [SV.kp, S1.kp, SV.s.injEq] at h
      split at h <;> cases h
  | tu xs => simp [SV.kp] at h
  | un => exact h
  | no => exact h
theorem un_kp {x : SV} {c : List Kl} (h : x.kp c = .un) : x = .un := by
  cases x <;> simp_all [SV.kp]
theorem slot_spec {a b : Oper} (h : slotApart ops a b = true) : (∀ d, a.dst = some d → d ∉ slotsOf ops b) ∧ (∀ d, a.dst = some d → b.dst ≠ some d) ∧ (∀ d, b.dst = some d → d ∉ slotsOf ops a) := by
  simp only [slotApart, Bool.and_eq_true] at h
  refine ⟨fun d hd => ?_, fun d hd => ?_, fun d hd => ?_⟩
  · rw [hd] at h; simp only [Bool.and_eq_true, Bool.not_eq_true'] at h; simpa using h.1.1
  · rw [hd] at h; simp only [Bool.and_eq_true, Bool.not_eq_true'] at h
    intro he; rw [he] at h; simp at h
  · rw [hd] at h; simp only [Bool.not_eq_true'] at h; simpa using h.2
theorem tmp_slot {o : Oper} {t : Nat} (h : Operand.tmp t ∈ o.op.operands.toList) : t ∈ slotsOf ops o :=
  List.mem_append_left _ (List.mem_filterMap.2 ⟨.tmp t, h, rfl⟩)
theorem guard_slot {o : Oper} {j : Nat} {want : Bool} {g : Nat} (h : o.guard = some (j, want)) (hg : gslot ops j = some g) : g ∈ slotsOf ops o :=
  List.mem_append_right _ (by rw [h]; simp [hg])
structure Past (a b : Rec) : Prop where
  whole : b.out.ks = [] ∨ ((∀ x, x ∈ a.ins → x.whole = true) ∧ ∀ x, x ∈ a.lg → x.whole = true)
  ins : ∀ x, x ∈ a.ins → x.safe b.out.ks = true
  x : a.out.x.safe b.out.ks = true
  lg : ∀ x, x ∈ a.lg → x.safe b.out.ks = true
  us : a.out.us.all (U.safe b.out.ks) = true
  hits : ∀ x, x ∈ a.lg → b.out.us.all (fun u => !u.hits x) = true
theorem past_spec {a b : Rec} (h : a.past b = true) : Past a b := by
  simp only [Rec.past, Bool.and_eq_true, Bool.or_eq_true, List.isEmpty_iff, List.all_eq_true (p := SV.whole), List.all_eq_true (p := Lg.whole), List.all_eq_true (p := SV.safe b.out.ks), List.all_eq_true (p := Lg.safe b.out.ks)] at h
  obtain ⟨⟨⟨⟨⟨h1, h2⟩, h3⟩, h4⟩, h5⟩, h6⟩ := h
  rw [List.all_eq_true] at h6
  exact ⟨h1, h2, h3, h4, h5, h6⟩
theorem Stp.move {S S' : St} {r : Rec} (h : Stp E N ops S r) (hop : ∀ t, t ∈ slotsOf ops r.o → (∀ x, x ∈ r.ins → x = S.sl t → S'.sl t = S.sl t)) (hg : ∀ t, t ∈ slotsOf ops r.o → ((∃ b, S.sl t = .s (.one (.v .bool b))) ∨ S.sl t = .un) → S'.sl t = S.sl t)
    (hlg : Sees S r.lg → Ag S S' r.lg) : Stp E N ops S' r := by
  have hold : ∀ y, Holds ops S r.o y → Holds ops S' r.o y := by
    intro y hy
    unfold Holds at hy ⊢
    split
    · rename_i hgd; rw [hgd] at hy; exact hy
    · rename_i j want hgd
      rw [hgd] at hy
      obtain ⟨g, h1, ⟨bb, h2, h3⟩ | ⟨h2, h3⟩⟩ := hy
      · exact ⟨g, h1, .inl ⟨bb, by rw [hg g (guard_slot hgd h1) (.inl ⟨bb, h2⟩), h2], h3⟩⟩
      · exact ⟨g, h1, .inr ⟨by rw [hg g (guard_slot hgd h1) (.inr h2), h2], h3⟩⟩
  obtain ⟨hd, h | ⟨h1, h2, h3, h4⟩⟩ := h
  · obtain ⟨h1, h2, h3⟩ := h
    have hopn : ∀ x, x ∈ r.o.op.operands.toList → opnd S' x = opnd S x := by
      intro x hx
      cases x with
      | tmp t => exact hop t (tmp_slot hx) (S.sl t) (by rw [h3]; exact List.mem_map.2 ⟨.tmp t, hx, rfl⟩) rfl
      | _ => rfl
    refine ⟨hd, .inl ⟨hold _ h1, ?_, ?_⟩⟩
    · unfold runOp at h2 ⊢
      rw [core_congr E (opnd S') (opnd S) _ _ hopn]
      exact at_congr S S' _ [] h2 (hlg (at_sees S _ [] (fun k off x hx => by cases hx) h2))
    · rw [h3]; exact List.map_congr_left fun x hx => (hopn x hx).symm
  · exact ⟨hd, .inr ⟨hold _ h1, h2, h3, h4⟩⟩
theorem Stp.swap {S : St} {p q : Rec} (hp : Stp E N ops S p) (hq : Stp E N ops (S.app p.o.dst p.out) q) (hs : slotApart ops p.o q.o = true) (ha : p.apart q = true) :
    Stp E N ops S q ∧ Stp E N ops (S.app q.o.dst q.out) p ∧ (S.app p.o.dst p.out).app q.o.dst q.out = (S.app q.o.dst q.out).app p.o.dst p.out := by
  obtain ⟨s1, s2, s3⟩ := slot_spec hs
  simp only [Rec.apart, Bool.and_eq_true] at ha
  obtain ⟨⟨ha, hb⟩, hm⟩ := ha
  have pa := past_spec ha
  have pb := past_spec hb
  refine ⟨?_, ?_, app_app S _ _ _ _ s2 pa.x pb.x pa.us pb.us hm⟩
  · refine hq.move ?_ ?_ ?_
    · intro t ht x hx hxt
      have e := app_sl S p.o.dst p.out (fun h => s1 t h ht : p.o.dst ≠ some t)
      rw [e] at hxt ⊢
      rcases pb.whole with h0 | ⟨h0, _⟩
      · rw [h0, SV.kp_nil]
      · have := h0 x hx
        rw [hxt] at this
        exact (SV.kp_whole this).symm
    · intro t ht hb
      have e := app_sl S p.o.dst p.out (fun h => s1 t h ht : p.o.dst ≠ some t)
      rw [e] at hb ⊢
      rcases hb with ⟨bb, hb⟩ | hb
      · rw [bool_kp hb]; rfl
      · rw [un_kp hb]; rfl
    · intro hsee l hl
      have hh := pb.hits l hl
      cases l with
      | o k => show (S.app p.o.dst p.out).ow k = S.ow k; rw [app_ow, ups_ow_at _ _ hh, kp_ow]
      | m k => show (S.app p.o.dst p.out).ms k = S.ms k; rw [app_ms, ups_ms_at _ _ hh, kp_ms]
      | c k off l =>
        show (S.app p.o.dst p.out).mc k off = S.mc k off
        have h1 := hsee k off l hl
        rw [app_mc, ups_mc_at _ _ hh, kp_mc] at h1 ⊢
        rcases pb.whole with h0 | ⟨_, h0⟩
        · rw [h0, Leaf.kp_nil]
        · have := h0 _ hl
          simp only [Lg.whole] at this
          rw [← h1] at this
          exact Leaf.kp_whole this
  · refine hp.move ?_ ?_ ?_
    · intro t ht x hx hxt
      have e := app_sl S q.o.dst q.out (fun h => s3 t h ht : q.o.dst ≠ some t)
      rw [e]
      have := pa.ins x hx
      rw [hxt] at this
      exact SV.kp_safe this
    · intro t ht hb
      have e := app_sl S q.o.dst q.out (fun h => s3 t h ht : q.o.dst ≠ some t)
      rcases hb with ⟨bb, hb⟩ | hb
      · rw [e, hb]; rfl
      · rw [e, hb]; rfl
    · intro hsee l hl
      have hh := pa.hits l hl
      cases l with
      | o k => show S.ow k = (S.app q.o.dst q.out).ow k; rw [app_ow, ups_ow_at _ _ hh, kp_ow]
      | m k => show S.ms k = (S.app q.o.dst q.out).ms k; rw [app_ms, ups_ms_at _ _ hh, kp_ms]
      | c k off l =>
        show S.mc k off = (S.app q.o.dst q.out).mc k off
        have h1 := hsee k off l hl
        have h2 := pa.lg _ hl
        simp only [Lg.safe] at h2
        rw [app_mc, ups_mc_at _ _ hh, kp_mc, h1, Leaf.kp_safe h2]
inductive Runs (E : Env) (N : Nat) (ops : Array Oper) : List (Nat × Rec) → St → St → Prop
  | nil {S} : Runs E N ops [] S S
  | cons {i r l S S'} : Stp E N ops S r → Runs E N ops l (S.app r.o.dst r.out) S' → Runs E N ops ((i, r) :: l) S S'
theorem Runs.front {q : Nat × Rec} {R2 : List (Nat × Rec)} : ∀ (R1 : List (Nat × Rec)) {S S' : St}, (∀ p, p ∈ R1 → slotApart ops p.2.o q.2.o = true ∧ p.2.apart q.2 = true) → Runs E N ops (R1 ++ q :: R2) S S' → Runs E N ops (q :: (R1 ++ R2)) S S'
  | [], _, _, _, h => h
  | (i, p) :: R1, S, S', ha, h => by
    obtain ⟨qi, q⟩ := q
    cases h with
    | cons h1 h2 =>
      have := Runs.front R1 (fun p hp => ha p (by simp [hp])) h2
      cases this with
      | cons h3 h4 =>
        obtain ⟨s1, s2⟩ := ha (i, p) (by simp)
        obtain ⟨k1, k2, k3⟩ := h1.swap h3 s1 s2
        rw [k3] at h4
        exact .cons k1 (.cons k2 h4)
theorem regT_runs : ∀ (os : List Oper) (S S' : St) (n : Nat), (regT E N ops os S).run = some S' → ∃ rs : List Rec, rs.map (·.o) = os ∧ Runs E N ops (numbered rs n) S S'
  | [], S, S', n, h => by
    rw [regT] at h
    simp only [Tr.run, Option.some.injEq] at h
    subst h
    exact ⟨[], rfl, .nil⟩
  | o :: os, S, S', n, h => by
    rw [regT] at h
    simp only [run_bind, Option.bind_eq_some_iff] at h
    obtain ⟨⟨S1, r⟩, h1, h2⟩ := h
    obtain ⟨e1, e2, e3⟩ := stepT_stp h1
    subst e3
    obtain ⟨rs, k1, k2⟩ := regT_runs os _ S' (n + 1) h2
    exact ⟨r :: rs, by rw [List.map_cons, k1, e1], .cons e2 (by rw [e1]; exact k2)⟩
theorem regR_runs : ∀ (os : List Oper) (S S' : St) (acc rs : List Rec) (n : Nat), (regR E N ops os S acc).run = some (S', rs) → ∃ rs' : List Rec, rs = acc.reverse ++ rs' ∧ rs'.map (·.o) = os ∧ Runs E N ops (numbered rs' n) S S'
  | [], S, S', acc, rs, n, h => by
    rw [regR] at h
    simp only [Tr.run, Option.some.injEq, Prod.mk.injEq] at h
    obtain ⟨h1, h2⟩ := h
    subst h1 h2
    exact ⟨[], by simp, rfl, .nil⟩
  | o :: os, S, S', acc, rs, n, h => by
    rw [regR] at h
    simp only [run_bind, Option.bind_eq_some_iff] at h
    obtain ⟨⟨S1, r⟩, h1, h2⟩ := h
    obtain ⟨e1, e2, e3⟩ := stepT_stp h1
    subst e3
    obtain ⟨rs', k0, k1, k2⟩ := regR_runs os _ S' (r :: acc) rs (n + 1) h2
    exact ⟨r :: rs', by rw [k0]; simp, by rw [List.map_cons, k1, e1], .cons e2 (by rw [e1]; exact k2)⟩
end
end Go.V

namespace Go.V
section
variable {P : Program} {E : Env} {b : Base} {N : Nat} {ops : Array Oper}
theorem Sim.skip {S : St} {a : Act} {w : World} (h : Sim b N S a w) (d : Option Nat) (hd : ∀ k, d = some k → k < N) (hdx : ∀ k, d = some k → ∀ p, p ∈ b.fx → p.1 ≠ k) : Sim b N (S.app d noOut) (a.put d undef) w := by
  obtain ⟨c, hi, hs, hfx⟩ := h
  exact (Did.same (x := .un) (v := undef) hi rfl).sim hs d hd hfx hdx
theorem Stp.runs (hE : EnvOk P E) (hF : ∀ p, p ∈ b.fx → E.fx.contains p.1 = true) (hN : N < b.n1) {S : St} {r : Rec} (h : Stp E N ops S r) {a : Act} {w : World} (hs : Sim b N S a w) {K : Act → World → Prop} {Q : Exit → Act → World → Prop} (hK : ∀ a' w', Sim b N (S.app r.o.dst r.out) a' w' → K a' w') :
    if Region.wanted r.o (yielded ops a.tmps) then r.o.wp P a w K Q else K (a.put r.o.dst undef) w := by
  obtain ⟨hd, h⟩ := h
  have hdst : ∀ k, r.o.dst = some k → k < N := by
    intro k hk
    unfold dstOk at hd
    rw [hk] at hd
    simp only [Bool.and_eq_true, decide_eq_true_eq] at hd
    exact hd.1
  have hdx : ∀ k, r.o.dst = some k → ∀ p, p ∈ b.fx → p.1 ≠ k := by
    intro k hk p hp he
    unfold dstOk at hd
    rw [hk] at hd
    simp only [Bool.and_eq_true, Bool.not_eq_true'] at hd
    have := hF p hp
    rw [he, hd.2] at this
    cases this
  have hw : ∀ y, Holds ops S r.o y → Region.wanted r.o (yielded ops a.tmps) = y := by
    intro y hy
    unfold Holds at hy
    unfold Region.wanted
    split at hy
    · rename_i hg; rw [hg]; exact hy.symm
    · rename_i j want hg
      obtain ⟨g, h1, h2⟩ := hy
      rw [hg]
      simp only
      obtain ⟨c, hi, hsl, _⟩ := hs
      have h4 := hsl.ok g
      rcases h2 with ⟨bb, h2, h3⟩ | ⟨h2, h3⟩
      rotate_left
      · rw [h2] at h4
        have h5 : a.tmps.getD g undef = undef := h4
        have h7 : yielded ops a.tmps j = none := by
          unfold yielded
          unfold gslot at h1
          rw [h1]
          rw [Array.getD_eq_getD_getElem?] at h5
          cases h8 : a.tmps[g]? with
          | none => simp [h8]
          | some v => rw [h8] at h5; simp only [Option.getD_some] at h5; subst h5; simp [h8, undef]
        rw [h7, h3]
        rfl
      rw [h2] at h4
      have h5 : a.tmps.getD g undef = .bool bb := bool_leaf (leaf_sv h4)
      have h6 : a.tmps[g]? = some (.bool bb) := by
        rw [Array.getD_eq_getD_getElem?] at h5
        cases h7 : a.tmps[g]? with
        | none => rw [h7] at h5; cases h5
        | some v => rw [h7] at h5; simp only [Option.getD_some] at h5; rw [h5]
      have h7 : yielded ops a.tmps j = some bb := by
        unfold yielded
        unfold gslot at h1
        rw [h1]
        simp [h6]
      rw [h7, h3]
      rfl
  rcases h with ⟨h1, h2, _⟩ | ⟨h1, h2, _⟩
  · rw [hw true h1, if_pos rfl]
    obtain ⟨c, hi, hsl, hfx⟩ := hs
    have hev := at_ev S _ [] h2
    refine core_ok hE.ti hi hsl r.o (d := r.o.dst.getD N) (by
      cases hk : r.o.dst with
      | none => exact hN
      | some k => exact Nat.lt_trans (hdst k hk) hN) (fun fo f cs args ts out ho hfo hsz hc => callT_ok hE hi hsl ho hfo hsz hc) hev K Q fun v w' hdid => ?_
    exact hK _ _ (hdid.sim hsl r.o.dst hdst hfx hdx)
  · rw [hw false h1]
    simp only [Bool.false_eq_true, if_false]
    refine hK _ _ ?_
    rw [h2]
    exact hs.skip _ hdst hdx
theorem Runs.list (hE : EnvOk P E) (hF : ∀ p, p ∈ b.fx → E.fx.contains p.1 = true) (hN : N < b.n1) : ∀ (rs : List Rec) (n : Nat) {S S' : St} {a : Act} {w : World} {Q : Exit → Act → World → Prop}, Runs E N ops (numbered rs n) S S' → Sim b N S a w → (∀ a' w', Sim b N S' a' w' → Q .normal a' w') → wpList P ops Q (rs.map (·.o)) a w
  | [], n, S, S', a, w, Q, h, hs, hQ => by
    cases h
    exact hQ _ _ hs
  | r :: rs, n, S, S', a, w, Q, h, hs, hQ => by
    cases h with
    | cons h1 h2 =>
      rw [List.map_cons]
      refine wpList_step fun K hK => ?_
      exact h1.runs hE hF hN hs fun a' w' hs' => hK _ _ (Runs.list hE hF hN rs (n + 1) h2 hs' hQ)
theorem ahead_spec : ∀ (os : List Oper) (acc : List Nat), (∀ j, j < acc.length → (ahead os acc).getD j 0 = acc.getD j 0) ∧
    ∀ j o, os[j]? = some o → ∀ i, ((ahead os acc).getD (acc.length + j) 0).testBit i = true → ∃ e, e ∈ o.after.toList ∧ Region.binds .any e = true ∧ (e.on = i ∨ ((ahead os acc).getD e.on 0).testBit i = true)
  | [], acc => ⟨fun _ _ => rfl, fun j o h => by simp at h⟩
  | o :: os, acc => by
    obtain ⟨h1, h2⟩ := ahead_spec os (acc ++ [aheadOf acc o])
    have e : ahead (o :: os) acc = ahead os (acc ++ [aheadOf acc o]) := rfl
    have hpre : ∀ j, j < acc.length → (ahead os (acc ++ [aheadOf acc o])).getD j 0 = acc.getD j 0 := by
      intro j hj
      rw [h1 j (by simp; omega), List.getD_eq_getElem?_getD, List.getElem?_append_left hj, List.getD_eq_getElem?_getD]
    rw [e]
    refine ⟨hpre, fun j o' ho i hi => ?_⟩
    cases j with
    | zero =>
      simp only [List.getElem?_cons_zero, Option.some.injEq] at ho
      subst ho
      have hv : (ahead os (acc ++ [aheadOf acc o])).getD (acc.length + 0) 0 = aheadOf acc o := by
        rw [h1 _ (by simp), List.getD_eq_getElem?_getD]; simp
      rw [hv] at hi
      have key : ∀ (es : List Edge) (m : Nat), (es.foldl (fun m e => if Region.binds .any e then m ||| ((1 <<< e.on) ||| acc.getD e.on 0) else m) m).testBit i = true →
          m.testBit i = true ∨ ∃ e, e ∈ es ∧ Region.binds .any e = true ∧ (e.on = i ∨ (acc.getD e.on 0).testBit i = true) := by
        intro es
        induction es with
        | nil => intro m h; exact .inl h
        | cons e es ih =>
          intro m h
          rw [List.foldl_cons] at h
          rcases ih _ h with h | ⟨e', k1, k2, k3⟩
          · split at h
            · rename_i hb
              rw [Nat.testBit_or, Nat.testBit_or, Nat.one_shiftLeft, Nat.testBit_two_pow] at h
              simp only [Bool.or_eq_true, decide_eq_true_eq] at h
              rcases h with h | h | h
              · exact .inl h
              · exact .inr ⟨e, by simp, hb, .inl h⟩
              · exact .inr ⟨e, by simp, hb, .inr h⟩
            · exact .inl h
          · exact .inr ⟨e', by simp [k1], k2, k3⟩
      rcases key _ 0 hi with h | ⟨e', k1, k2, k3⟩
      · simp at h
      · refine ⟨e', k1, k2, k3.imp id fun h => ?_⟩
        by_cases he : e'.on < acc.length
        · rw [hpre _ he]; exact h
        · rw [List.getD_eq_getElem?_getD, List.getElem?_eq_none (by omega)] at h; simp at h
    | succ j =>
      have := h2 j o' (by simpa using ho) i (by rw [List.length_append, List.length_singleton]; rwa [show acc.length + 1 + j = acc.length + (j + 1) by omega])
      exact this
theorem backward_spec : ∀ (os : List Oper) (n : Nat), backward os n = true → ∀ j o, os[j]? = some o → ∀ e, e ∈ o.after.toList → Region.binds .any e = true → e.on < n + j
  | [], _, _, j, o, h => by simp at h
  | o :: os, n, hb, j, o', ho => by
    simp only [backward, Bool.and_eq_true, List.all_eq_true] at hb
    cases j with
    | zero =>
      simp only [List.getElem?_cons_zero, Option.some.injEq] at ho
      subst ho
      intro e he hbd
      have := hb.1 e he
      rw [hbd] at this
      simpa using this
    | succ j =>
      intro e he hbd
      have := backward_spec os (n + 1) hb.2 j o' (by simpa using ho) e he hbd
      omega
theorem pairs_mid {bs : List Nat} {q : Nat × Rec} {R2 : List (Nat × Rec)} : ∀ (R1 : List (Nat × Rec)), pairsOk ops bs (R1 ++ q :: R2) = true →
    pairsOk ops bs (R1 ++ R2) = true ∧ ∀ p, p ∈ R1 → (bs.getD q.1 0).testBit p.1 = true ∨ (slotApart ops p.2.o q.2.o = true ∧ p.2.apart q.2 = true)
  | [], h => by
    obtain ⟨i, q⟩ := q
    simp only [List.nil_append, pairsOk, Bool.and_eq_true] at h
    exact ⟨h.2, fun p hp => by cases hp⟩
  | (i, p) :: R1, h => by
    simp only [List.cons_append, pairsOk, Bool.and_eq_true, List.all_eq_true] at h
    obtain ⟨h1, h2⟩ := h
    obtain ⟨k1, k2⟩ := pairs_mid R1 h2
    refine ⟨?_, fun p' hp => ?_⟩
    · simp only [List.cons_append, pairsOk, Bool.and_eq_true, List.all_eq_true]
      refine ⟨fun x hx => h1 x ?_, k1⟩
      rcases List.mem_append.1 hx with hx | hx
      · exact List.mem_append.2 (.inl hx)
      · exact List.mem_append.2 (.inr (List.mem_cons_of_mem _ hx))
    · rcases List.mem_cons.1 hp with rfl | hp
      · have := h1 q (List.mem_append.2 (.inr (by simp)))
        simp only [Bool.or_eq_true, Bool.and_eq_true] at this
        exact this
      · exact k2 p' hp
structure Left (ops : Array Oper) (bs : List Nat) (R : List (Nat × Rec)) (listed : Array Bool) : Prop where
  size : listed.size = ops.size
  lt : ∀ p, p ∈ R → p.1 < ops.size
  not : ∀ i, i < ops.size → (listed[i]? = some false ↔ i ∈ R.map (·.1))
  op : ∀ p, p ∈ R → ops[p.1]? = some p.2.o
  asc : (R.map (·.1)).Pairwise (· < ·)
  closed : ∀ j, listed[j]? = some true → ∀ i, (bs.getD j 0).testBit i = true → listed[i]? = some true
theorem any_sound (hE : EnvOk P E) (hF : ∀ p, p ∈ b.fx → E.fx.contains p.1 = true) (hN : N < b.n1) (bs : List Nat) (hbs : ∀ (j : Nat) o, ops[j]? = some o → ∀ i, (bs.getD j 0).testBit i = true → ∃ e, e ∈ o.after.toList ∧ Region.binds .any e = true ∧ (e.on = i ∨ (bs.getD e.on 0).testBit i = true))
    (hbk : ∀ (j : Nat) o, ops[j]? = some o → ∀ e, e ∈ o.after.toList → Region.binds .any e = true → e.on < j) {Q : Exit → Act → World → Prop} {S' : St} (hQ : ∀ a' w', Sim b N S' a' w' → Q .normal a' w') :
    ∀ (fuel : Nat) (R : List (Nat × Rec)) (listed : Array Bool) (S : St) (a : Act) (w : World), R.length = fuel → Runs E N ops R S S' → pairsOk ops bs R = true → Left ops bs R listed → Sim b N S a w → wpAny P .any ops Q fuel listed a w
  | 0, R, listed, S, a, w, hl, hr, _, hL, hs => by
    obtain rfl : R = [] := List.eq_nil_of_length_eq_zero hl
    cases hr
    refine ⟨?_, hQ _ _ hs⟩
    unfold Region.ready
    rw [List.filter_eq_nil_iff]
    intro i hi
    have hi' : i < ops.size := by simpa using hi
    have h1 := hL.not i hi'
    have h2 : listed[i]? = some true := by
      have h3 : i < listed.size := by rw [hL.size]; exact hi'
      rw [Array.getElem?_eq_getElem h3] at h1 ⊢
      cases h4 : listed[i] with
      | true => rfl
      | false => rw [h4] at h1; simp at h1
    have h5 : listed.getD i true = true := by rw [Array.getD_eq_getD_getElem?, h2]; rfl
    rw [h5]; simp
  | fuel + 1, R, listed, S, a, w, hl, hr, hp, hL, hs => by
    refine ⟨fun hnil => ?_, fun i hi => ?_⟩
    · -- the first that is left is ready
      exfalso
      cases R with
      | nil => simp at hl
      | cons q R =>
        have hq := hL.op q (by simp)
        have hqlt := hL.lt q (by simp)
        have hin : q.1 ∈ Region.ready .any ops listed := by
          unfold Region.ready
          rw [List.mem_filter]
          refine ⟨by simpa using hqlt, ?_⟩
          have h1 := (hL.not q.1 hqlt).2 (by simp)
          rw [Array.getD_eq_getD_getElem?, h1, hq]
          simp only [Option.getD_some, Bool.not_false, Bool.true_and, Option.map_some]
          rw [Array.all_eq_true']
          intro e he
          cases hbd : Region.binds .any e with
          | false => rfl
          | true =>
            have hlt := hbk q.1 _ hq e (Array.mem_toList_iff.2 he) hbd
            have h3 : e.on < listed.size := by rw [hL.size]; omega
            have h2 := hL.not e.on (by omega)
            have h4 : e.on ∉ (q :: R).map (·.1) := by
              intro hm
              have := hL.asc
              rw [List.map_cons, List.pairwise_cons] at this
              rcases List.mem_cons.1 hm with hm | hm
              · have hm' : e.on = q.1 := hm
                omega
              · have h9 : q.1 < e.on := this.1 e.on hm
                omega
            rw [Array.getD_eq_getD_getElem?]
            rw [Array.getElem?_eq_getElem h3] at h2 ⊢
            cases h5 : listed[e.on] with
            | true => rfl
            | false => rw [h5] at h2; exact absurd (h2.1 rfl) h4
        rw [hnil] at hin
        cases hin
    · unfold Region.ready at hi
      rw [List.mem_filter] at hi
      obtain ⟨hi1, hi2⟩ := hi
      have hilt : i < ops.size := by simpa using hi1
      simp only [Bool.and_eq_true, Bool.not_eq_true'] at hi2
      obtain ⟨hn, hpre⟩ := hi2
      have hlt : i < listed.size := by rw [hL.size]; exact hilt
      have hif : listed[i]? = some false := by
        rw [Array.getD_eq_getD_getElem?, Array.getElem?_eq_getElem hlt] at hn
        rw [Array.getElem?_eq_getElem hlt]
        simp only [Option.getD_some] at hn
        rw [hn]
      obtain ⟨q, hq, hqi⟩ := List.mem_map.1 ((hL.not i hilt).1 hif)
      subst hqi
      have hop := hL.op q hq
      rw [hop] at hpre
      simp only [Option.map_some, Option.getD_some] at hpre
      have hpre' : ∀ e, e ∈ q.2.o.after.toList → Region.binds .any e = true → listed[e.on]? = some true := by
        intro e he hbd
        rw [Array.all_eq_true'] at hpre
        have := hpre e (Array.mem_toList_iff.1 he)
        rw [hbd] at this
        simp only [Bool.not_true, Bool.false_or] at this
        rw [Array.getD_eq_getD_getElem?] at this
        cases h : listed[e.on]? with
        | none => rw [h] at this; cases this
        | some x => rw [h] at this; simp only [Option.getD_some] at this; rw [this]
      have hall : ∀ j, (bs.getD q.1 0).testBit j = true → listed[j]? = some true := by
        intro j hj
        obtain ⟨e, k1, k2, k3⟩ := hbs q.1 _ hop j hj
        have := hpre' e k1 k2
        rcases k3 with k3 | k3
        · rw [← k3]; exact this
        · exact hL.closed e.on this j k3
      obtain ⟨R1, R2, rfl⟩ := List.append_of_mem hq
      obtain ⟨p1, p2⟩ := pairs_mid R1 hp
      have hfront := Runs.front R1 (fun p hp' => by
        rcases p2 p hp' with h | h
        · have h1 := hall p.1 h
          have h2 := (hL.not p.1 (hL.lt p (by simp [hp']))).2 (List.mem_map.2 ⟨p, by simp [hp'], rfl⟩)
          rw [h1] at h2; cases h2
        · exact h) hr
      obtain ⟨qi, r⟩ := q
      cases hfront with
      | cons s1 s2 =>
        unfold wpOp
        rw [hop]
        simp only
        have hrec : ∀ a' w', Sim b N (S.app r.o.dst r.out) a' w' → wpAny P .any ops Q fuel (listed.setIfInBounds qi true) a' w' := by
          intro a' w' hs'
          refine any_sound hE hF hN bs hbs hbk hQ fuel (R1 ++ R2) _ _ a' w' ?_ s2 p1 ?_ hs'
          · simp only [List.length_append, List.length_cons] at hl ⊢; omega
          · have hasc := hL.asc
            rw [List.map_append, List.map_cons, List.pairwise_append, List.pairwise_cons] at hasc
            obtain ⟨g1, ⟨g2, g3⟩, g4⟩ := hasc
            refine ⟨by simp [hL.size], fun p hp => ?_, fun i hi => ?_, fun p hp => ?_, ?_, ?_⟩
            · rcases List.mem_append.1 hp with h | h
              · exact hL.lt p (by simp [h])
              · exact hL.lt p (by simp [h])
            · by_cases hiq : i = qi
              · subst hiq
                rw [Array.getElem?_setIfInBounds_self_of_lt hlt]
                simp only [Option.some.injEq, Bool.true_eq_false, false_iff]
                rw [List.map_append]
                intro hm
                rcases List.mem_append.1 hm with hm | hm
                · have := g4 i hm i (by simp); omega
                · have := g2 i hm; omega
              · rw [Array.getElem?_setIfInBounds_ne (Ne.symm hiq), hL.not i hi]
                simp [hiq]
            · rcases List.mem_append.1 hp with h | h
              · exact hL.op p (by simp [h])
              · exact hL.op p (by simp [h])
            · rw [List.map_append, List.pairwise_append]
              exact ⟨g1, g3, fun x hx y hy => g4 x hx y (List.mem_cons_of_mem _ hy)⟩
            · intro j hj i hi
              have hsub : ∀ m : Nat, listed[m]? = some true → (listed.setIfInBounds qi true)[m]? = some true := by
                intro m hm
                by_cases hmq : m = qi
                · subst hmq; rw [Array.getElem?_setIfInBounds_self_of_lt hlt]
                · rw [Array.getElem?_setIfInBounds_ne (Ne.symm hmq)]; exact hm
              by_cases hjq : j = qi
              · subst hjq
                exact hsub i (hall i hi)
              · rw [Array.getElem?_setIfInBounds_ne (Ne.symm hjq)] at hj
                exact hsub i (hL.closed j hj i hi)
        have := s1.runs (Q := Q) hE hF hN hs hrec
        split
        · rename_i hw; rw [if_pos hw] at this; exact .inl this
        · rename_i hw; rw [if_neg hw] at this; exact this
theorem Sim.drawn {S : St} {a : Act} {w : World} (h : Sim b N S a w) : Sim b N S a { w with drawn := w.drawn + 1 } := by
  obtain ⟨c, hi, hs, hfx⟩ := h
  have hst : Step w { w with drawn := w.drawn + 1 } (fun _ => False) := ⟨rfl, rfl, rfl, Nat.le_refl _, fun _ _ _ => rfl⟩
  obtain ⟨c', _, _, h3, h4, _⟩ := hi.many (S' := S) (w' := { w with drawn := w.drawn + 1 }) (fun _ => none) [] [] [] (fun k => by simp) rfl (fun k i _ => by rw [Leaf.kp_nil]) (fun k o _ hk => by rcases hk with hk | hk; cases hk; exact absurd rfl hk)
    (hst.mono fun _ h => h.elim) (fun k n hk => by cases hk) (fun k n hk => by cases hk) (fun k n k' n' _ hk => by cases hk) (fun _ _ _ k n hk => by cases hk) (fun _ _ _ _ _ k n hk => by cases hk)
  have hdid : Did b S c w ⟨.no, [], []⟩ undef { w with drawn := w.drawn + 1 } := ⟨c', h3, h4, trivial⟩
  exact hdid.sim hs none (fun k hk => by cases hk) hfx (fun k hk => by cases hk)
theorem numbered_map : ∀ (rs : List Rec) (n : Nat), (numbered rs n).map (·.1) = List.range' n rs.length
  | [], _ => rfl
  | r :: rs, n => by rw [numbered, List.map_cons, numbered_map rs (n + 1), List.length_cons, List.range'_succ]
theorem numbered_at : ∀ (rs : List Rec) (n : Nat) (p : Nat × Rec), p ∈ numbered rs n → n ≤ p.1 ∧ rs[p.1 - n]? = some p.2
  | [], _, p, h => by cases h
  | r :: rs, n, p, h => by
    rw [numbered] at h
    rcases List.mem_cons.1 h with rfl | h
    · simp
    · obtain ⟨h1, h2⟩ := numbered_at rs (n + 1) p h
      refine ⟨by omega, ?_⟩
      rw [show p.1 - n = (p.1 - (n + 1)) + 1 by omega, List.getElem?_cons_succ]; exact h2
theorem region_ok (hE : EnvOk P E) (hF : ∀ p, p ∈ b.fx → E.fx.contains p.1 = true) (hN : N < b.n1) {id : Nat} {draw : Bool} {S S' : St} (h : (regionT E N ops draw S).run = some S') {a : Act} {w : World} (hs : Sim b N S a w) {Q : Exit → Act → World → Prop} (hQ : ∀ a' w', Sim b N S' a' w' → Q .normal a' w') :
    (Code.region id ops draw).wp P Q a w := by
  unfold regionT at h
  split at h
  · rename_i hd
    subst hd
    simp only [run_bind, Option.bind_eq_some_iff] at h
    obtain ⟨⟨S1, rs⟩, h1, h2⟩ := h
    split at h2
    · rename_i hc
      simp only [Tr.run, Option.some.injEq] at h2
      subst h2
      simp only [Bool.and_eq_true] at hc
      obtain ⟨hc1, hc2⟩ := hc
      obtain ⟨rs', k0, k1, k2⟩ := regR_runs ops.toList S S1 [] rs 0 h1
      simp only [List.reverse_nil, List.nil_append] at k0
      subst k0
      have hlen : rs.length = ops.size := by rw [← List.length_map (f := (·.o)), k1]; simp
      have hat : ∀ p, p ∈ numbered rs 0 → ops[p.1]? = some p.2.o := by
        intro p hp
        obtain ⟨_, h4⟩ := numbered_at rs 0 p hp
        rw [Nat.sub_zero] at h4
        have : (rs.map (·.o))[p.1]? = some p.2.o := by rw [List.getElem?_map, h4]; rfl
        rw [k1, Array.getElem?_toList] at this
        exact this
      refine wp_region_any hE.mix ?_
      refine any_sound hE hF hN (ahead ops.toList []) (fun j o ho i hi => ?_) (fun j o ho e he hb => ?_) hQ ops.size (numbered rs 0) _ S a _ ?_ k2 hc1 ?_ hs.drawn
      · have := (ahead_spec ops.toList []).2 j o (by rw [Array.getElem?_toList]; exact ho) i (by simpa using hi)
        exact this
      · have := backward_spec ops.toList 0 hc2 j o (by rw [Array.getElem?_toList]; exact ho) e he hb
        omega
      · rw [← List.length_map (f := (·.1)), numbered_map]; simp [hlen]
      · refine ⟨by simp, fun p hp => (Array.getElem?_eq_some_iff.1 (hat p hp)).1, fun i hi => ?_, hat, ?_, fun j hj i hi => ?_⟩
        · rw [numbered_map]
          simp only [List.mem_range'_1, Nat.zero_le, Nat.zero_add, true_and, hlen, hi, iff_true]
          rw [Array.getElem?_eq_getElem (by simpa using hi)]; simp
        · rw [numbered_map]; exact List.pairwise_lt_range'
        · have := (Array.getElem?_eq_some_iff.1 hj)
          obtain ⟨h5, h6⟩ := this
          simp at h6
    · simp [Tr.run] at h2
  · rename_i hd
    have hd' : draw = false := by simpa using hd
    subst hd'
    obtain ⟨rs, k1, k2⟩ := regT_runs ops.toList S S' 0 h
    refine wp_region_list ?_
    rw [← k1]
    exact Runs.list hE hF hN rs 0 k2 hs hQ
end
end Go.V

namespace Go.V
def Ex.out : Ex → Exit
  | .n => .normal
  | .x id => .exit id
  | .r => .ret
section
variable {P : Program} {E : Env} {b : Base} {N : Nat}
theorem opt_run {α : Type} {o : Option α} {x : α} (h : (Tr.opt o).run = some x) : o = some x := by
  cases o with
  | none => simp [Tr.run] at h
  | some a => simpa [Tr.run] using h
theorem Joins.ok : ∀ (J : Joins) {e e' : Ex} {S S' : St} {x : J.D}, J.prj e S = some x → (J.inj x).run = some (e', S') → e = e' ∧ ∀ {a w}, Sim b N S a w → Sim b N S' a w
  | [], e, e', S, S', x, _, _ => nomatch x
  | [t], e, e', S, S', x, h, h' => by
    simp only [Joins.prj] at h
    split at h
    · rename_i he
      simp only [Joins.inj, Tr.run, Option.some.injEq, Prod.mk.injEq] at h'
      obtain ⟨h1, h2⟩ := h'
      subst h2
      exact ⟨he.trans h1, fun hs => t.2.ok h hs⟩
    · cases h
  | t :: u :: l, e, e', S, S', x, h, h' => by
    simp only [Joins.prj] at h
    split at h
    · rename_i he
      split at h
      · rename_i y hy
        injection h with h
        subst h
        simp only [Joins.inj, Tr.run, Option.some.injEq, Prod.mk.injEq] at h'
        obtain ⟨h1, h2⟩ := h'
        subst h2
        exact ⟨he.trans h1, fun hs => t.2.ok hy hs⟩
      · cases h
    · split at h
      · rename_i y hy
        injection h with h
        subst h
        exact Joins.ok (u :: l) hy h'
      · cases h
theorem joined_ok {J : Joins} {t : Tr (Ex × St)} {e : Ex} {S' : St} (h : (joined J t).run = some (e, S')) : ∃ S0, t.run = some (e, S0) ∧ ∀ {a w}, Sim b N S0 a w → Sim b N S' a w := by
  cases J with
  | nil => exact ⟨S', h, fun hs => hs⟩
  | cons j l =>
    simp only [joined, run_get, Option.bind_eq_some_iff] at h
    obtain ⟨x, hx, h⟩ := h
    rw [run_bind, Option.bind_eq_some_iff] at hx
    obtain ⟨⟨e0, S0⟩, h1, h2⟩ := hx
    obtain ⟨k1, k2⟩ := Joins.ok (b := b) (N := N) (j :: l) (opt_run h2) h
    subst k1
    exact ⟨S0, h1, k2⟩
def CodeOk (P : Program) (b : Base) (N : Nat) (c : Code) (S : St) (e : Ex) (S' : St) : Prop :=
  ∀ {a : Act} {w : World} {Q : Exit → Act → World → Prop}, Sim b N S a w → (∀ a' w', Sim b N S' a' w' → Q e.out a' w') → c.wp P Q a w
theorem weak {c : Code} {S S0 S' : St} {e : Ex} (h : CodeOk P b N c S e S0) (hw : ∀ {a w}, Sim b N S0 a w → Sim b N S' a w) : CodeOk P b N c S e S' :=
  fun hs hQ => h hs fun a' w' hs' => hQ a' w' (hw hs')
theorem then_out {e : Ex} {next : Act → World → Prop} {Q : Exit → Act → World → Prop} {a : Act} {w : World} : Exit.then next Q e.out a w ↔ (match e with | .n => next a w | e => Q e.out a w) := by
  cases e <;> exact Iff.rfl
theorem seq_ok {c d : Code} {S : St} {x y : Ann} {e : Ex} {S' : St} (ih1 : ∀ {ann S e S'}, (vcode E N ann c S).run = some (e, S') → CodeOk P b N c S e S') (ih2 : ∀ {ann S e S'}, (vcode E N ann d S).run = some (e, S') → CodeOk P b N d S e S')
    (h : ((vcode E N x c S).bind fun r => match r.1 with | .n => vcode E N y d r.2 | e => .ret (e, r.2)).run = some (e, S')) : CodeOk P b N (.seq c d) S e S' := by
  rw [run_bind, Option.bind_eq_some_iff] at h
  obtain ⟨⟨e1, S1⟩, h1, h2⟩ := h
  intro a w Q hs hQ
  refine wp_seq (ih1 h1 hs fun a' w' hs' => then_out.2 ?_)
  cases e1 with
  | n => exact ih2 h2 hs' hQ
  | x id =>
    simp only [Tr.run, Option.some.injEq, Prod.mk.injEq] at h2
    obtain ⟨k1, k2⟩ := h2
    subst k1 k2
    exact hQ a' w' hs'
  | r =>
    simp only [Tr.run, Option.some.injEq, Prod.mk.injEq] at h2
    obtain ⟨k1, k2⟩ := h2
    subst k1 k2
    exact hQ a' w' hs'
theorem cond_ok {o : Operand} {c d : Code} {S : St} {t : Bool} {x y : Ann} {e : Ex} {S' : St} (ih1 : ∀ {ann S e S'}, (vcode E N ann c S).run = some (e, S') → CodeOk P b N c S e S') (ih2 : ∀ {ann S e S'}, (vcode E N ann d S).run = some (e, S') → CodeOk P b N d S e S')
    (ho : opnd S o = .s (.one (.v .bool t))) (h : (Tr.br t (vcode E N x c S) (vcode E N y d S)).run = some (e, S')) : CodeOk P b N (.cond o c d) S e S' := by
  intro a w Q hs hQ
  have hb : a.eval o = .bool t := by
    obtain ⟨c, _, hsl, _⟩ := hs
    have := opnd_ok hsl o
    rw [ho] at this
    exact bool_leaf (leaf_sv this)
  refine wp_cond hb ?_
  simp only [Tr.run] at h
  split at h
  · rename_i ht; rw [if_pos ht]; exact ih1 h hs hQ
  · rename_i ht; rw [if_neg ht]; exact ih2 h hs hQ
theorem bothQ_some {α : Type} {e : Bool} {x y : Option α} {z : α} (h : bothQ e x y = some z) : y = some z ∧ (e = true → x = some z) := by
  unfold bothQ at h
  split at h
  · split at h
    · rename_i hxy; exact ⟨h, fun _ => by rw [hxy]; exact h⟩
    · cases h
  · rename_i he; exact ⟨h, fun h' => absurd h' he⟩
theorem condq_ok {o : Operand} {c d : Code} {S : St} {q : Bool} {x y : Ann} {J : Joins} {z : J.D} {e : Ex} {S' : St} (ih1 : ∀ {ann S e S'}, (vcode E N ann c S).run = some (e, S') → CodeOk P b N c S e S') (ih2 : ∀ {ann S e S'}, (vcode E N ann d S).run = some (e, S') → CodeOk P b N d S e S')
    (ho : opnd S o = .s (.one (.qn q))) (hz : bothQ q ((vcode E N x c S).bind fun r => Tr.opt (Joins.prj J r.1 r.2)).run ((vcode E N y d S).bind fun r => Tr.opt (Joins.prj J r.1 r.2)).run = some z)
    (h : (J.inj z).run = some (e, S')) : CodeOk P b N (.cond o c d) S e S' := by
  obtain ⟨hB, hA⟩ := bothQ_some hz
  have side : ∀ {k : Code} {v : Ann}, (∀ {ann S e S'}, (vcode E N ann k S).run = some (e, S') → CodeOk P b N k S e S') → ((vcode E N v k S).bind fun r => Tr.opt (Joins.prj J r.1 r.2)).run = some z → CodeOk P b N k S e S' := by
    intro k v ih hk
    rw [run_bind, Option.bind_eq_some_iff] at hk
    obtain ⟨⟨e1, S1⟩, h1, h2⟩ := hk
    obtain ⟨k1, k2⟩ := Joins.ok (b := b) (N := N) J (opt_run h2) h
    subst k1
    exact weak (ih h1) k2
  intro a w Q hs hQ
  obtain ⟨r, hb, hr⟩ : ∃ r : Bool, a.eval o = .bool r ∧ (r = true → q = true) := by
    obtain ⟨c, _, hsl, _⟩ := hs
    have := opnd_ok hsl o
    rw [ho] at this
    exact this
  refine wp_cond hb ?_
  split
  · rename_i hrt; exact side ih1 (hA (hr hrt)) hs hQ
  · exact side ih2 hB hs hQ
def AllOk (P : Program) (E : Env) (b : Base) (N : Nat) (c : Code) : Prop := ∀ (ann : Ann) (S : St) (e : Ex) (S' : St), (vcode E N ann c S).run = some (e, S') → CodeOk P b N c S e S'
def SubOk (P : Program) (E : Env) (b : Base) (N : Nat) (c : Code) : Prop := match c with
  | .cond _ x y => AllOk P E b N x ∧ AllOk P E b N y
  | .seq r (.cond _ x y) => AllOk P E b N r ∧ AllOk P E b N x ∧ AllOk P E b N y
  | _ => True
theorem both_side {k d : Code} {S : St} {v y : Ann} {J : Joins} {z : J.D} {e : Ex} {S' : St} (hk : AllOk P E b N k) (hd : AllOk P E b N d)
    (hz : (((vcode E N v k S).bind fun p => match p.1 with | .n => vcode E N y d p.2 | e => .ret (e, p.2)).bind fun t => Tr.opt (Joins.prj J t.1 t.2)).run = some z) (h : (J.inj z).run = some (e, S'))
    {a : Act} {w : World} {Q : Exit → Act → World → Prop} (hs : Sim b N S a w) (hQ : ∀ a' w', Sim b N S' a' w' → Q e.out a' w') : k.wp P (Exit.then (fun a w => d.wp P Q a w) Q) a w := by
  rw [run_bind, Option.bind_eq_some_iff] at hz
  obtain ⟨⟨e1, S1⟩, h1, h2⟩ := hz
  obtain ⟨k1, k2⟩ := Joins.ok (b := b) (N := N) J (opt_run h2) h
  subst k1
  rw [run_bind, Option.bind_eq_some_iff] at h1
  obtain ⟨⟨e3, S3⟩, h3, h4⟩ := h1
  refine hk _ _ _ _ h3 hs fun a' w' hs' => then_out.2 ?_
  cases e3 with
  | n => exact hd _ _ _ _ h4 hs' fun a2 w2 hs2 => hQ a2 w2 (k2 hs2)
  | x id =>
    simp only [Tr.run, Option.some.injEq, Prod.mk.injEq] at h4
    obtain ⟨q1, q2⟩ := h4
    subst q1 q2
    exact hQ a' w' (k2 hs')
  | r =>
    simp only [Tr.run, Option.some.injEq, Prod.mk.injEq] at h4
    obtain ⟨q1, q2⟩ := h4
    subst q1 q2
    exact hQ a' w' (k2 hs')
theorem both_ok {o : Operand} {r c1 c2 d : Code} {S : St} {J : Joins} {xr xa xb y z : Ann} {e : Ex} {S' : St} (hr : AllOk P E b N r) (h1 : AllOk P E b N c1) (h2 : AllOk P E b N c2) (hd : AllOk P E b N d)
    (h : (vcode E N (.both J xr xa xb y z) (.seq (.seq r (.cond o c1 c2)) d) S).run = some (e, S')) : CodeOk P b N (.seq (.seq r (.cond o c1 c2)) d) S e S' := by
  rw [vcode, run_bind, Option.bind_eq_some_iff] at h
  obtain ⟨⟨e1, S1⟩, h3, h4⟩ := h
  intro a w Q hs hQ
  refine wp_seq (wp_seq (hr _ _ _ _ h3 hs fun a' w' hs' => then_out.2 ?_))
  cases e1 with
  | x id =>
    simp only [Tr.run, Option.some.injEq, Prod.mk.injEq] at h4
    obtain ⟨q1, q2⟩ := h4
    subst q1 q2
    exact then_out (e := .x id).2 (hQ a' w' hs')
  | r =>
    simp only [Tr.run, Option.some.injEq, Prod.mk.injEq] at h4
    obtain ⟨q1, q2⟩ := h4
    subst q1 q2
    exact then_out (e := .r).2 (hQ a' w' hs')
  | n =>
    simp only at h4
    split at h4
    · rename_i q ho
      rw [run_get, Option.bind_eq_some_iff] at h4
      obtain ⟨t, ht, h5⟩ := h4
      obtain ⟨hB, hA⟩ := bothQ_some ht
      obtain ⟨g, hb, hg⟩ : ∃ g : Bool, a'.eval o = .bool g ∧ (g = true → q = true) := by
        obtain ⟨c, _, hsl, _⟩ := hs'
        have := opnd_ok hsl o
        rw [ho] at this
        exact this
      refine wp_cond hb ?_
      split
      · rename_i hgt; exact both_side h1 hd (hA (hg hgt)) h5 hs' hQ
      · exact both_side h2 hd hB h5 hs' hQ
    · simp [Tr.run] at h4
theorem block_ok {id : Nat} {c : Code} {S : St} {x : Ann} {e : Ex} {S' : St} (ih1 : ∀ {ann S e S'}, (vcode E N ann c S).run = some (e, S') → CodeOk P b N c S e S')
    (h : ((vcode E N x c S).bind fun r => .ret (if r.1 = .x id then .n else r.1, r.2)).run = some (e, S')) : CodeOk P b N (.block id c) S e S' := by
  rw [run_bind, Option.bind_eq_some_iff] at h
  obtain ⟨⟨e1, S1⟩, h1, h2⟩ := h
  simp only [Tr.run, Option.some.injEq, Prod.mk.injEq] at h2
  obtain ⟨k1, k2⟩ := h2
  subst k2
  intro a w Q hs hQ
  refine wp_block (ih1 h1 hs fun a' w' hs' => ?_)
  have := hQ a' w' hs'
  cases e1 with
  | n => simp only [reduceCtorEq, if_false] at k1; subst k1; exact this
  | x id' =>
    by_cases hid : id' = id
    · subst hid
      simp only [if_true] at k1
      subst k1
      simp only [Ex.out, Exit.inBlock, if_true]
      exact this
    · have : ¬ (Ex.x id' = Ex.x id) := fun h => hid (by injection h)
      rw [if_neg this] at k1
      subst k1
      simp only [Ex.out, Exit.inBlock, hid, if_false]
      assumption
  | r => simp only [reduceCtorEq, if_false] at k1; subst k1; exact this
theorem loop_ok {c : Code} {S : St} {t : Tpl} {J : Joins} {x : Ann} {e : Ex} {S' : St} (ih1 : ∀ {ann S e S'}, (vcode E N ann c S).run = some (e, S') → CodeOk P b N c S e S') {x0 : t.D} (hx : t.prj S = some x0)
    (h : (Tr.get (Joins.D J) (loopG (fun y : t.D => ((vcode E N x c (t.inj y)).bind fun r => match r.1 with
        | .n => Tr.opt (match t.prj r.2 with | some z => some (Sum.inl (β := Joins.D J) z) | none => none)
        | e => Tr.opt (match J.prj e r.2 with | some z => some (Sum.inr (α := t.D) z) | none => none)).run) x0) J.inj).run = some (e, S')) : CodeOk P b N (.loop c) S e S' := by
  rw [run_get, Option.bind_eq_some_iff] at h
  obtain ⟨y, hy, h⟩ := h
  obtain ⟨n0, hn0⟩ := (loopG_some _ _ _).1 hy
  intro a w Q hs hQ
  generalize hf : (fun y : t.D => ((vcode E N x c (t.inj y)).bind fun r => match r.1 with
        | .n => Tr.opt (match t.prj r.2 with | some z => some (Sum.inl (β := Joins.D J) z) | none => none)
        | e => Tr.opt (match J.prj e r.2 with | some z => some (Sum.inr (α := t.D) z) | none => none)).run) = f at hn0
  refine wp_loop_ghost (fun n a w => ∃ x, Sim b N (t.inj x) a w ∧ loopN f n x = some y) n0 ⟨x0, t.ok hx hs, hn0⟩ ?_
  rintro n a w ⟨z, hz, hn⟩
  cases n with
  | zero => simp [loopN] at hn
  | succ n =>
    simp only [loopN] at hn
    have hfz : f z = ((vcode E N x c (t.inj z)).bind fun r => match r.1 with
        | .n => Tr.opt (match t.prj r.2 with | some z => some (Sum.inl (β := Joins.D J) z) | none => none)
        | e => Tr.opt (match J.prj e r.2 with | some z => some (Sum.inr (α := t.D) z) | none => none)).run := by rw [← hf]
    cases hfv : f z with
    | none => rw [hfv] at hn; cases hn
    | some v =>
      rw [hfv] at hn hfz
      have hfz' := hfz.symm
      rw [run_bind, Option.bind_eq_some_iff] at hfz'
      obtain ⟨⟨e1, S1⟩, h1, h2⟩ := hfz'
      refine ih1 h1 hz fun a' w' hs' => then_out.2 ?_
      have other : ∀ e2, (Tr.opt (match J.prj e2 S1 with | some z => some (Sum.inr (α := t.D) z) | none => none)).run = some v → Q e2.out a' w' := by
        intro e2 h2
        have h3 := opt_run h2
        split at h3
        · rename_i z' hz'
          injection h3 with h3
          subst h3
          simp only [Option.some.injEq] at hn
          subst hn
          obtain ⟨k1, k2⟩ := Joins.ok (b := b) (N := N) J hz' h
          subst k1
          exact hQ a' w' (k2 hs')
        · cases h3
      cases e1 with
      | n =>
        have h3 := opt_run h2
        split at h3
        · rename_i z' hz'
          injection h3 with h3
          subst h3
          exact ⟨n, by omega, z', t.ok hz' hs', hn⟩
        · cases h3
      | x id => exact other _ h2
      | r => exact other _ h2
theorem vcode_ok (hE : EnvOk P E) (hF : ∀ p, p ∈ b.fx → E.fx.contains p.1 = true) (hN : N < b.n1) (c : Code) : ∀ {ann : Ann} {S : St} {e : Ex} {S' : St}, (vcode E N ann c S).run = some (e, S') → CodeOk P b N c S e S' := by
  have reg : ∀ {id : Nat} {ops : Array Oper} {draw : Bool} {S : St} {e : Ex} {S' : St}, ((regionT E N ops draw S).bind fun S => .ret (.n, S)).run = some (e, S') → CodeOk P b N (.region id ops draw) S e S' := by
    intro id ops draw S e S' h
    rw [run_bind, Option.bind_eq_some_iff] at h
    obtain ⟨S1, h1, h2⟩ := h
    simp only [Tr.run, Option.some.injEq, Prod.mk.injEq] at h2
    obtain ⟨k1, k2⟩ := h2
    subst k1 k2
    intro a w Q hs hQ
    exact region_ok hE hF hN h1 hs hQ
  suffices hh : AllOk P E b N c ∧ SubOk P E b N c by
    intro ann S e S' h
    exact hh.1 _ _ _ _ h
  induction c with
  | skip =>
    refine ⟨?_, trivial⟩
    intro ann S e S' h
    have : vcode E N ann .skip S = .ret (.n, S) := by cases ann <;> rfl
    rw [this] at h
    simp only [Tr.run, Option.some.injEq, Prod.mk.injEq] at h
    obtain ⟨k1, k2⟩ := h
    subst k1 k2
    intro a w Q hs hQ
    exact wp_skip (hQ a w hs)
  | region id ops draw =>
    refine ⟨?_, trivial⟩
    intro ann S e S' h
    cases ann with
    | reg J =>
      obtain ⟨S0, h1, h2⟩ := joined_ok (b := b) (N := N) (show (joined J ((regionT E N ops draw S).bind fun S => .ret (.n, S))).run = some (e, S') from h)
      exact weak (reg h1) h2
    | _ => exact reg h
  | seq c d ih1 ih2 =>
    have i1 : ∀ {ann S e S'}, (vcode E N ann c S).run = some (e, S') → CodeOk P b N c S e S' := fun h => ih1.1 _ _ _ _ h
    have i2 : ∀ {ann S e S'}, (vcode E N ann d S).run = some (e, S') → CodeOk P b N d S e S' := fun h => ih2.1 _ _ _ _ h
    refine ⟨?_, ?_⟩
    · intro ann S e S' h
      cases ann with
      | seq x y => exact seq_ok i1 i2 h
      | nil => exact seq_ok i1 i2 h
      | both J xr xa xb y z =>
        match c, ih1, h with
        | .seq r (.cond o c1 c2), ih1, h => (intro a w Q hs hQ; exact both_ok ih1.2.1 ih1.2.2.1 ih1.2.2.2 ih2.1 h hs hQ)
        | .seq _ (.skip), _, h | .seq _ (.region ..), _, h | .seq _ (.seq ..), _, h | .seq _ (.block ..), _, h | .seq _ (.loop ..), _, h | .seq _ (.rangeFunc ..), _, h | .seq _ (.exit ..), _, h | .seq _ (.scope ..), _, h | .seq _ (.label ..), _, h | .seq _ (.goto ..), _, h | .seq _ (.ret), _, h | .seq _ (.refuse ..), _, h => cases h
        | .skip, _, h | .region .., _, h | .cond .., _, h | .block .., _, h | .loop .., _, h | .rangeFunc .., _, h | .exit .., _, h | .scope .., _, h | .label .., _, h | .goto .., _, h | .ret, _, h | .refuse .., _, h => cases h
      | _ => cases h
    · cases d with
      | cond o c1 c2 => exact ⟨ih1.1, ih2.2.1, ih2.2.2⟩
      | _ => trivial
  | cond o c d ih1' ih2' =>
    have ih1 : ∀ {ann S e S'}, (vcode E N ann c S).run = some (e, S') → CodeOk P b N c S e S' := fun h => ih1'.1 _ _ _ _ h
    have ih2 : ∀ {ann S e S'}, (vcode E N ann d S).run = some (e, S') → CodeOk P b N d S e S' := fun h => ih2'.1 _ _ _ _ h
    refine ⟨?_, ih1'.1, ih2'.1⟩
    intro ann S e S' h
    cases ann with
    | cond J x y =>
      simp only [vcode] at h
      split at h
      · rename_i t ho
        obtain ⟨S0, h1, h2⟩ := joined_ok (b := b) (N := N) h
        exact weak (cond_ok ih1 ih2 ho h1) h2
      · rename_i e0 ho
        rw [run_get, Option.bind_eq_some_iff] at h
        obtain ⟨z, hz, h⟩ := h
        exact condq_ok ih1 ih2 ho hz h
      · cases h
    | nil =>
      simp only [vcode] at h
      split at h
      · rename_i t ho
        exact cond_ok ih1 ih2 ho h
      · cases h
    | _ => cases h
  | block id c ih1' =>
    have ih1 : ∀ {ann S e S'}, (vcode E N ann c S).run = some (e, S') → CodeOk P b N c S e S' := fun h => ih1'.1 _ _ _ _ h
    refine ⟨?_, trivial⟩
    intro ann S e S' h
    cases ann with
    | block J x =>
      obtain ⟨S0, h1, h2⟩ := joined_ok (b := b) (N := N) h
      exact weak (block_ok ih1 h1) h2
    | nil => exact block_ok ih1 h
    | _ => cases h
  | loop c ih1' =>
    have ih1 : ∀ {ann S e S'}, (vcode E N ann c S).run = some (e, S') → CodeOk P b N c S e S' := fun h => ih1'.1 _ _ _ _ h
    refine ⟨?_, trivial⟩
    intro ann S e S' h
    cases ann with
    | loop t J x =>
      simp only [vcode] at h
      split at h
      · rename_i x0 hx
        exact loop_ok ih1 hx h
      · cases h
    | _ => cases h
  | exit id =>
    refine ⟨?_, trivial⟩
    intro ann S e S' h
    have : vcode E N ann (.exit id) S = .ret (.x id, S) := by cases ann <;> rfl
    rw [this] at h
    simp only [Tr.run, Option.some.injEq, Prod.mk.injEq] at h
    obtain ⟨k1, k2⟩ := h
    subst k1 k2
    intro a w Q hs hQ
    exact wp_exit (hQ a w hs)
  | ret =>
    refine ⟨?_, trivial⟩
    intro ann S e S' h
    have : vcode E N ann .ret S = .ret (.r, S) := by cases ann <;> rfl
    rw [this] at h
    simp only [Tr.run, Option.some.injEq, Prod.mk.injEq] at h
    obtain ⟨k1, k2⟩ := h
    subst k1 k2
    intro a w Q hs hQ
    exact wp_ret (hQ a w hs)
  | _ =>
    refine ⟨?_, trivial⟩
    intro ann S e S' h
    cases ann <;> cases h
end
end Go.V

namespace Go.V
open Go.RowKit
section
variable {P : Program} {E : Env} {b : Base} {S : St} {c : Cc} {w : World}
theorem outLeaf_ok (hi : Inv b S w c) {t : Ty} {l : Leaf} {v : Value} {y : ALeaf × List Nat} (hl : LeafOk S c w (Kok b S c) l v) (h : (outLeaf t l).ev S = some y) :
    Ows S y.2 ∧ ∃ G, ALOk w (Kok b S c) y.1 v G ∧ G.Nodup ∧ Held c y.2 G := by
  have hn : Ows S [] := fun k hk => (by cases hk)
  have hh : Held c [] [] := fun g hg => (by cases hg)
  unfold outLeaf at h
  split at h
  · simp only [Tr.ev, Option.some.injEq] at h
    subst h
    exact ⟨hn, [], ⟨hl, fun _ => rfl⟩, by simp, hh⟩
  · obtain rfl : v = .slice none 0 0 := hl
    split at h
    · simp only [Tr.ev, Option.some.injEq] at h
      subst h
      refine ⟨hn, [], ⟨?_, fun _ => rfl⟩, by simp, hh⟩
      simp only [Rp]; exact .inl ⟨trivial, trivial, trivial⟩
    · simp [Tr.ev] at h
  · rename_i k win
    simp only [ev_bind, Option.bind_eq_some_iff, Tr.ev, Option.some.injEq] at h
    obtain ⟨o, ho, h⟩ := h
    subst h
    obtain ⟨h1, F', h2, h3, h4⟩ := view_own hi hl ho
    exact ⟨fun k' hk' => (by simp only [List.mem_singleton] at hk'; subst hk'; exact h1), F', ⟨h2, fun h => (by simp [Ty.own] at h)⟩, h4, fun g hg => ⟨k, by simp, h3 g hg⟩⟩
  · simp [Tr.ev] at h
def Outs (S : St) (c : Cc) (gv G : List Nat) : Prop := Ows S gv ∧ (unlike gv = true → G.Nodup) ∧ Held c gv G
theorem Outs.nil : Outs S c [] [] := ⟨fun k hk => (by cases hk), fun _ => by simp, fun g hg => (by cases hg)⟩
theorem Outs.append (hi : Inv b S w c) {k l G H : List Nat} (h1 : Outs S c k G) (h2 : Outs S c l H) : Outs S c (k ++ l) (G ++ H) := by
  refine ⟨ows_append h1.1 h2.1, fun hu => ?_, fun g hg => ?_⟩
  · obtain ⟨u1, u2, _⟩ := unlike_append hu
    exact (held_append hi h1.2.2 h2.2.2 h1.1 h2.1 hu (h1.2.1 u1) (h2.2.1 u2)).2
  · rcases List.mem_append.1 hg with hg | hg
    · obtain ⟨k, h, h'⟩ := h1.2.2 g hg; exact ⟨k, by simp [h], h'⟩
    · obtain ⟨k, h, h'⟩ := h2.2.2 g hg; exact ⟨k, by simp [h], h'⟩
theorem outLeaves_ok (hi : Inv b S w c) : ∀ {ls : List Leaf} {ts : List Ty} {vs : List Value} {y : List ALeaf × List Nat}, All2 (LeafOk S c w (Kok b S c)) ls vs → (outLeaves ts ls).ev S = some y →
    ∃ G, FL (ALOk w (Kok b S c)) y.1 vs G ∧ Outs S c y.2 G
  | [], [], _, y, .nil, h => by
    rw [outLeaves] at h
    simp only [Tr.ev, Option.some.injEq] at h
    subst h
    exact ⟨[], ⟨rfl, rfl⟩, Outs.nil⟩
  | l :: ls, t :: ts, _, y, .cons (b := v) (bs := vs) h1 h2, h => by
    rw [outLeaves] at h
    simp only [ev_bind, Option.bind_eq_some_iff, Tr.ev, Option.some.injEq] at h
    obtain ⟨y1, hy1, y2, hy2, rfl⟩ := h
    obtain ⟨k1, G, k2, k3, k4⟩ := outLeaf_ok hi h1 hy1
    obtain ⟨H, m2, m3⟩ := outLeaves_ok hi h2 hy2
    exact ⟨G ++ H, ⟨v, vs, G, H, rfl, rfl, k2, m2⟩, Outs.append hi ⟨k1, fun _ => k3, k4⟩ m3⟩
  | [], _ :: _, _, _, _, h => by simp [outLeaves, Tr.ev] at h
  | _ :: _, [], _, _, _, h => by simp [outLeaves, Tr.ev] at h
theorem outVal_ok (hi : Inv b S w c) {N M : Nat} (hN : b.n1 = N + 1) (hM : b.ms.length = M) {t : TypeId} {x : SV} {v : Value} {y : A1 × List Nat} (hx : SVOk S c w (Kok b S c) x v) (h : (outVal E N M t x).ev S = some y) :
    ∃ G, A1Ok w (Kok b S c) b.ms y.1 v G ∧ Outs S c y.2 G := by
  unfold outVal at h
  split at h
  · simp only [ev_bind, Option.bind_eq_some_iff, Tr.ev, Option.some.injEq] at h
    obtain ⟨z, hz, h⟩ := h
    subst h
    obtain ⟨k1, G, k2, k3, k4⟩ := outLeaf_ok hi (leaf_sv hx) hz
    exact ⟨G, k2, k1, fun _ => k3, k4⟩
  · simp only [ev_bind, Option.bind_eq_some_iff, Tr.ev, Option.some.injEq] at h
    obtain ⟨z, hz, h⟩ := h
    subst h
    obtain ⟨vs, rfl, hx⟩ := hx
    obtain ⟨G, k1, k2⟩ := outLeaves_ok hi hx hz
    exact ⟨G, ⟨vs, rfl, k1⟩, k2⟩
  · rename_i k off
    split at h
    · rename_i hk
      simp only [Tr.ev, Option.some.injEq] at h
      subst h
      obtain ⟨n, hn, rfl⟩ := hx
      have hlt : k - (N + 1) < b.ms.length := by omega
      have han := hi.an (k - (N + 1)) _ (List.getElem?_eq_getElem hlt)
      rw [hN, show N + 1 + (k - (N + 1)) = k by omega] at han
      exact ⟨[], ⟨rfl, _, List.getElem?_eq_getElem hlt, by rw [han]⟩, Outs.nil⟩
    · simp [Tr.ev] at h
  · simp [Tr.ev] at h
theorem loadAt_addr {t : TypeId} {v u : Value} {w' : World} (h : (Instr.loadAt t v).run P w = .ok u w') : (do loadVar t (← asAddr v) : Sem Value).run P w = .ok u w' := by
  unfold Instr.loadAt at h
  cases v with
  | pointer o =>
    cases o with
    | some a => simpa [asAddr, Instr.sureAddr] using h
    | none => simp [Instr.sureAddr] at h
  | _ => simp [Instr.sureAddr] at h
def readRes (tmps : Array Value) : ResultVar → Sem Value
  | .tmp t => pure (tmps.getD t undef)
  | .cell a t => do loadVar t (← asAddr (tmps.getD a undef))
theorem outVals_ok (hT : TabOk P E.ti) {N M : Nat} (hN : b.n1 = N + 1) (hM : b.ms.length = M) {a : Act} (hi : Inv b S w c) (hs : Slots N S c w (Kok b S c) a) : ∀ (rs : List ResultVar) (ts : List TypeId) {y : List A1 × List Nat}, (outVals E N M S rs ts).ev S = some y →
    ∃ vs G, (rs.mapM (readRes a.tmps)).run P w = .ok vs w ∧ FL (A1Ok w (Kok b S c) b.ms) y.1 vs G ∧ Outs S c y.2 G
  | [], [], y, h => by
    rw [outVals] at h
    simp only [Tr.ev, Option.some.injEq] at h
    subst h
    exact ⟨[], [], by simp, ⟨rfl, rfl⟩, Outs.nil⟩
  | .tmp s :: rs, t :: ts, y, h => by
    rw [outVals] at h
    simp only [ev_bind, Option.bind_eq_some_iff, Tr.ev, Option.some.injEq] at h
    obtain ⟨y1, hy1, y2, hy2, rfl⟩ := h
    obtain ⟨G, k1, k2⟩ := outVal_ok hi hN hM (hs.ok s) hy1
    obtain ⟨vs, H, m1, m2, m3⟩ := outVals_ok hT hN hM hi hs rs ts hy2
    refine ⟨_ :: vs, G ++ H, ?_, ⟨_, vs, G, H, rfl, rfl, k1, m2⟩, Outs.append hi k2 m3⟩
    simp only [List.mapM_cons, readRes, Sem.run_bind, Sem.run_pure, Result.andThen_ok, m1]
  | .cell s t' :: rs, t :: ts, y, h => by
    rw [outVals] at h
    split at h
    · rename_i a1 cs ha hcs
      split at h
      · simp [Tr.ev] at h
      · rename_i hne
        rw [ev_bind, Option.bind_eq_some_iff] at h
        obtain ⟨x, hx, h⟩ := h
        simp only [ev_bind, Option.bind_eq_some_iff, Tr.ev, Option.some.injEq] at h
        obtain ⟨y1, hy1, y2, hy2, rfl⟩ := h
        have hv := hs.ok s
        rw [ha] at hv
        have hpos : 0 < cs.length := by
          cases cs with
          | nil => simp at hne
          | cons _ _ => simp
        obtain ⟨u, k0, k1⟩ := load_ok (P := P) hT hi hv hcs hx hpos
        obtain ⟨G, k2, k3⟩ := outVal_ok hi hN hM k1 hy1
        obtain ⟨vs, H, m1, m2, m3⟩ := outVals_ok hT hN hM hi hs rs ts hy2
        refine ⟨u :: vs, G ++ H, ?_, ⟨u, vs, G, H, rfl, rfl, k2, m2⟩, Outs.append hi k3 m3⟩
        have hl := loadAt_addr k0
        rw [List.mapM_cons, Sem.run_bind]
        show ((do loadVar t' (← asAddr (a.tmps.getD s undef)) : Sem Value).run P w).andThen _ = _
        rw [hl]
        simp only [Result.andThen_ok, Sem.run_bind, m1, Sem.run_pure]
    · simp [Tr.ev] at h
  | [], _ :: _, _, h => by simp [outVals, Tr.ev] at h
  | _ :: _, [], _, h => by
    rename_i r _ _
    cases r <;> simp [outVals, Tr.ev] at h
theorem outRow_ok (hi : Inv b S w c) (k : Nat) : ∀ (row : List ALeaf) (i : Nat) (vs : List Value) {y : List ALeaf × List Nat}, vs.length = row.length → (∀ j v, vs[j]? = some v → LeafOk S c w (Kok b S c) (S.mc k (i + j)) v) → (outRow k row i).ev S = some y →
    ∃ G, FL (ALOk w (Kok b S c)) y.1 vs G ∧ Outs S c y.2 G
  | [], i, vs, y, hl, _, h => by
    rw [outRow] at h
    simp only [Tr.ev, Option.some.injEq] at h
    subst h
    obtain rfl : vs = [] := List.eq_nil_of_length_eq_zero hl
    exact ⟨[], ⟨rfl, rfl⟩, Outs.nil⟩
  | r :: row, i, [], y, hl, _, _ => by simp at hl
  | r :: row, i, v :: vs, y, hl, hc, h => by
    rw [outRow] at h
    simp only [Tr.ev, ev_bind, Option.bind_eq_some_iff, Option.some.injEq] at h
    obtain ⟨y1, hy1, y2, hy2, rfl⟩ := h
    obtain ⟨k1, G, k2, k3, k4⟩ := outLeaf_ok hi (hc 0 v rfl) hy1
    obtain ⟨H, m1, m2⟩ := outRow_ok hi k row (i + 1) vs (by simpa using hl) (fun j v hv => by
      have := hc (j + 1) v (by simpa using hv)
      rwa [show i + (j + 1) = i + 1 + j by omega] at this) hy2
    exact ⟨G ++ H, ⟨v, vs, G, H, rfl, rfl, k2, m1⟩, Outs.append hi ⟨k1, fun _ => k3, k4⟩ m2⟩
theorem outRows_ok (hi : Inv b S w c) {N : Nat} (hN : b.n1 = N + 1) : ∀ (rows : List (List ALeaf)) (m : Nat) (gs : List Nat) {y : List (List ALeaf) × List Nat}, gs.length = rows.length → (∀ j g, gs[j]? = some g → b.ms[m + j]? = some g) → (outRows N rows m).ev S = some y →
    (∀ j, j < rows.length → S.ms (N + 1 + m + j) ≠ none) ∧ ∃ G, RowsOk w (Kok b S c) gs y.1 G ∧ Outs S c y.2 G
  | [], m, gs, y, hl, _, h => by
    rw [outRows] at h
    simp only [Tr.ev, Option.some.injEq] at h
    subst h
    obtain rfl : gs = [] := List.eq_nil_of_length_eq_zero hl
    exact ⟨fun j hj => by simp at hj, [], ⟨rfl, rfl⟩, Outs.nil⟩
  | r :: rows, m, [], y, hl, _, _ => by simp at hl
  | r :: rows, m, g :: gs, y, hl, hg, h => by
    rw [outRows] at h
    simp only [Tr.ev] at h
    split at h
    · rename_i hn
      simp only [Tr.ev, ev_bind, Option.bind_eq_some_iff, Option.some.injEq] at h
      obtain ⟨y1, hy1, y2, hy2, rfl⟩ := h
      obtain ⟨cs, e, fr, h1, h2, h3, h4⟩ := hi.ms _ _ hn
      have hgm : c.mb (N + 1 + m) = g := by rw [← hN]; exact hi.an m g (by have := hg 0 g rfl; simpa using this)
      obtain ⟨G, k1, k2⟩ := outRow_ok hi (N + 1 + m) r 0 cs.toList (by simpa using h2) (fun j v hv => by rw [Nat.zero_add]; exact h4 j v (by simpa using hv)) hy1
      obtain ⟨q1, H, m1, m2⟩ := outRows_ok hi hN rows (m + 1) gs (by simpa using hl) (fun j g' hg' => by
        have := hg (j + 1) g' (by simpa using hg')
        rwa [show m + (j + 1) = m + 1 + j by omega] at this) hy2
      refine ⟨fun j hj => ?_, G ++ H, ⟨y1.1, y2.1, cs, e, fr, G, H, rfl, rfl, by rw [← hgm]; exact h1, h3, k1, m1⟩, Outs.append hi k2 m2⟩
      cases j with
      | zero => rw [Nat.add_zero, hn]; simp
      | succ j =>
        have := q1 j (by simpa using hj)
        rwa [show N + 1 + (m + 1) + j = N + 1 + m + (j + 1) by omega] at this
    · simp [Tr.ev] at h
end
theorem msU_at : ∀ (l : List (Nat × List Leaf)) (S : St), (l.map (·.1)).Nodup → (S.ups (l.map fun p => .ms p.1 p.2)).ow = S.ow ∧ (S.ups (l.map fun p => .ms p.1 p.2)).sl = S.sl ∧
    (∀ k, (S.ups (l.map fun p => .ms p.1 p.2)).ms k = match find l k with | some r => some r.length | none => S.ms k) ∧ ∀ k i, (S.ups (l.map fun p => .ms p.1 p.2)).mc k i = match find l k with | some r => r.getD i .no | none => S.mc k i
  | [], S, _ => ⟨rfl, rfl, fun _ => rfl, fun _ _ => rfl⟩
  | p :: l, S, h => by
    rw [List.map_cons, List.nodup_cons] at h
    obtain ⟨h1, h2, h3, h4⟩ := msU_at l (S.up (.ms p.1 p.2)) h.2
    obtain ⟨i0, row⟩ := p
    refine ⟨h1, h2, fun k => ?_, fun k i => ?_⟩
    · show ((S.up (.ms i0 row)).ups (l.map fun p => .ms p.1 p.2)).ms k = _
      rw [h3]
      simp only [find]
      by_cases hk : k = i0
      · subst hk; rw [find_none h.1, if_pos rfl]; simp [St.up]
      · rw [if_neg hk]
        have : (S.up (.ms i0 row)).ms k = S.ms k := by show (if k = i0 then _ else S.ms k) = _; rw [if_neg hk]
        rw [this]
    · show ((S.up (.ms i0 row)).ups (l.map fun p => .ms p.1 p.2)).mc k i = _
      rw [h4]
      simp only [find]
      by_cases hk : k = i0
      · subst hk; rw [find_none h.1, if_pos rfl]; simp [St.up]
      · rw [if_neg hk]
        have : (S.up (.ms i0 row)).mc k i = S.mc k i := by show (if k = i0 then _ else S.mc k i) = _; rw [if_neg hk]
        rw [this]
theorem putSlots_at : ∀ (xs : List S1) (n : Nat) (S : St), (putSlots xs n S).ow = S.ow ∧ (putSlots xs n S).ms = S.ms ∧ (putSlots xs n S).mc = S.mc ∧
    ∀ i, (putSlots xs n S).sl i = if n ≤ i then (match xs[i - n]? with | some x => .s x | none => S.sl i) else S.sl i
  | [], n, S => ⟨rfl, rfl, rfl, fun i => by split <;> rfl⟩
  | x :: xs, n, S => by
    obtain ⟨h1, h2, h3, h4⟩ := putSlots_at xs (n + 1) (S.put n (.s x))
    refine ⟨h1, h2, h3, fun i => ?_⟩
    show (putSlots xs (n + 1) (S.put n (.s x))).sl i = _
    rw [h4]
    by_cases hi : n + 1 ≤ i
    · rw [if_pos hi, if_pos (by omega), show i - n = (i - (n + 1)) + 1 by omega, List.getElem?_cons_succ]
      have : (S.put n (.s x)).sl i = S.sl i := by show (if i = n then _ else S.sl i) = _; rw [if_neg (by omega)]
      rw [this]
    · rw [if_neg hi]
      by_cases hin : i = n
      · subst hin
        rw [if_pos (Nat.le_refl _), Nat.sub_self]
        show (if i = i then SV.s x else S.sl i) = _
        rw [if_pos rfl]; rfl
      · rw [if_neg (by omega)]
        show (if i = n then _ else S.sl i) = _
        rw [if_neg hin]
theorem RowsOk.len {w : World} {K : Nat → Prop} : ∀ {ms : List Nat} {rs F}, RowsOk w K ms rs F → rs.length = ms.length
  | [], _, _, h => by rw [h.1]; rfl
  | _ :: _, _, _, ⟨_, _, _, _, _, _, _, e1, _, _, _, _, h⟩ => by rw [e1]; simp [RowsOk.len h]
theorem All2.map_right {α β : Type} {p : α → β → Prop} {as bs} (h : All2 p as bs) {i : Nat} {x : β} (hx : bs[i]? = some x) : ∃ a, as[i]? = some a ∧ p a x := by
  have hlt : i < as.length := by rw [h.len]; exact (List.getElem?_eq_some_iff.1 hx).1
  obtain ⟨y, hy, hp⟩ := h.get (List.getElem?_eq_getElem hlt)
  rw [hx] at hy
  injection hy with hy
  subst hy
  exact ⟨_, List.getElem?_eq_getElem hlt, hp⟩
theorem start_ok {N : Nat} {as : List A1} {rows : List (List ALeaf)} {S : St} (h : start N as rows = some S) {w : World} {vals : List Value} {Ro : Nat → Prop} {ms F1 F2 : List Nat} (hA : FL (A1Ok w Ro ms) as vals F1) (hR : RowsOk w Ro ms rows F2)
    (hnd : (ms ++ (F1 ++ F2)).Nodup) (hlt : ∀ g, g ∈ ms ++ (F1 ++ F2) → g < w.heap.size ∧ ¬ Ro g) (hN : vals.length ≤ N) (fx : List (Nat × Value)) (hfx : ∀ p, p ∈ fx → vals[p.1]? = some p.2) :
    Sim ⟨w, Ro, fun g => g ∈ ms ++ (F1 ++ F2), N + 1, ms, fx⟩ N S ⟨vals.toArray ++ Array.replicate (N - vals.length) undef, []⟩ w := by
  unfold start at h
  split at h
  · rename_i vs rs hv hr
    split at h
    · rename_i hu
      injection h with h
      have hlen := hR.len
      generalize hK : (List.range rows.length).map (N + 1 + ·) = K at hv hr
      let mb : Nat → Nat := fun κ => ms.getD (κ - (N + 1)) 0
      have hmb : K.map mb = ms := by
        rw [← hK, List.map_map, hlen]
        apply List.ext_getElem?
        intro i
        rw [List.getElem?_map]
        by_cases hi : i < ms.length
        · rw [List.getElem?_range hi]
          simp only [Option.map_some, Function.comp, mb]
          rw [Nat.add_sub_cancel_left, List.getD_eq_getElem?_getD, List.getElem?_eq_getElem hi]; rfl
        · rw [List.getElem?_eq_none (by simpa using Nat.le_of_not_lt hi), List.getElem?_eq_none (by omega)]; rfl
      have hKn : K.Nodup := by
        rw [← hK]
        exact List.Pairwise.map _ (fun a b h => by omega) List.nodup_range
      rw [← hmb] at hA hR
      obtain ⟨n1, a1, a2⟩ := backVals_ok K mb as _ hA hv
      obtain ⟨b1, b2, n2, b3, b4⟩ := backRows_ok mb K rows _ hR hr
      rw [hmb] at hA hR
      have hall := a1.append b3
      have hnl : n1.length = vs.2.length := a1.len
      have hkeys := unlike_nodup hu
      have hFn : (F1 ++ F2).Nodup := (List.nodup_append.1 hnd).2.1
      generalize hl : vs.2 ++ rs.2 = l at *
      generalize hns : n1 ++ n2 = ns at *
      let news : Nat → Option New := fun k => find ((l.map (·.1)).zip ns) k
      let c : Cc := ⟨mb, fun k => match news k with | some n => n.h | none => undef, fun k => match news k with | some n => n.F | none => []⟩
      obtain ⟨o1, o2, o3, o4⟩ := ownsU_at l blank hkeys
      obtain ⟨m1, m2, m3, m4⟩ := msU_at rs.1 (blank.ups (ownsU l)) (by rw [b1]; exact hKn)
      obtain ⟨p1, p2, p3, p4⟩ := putSlots_at vs.1 0 ((blank.ups (ownsU l)).ups (rs.1.map fun p => .ms p.1 p.2))
      have how : ∀ k, S.ow k = match news k with | some n => some n.o | none => none := by
        intro k
        rw [← h, p1, m1, o4]
        have := news_find hall k
        refine Eq.trans ?_ this.symm
        cases find l k <;> rfl
      have hms : ∀ k, S.ms k = match find rs.1 k with | some r => some r.length | none => none := by
        intro k
        rw [← h, p2, m3, o1]; rfl
      have hmc : ∀ k i, S.mc k i = match find rs.1 k with | some r => r.getD i .no | none => .no := by
        intro k i
        rw [← h, p3, m4, o2]; rfl
      have hsl : ∀ i, S.sl i = match vs.1[i]? with | some x => .s x | none => .no := by
        intro i
        rw [← h, p4, if_pos (Nat.zero_le _), Nat.sub_zero, m2, o3]; rfl
      have hHv : Hv S c l ns := by
        intro k n hk
        have hf : news k = some n := find_mem (by rw [List.map_fst_zip (by rw [hall.len]; simp)]; exact hkeys) hk
        refine ⟨by rw [how, hf], ?_⟩
        show (match news k with | some n => n.h | none => undef) = _
        rw [hf]
      have hmsK : ∀ k, k ∈ K ↔ S.ms k ≠ none := by
        intro k
        rw [hms]
        constructor
        · intro hk
          rw [← b1] at hk
          obtain ⟨p, hp, rfl⟩ := List.mem_map.1 hk
          rw [find_mem (by rw [b1]; exact hKn) hp]; simp
        · intro hk
          cases hf : find rs.1 k with
          | none => rw [hf] at hk; exact absurd rfl hk
          | some r => rw [← b1]; exact List.mem_map.2 ⟨_, find_some_mem hf, rfl⟩
      have hnw : ∀ k, S.ow k ≠ none → ∃ n, news k = some n ∧ S.ow k = some n.o ∧ c.hv k = n.h ∧ c.F k = n.F := by
        intro k hk
        rw [how] at hk
        cases hf : news k with
        | none => rw [hf] at hk; exact absurd rfl hk
        | some n => exact ⟨n, rfl, by rw [how, hf], by show (match news k with | some n => n.h | none => undef) = _; rw [hf], by show (match news k with | some n => n.F | none => []) = _; rw [hf]⟩
      have hmbms : ∀ k, S.ms k ≠ none → c.mb k ∈ ms := fun k hk => by rw [← hmb]; exact List.mem_map.2 ⟨k, (hmsK k).2 hk, rfl⟩
      have hOw : ∀ g, Owned S c g → g ∈ ms ++ (F1 ++ F2) := by
        rintro g (⟨k, hk, rfl⟩ | ⟨k, hk, hg⟩)
        · exact List.mem_append.2 (.inl (hmbms k hk))
        · obtain ⟨n, k1, k2, k3, k4⟩ := hnw k hk
          rw [k4] at hg
          exact List.mem_append.2 (.inr ((news_in hall k n k1).2.1 g hg))
      have hKok : ∀ g, g < w.heap.size → Ro g → Kok ⟨w, Ro, fun g => g ∈ ms ++ (F1 ++ F2), N + 1, ms, fx⟩ S c g := fun g _ hg => ⟨.inl hg, fun ho => (hlt g (hOw g ho)).2 hg⟩
      have hmsN := (List.nodup_append.1 hnd).1
      have hdis := (List.nodup_append.1 hnd).2.2
      refine ⟨c, ⟨?_, ?_, ?_, ?_, ?_, ?_, ?_, fun _ _ _ => rfl, rfl, rfl, rfl, Nat.le_refl _, ?_⟩, ⟨fun i => ?_, ?_, rfl⟩, ?_⟩
      · intro k n hn
        have hk : S.ms k ≠ none := by rw [hn]; simp
        rw [hms] at hn
        cases hf : find rs.1 k with
        | none => rw [hf] at hn; cases hn
        | some row =>
          rw [hf] at hn
          simp only [Option.some.injEq] at hn
          have hb := hHv
          rw [← hl, ← hns] at hb
          obtain ⟨cs, e, fr, h1, h2, h3⟩ := b4 S c (Hv.right hnl hb) (k, row) (find_some_mem hf)
          refine ⟨cs, e, fr, h1, by rw [← hn, h3.len]; simp, h2, fun i u hu => ?_⟩
          obtain ⟨lf, q1, q2⟩ := All2.map_right h3 (by rw [Array.getElem?_toList]; exact hu)
          rw [hmc, hf]
          simp only
          rw [List.getD_eq_getElem?_getD, q1]
          exact LeafOk.mono hKok q2
      · intro k o ho
        obtain ⟨n, k1, k2, k3, k4⟩ := hnw k (by rw [ho]; simp)
        rw [ho] at k2
        injection k2 with k2
        subst k2
        rw [k3, k4]
        exact Rp.mono hKok _ _ (news_in hall k n k1).2.2.2
      · intro k hk
        obtain ⟨n, k1, k2, k3, k4⟩ := hnw k hk
        rw [k4]; exact (news_in hall k n k1).2.2.1 hFn
      · intro k k' hne h1 h2 g hg
        obtain ⟨n, k1, _, _, k4⟩ := hnw k h1
        obtain ⟨n', q1, _, _, q4⟩ := hnw k' h2
        rw [k4] at hg
        rw [q4]
        exact news_dis hall hFn k n k' n' hne k1 q1 g hg
      · intro k k' hne h1 h2 he
        have h1' := (hmsK k).2 h1
        have h2' := (hmsK k').2 h2
        rw [← hK] at h1' h2'
        obtain ⟨m, hm, rfl⟩ := List.mem_map.1 h1'
        obtain ⟨m', hm', rfl⟩ := List.mem_map.1 h2'
        have hm := List.mem_range.1 hm
        have hm' := List.mem_range.1 hm'
        have he' : ms.getD (N + 1 + m - (N + 1)) 0 = ms.getD (N + 1 + m' - (N + 1)) 0 := he
        rw [Nat.add_sub_cancel_left, Nat.add_sub_cancel_left, List.getD_eq_getElem?_getD, List.getD_eq_getElem?_getD, List.getElem?_eq_getElem (by omega), List.getElem?_eq_getElem (by omega)] at he'
        simp only [Option.getD_some] at he'
        have hpw := List.pairwise_iff_getElem.1 hmsN
        rcases Nat.lt_trichotomy m m' with h | h | h
        · exact hpw m m' (by omega) (by omega) h he'
        · exact hne (by rw [h])
        · exact hpw m' m (by omega) (by omega) h he'.symm
      · intro k k' h1 h2 hg
        obtain ⟨n, k1, _, _, k4⟩ := hnw k' h2
        rw [k4] at hg
        exact hdis _ (hmbms k h1) _ ((news_in hall k' n k1).2.1 _ hg) rfl
      · intro g hg
        have := hOw g hg
        exact ⟨(hlt g this).1, .inr this⟩
      · intro m g hg
        show ms.getD (N + 1 + m - (N + 1)) 0 = g
        rw [Nat.add_sub_cancel_left, List.getD_eq_getElem?_getD, hg]; rfl
      · have hb := hHv
        rw [← hl, ← hns] at hb
        have hsv := a2 S c (Hv.left hnl hb) (fun k hk => (hmsK k).1 hk) (fun _ _ => rfl)
        rw [hsl]
        cases hx : vs.1[i]? with
        | none => trivial
        | some x =>
          obtain ⟨v, hv1, hv2⟩ := hsv.get hx
          have hlt' : i < vals.length := (List.getElem?_eq_some_iff.1 hv1).1
          have : (vals.toArray ++ Array.replicate (N - vals.length) undef).getD i undef = v := by
            rw [Array.getD_eq_getD_getElem?, Array.getElem?_append_left (by simpa using hlt'), List.getElem?_toArray, hv1]; rfl
          rw [this]
          exact S1Ok.mono hKok hv2
      · simp only [Array.size_append, List.size_toArray, Array.size_replicate]; omega
      · intro p hp
        have hp' := hfx p hp
        rw [Array.getD_eq_getD_getElem?, Array.getElem?_append_left (by simpa using (List.getElem?_eq_some_iff.1 hp').1), List.getElem?_toArray, hp']; rfl
    · cases h
  · cases h
theorem outLents_ok {b : Base} {S : St} {c : Cc} {w : World} {N : Nat} {a : Act} (hi : Inv b S w c) (hs : Slots N S c w (Kok b S c) a) {vals : List Value} : ∀ (ln : List (Nat × Nat)) {y : List ((Nat × Nat) × ALeaf) × List Nat},
    (∀ p, p ∈ ln → vals[p.1]? = some (a.tmps.getD p.1 undef)) → (outLents S ln).ev S = some y → ∃ G, LentOk w (Kok b S c) vals y.1 G ∧ Outs S c y.2 G
  | [], y, _, h => by
    simp only [outLents, Tr.ev, Option.some.injEq] at h
    subst h
    exact ⟨[], rfl, Outs.nil⟩
  | p :: ps, y, hv, h => by
    simp only [outLents] at h
    split at h
    · rename_i k hlf
      simp only [ev_bind, Option.bind_eq_some_iff, Tr.ev, Option.some.injEq] at h
      obtain ⟨o, ho, y', hy', rfl⟩ := h
      obtain ⟨G2, h1, h2⟩ := outLents_ok hi hs ps (fun q hq => hv q (by simp [hq])) hy'
      have hvp := hv p (by simp)
      obtain ⟨v, hval, hlk⟩ : ∃ v, valAt vals p = some v ∧ LeafOk S c w (Kok b S c) (.vw k [] none) v := by
        unfold lentAt at hlf
        have hok := hs.ok p.1
        split at hlf
        · rename_i l hl
          rw [hl] at hok
          split at hlf
          · rename_i hp2
            subst hlf
            have hsl : LeafOk S c w (Kok b S c) (.vw k [] none) (a.tmps.getD p.1 undef) := hok
            refine ⟨_, ?_, hsl⟩
            obtain ⟨A, n, cap, e⟩ := vw_slice hi hsl
            unfold valAt
            rw [hvp, e]
            simp [hp2]
          · cases hlf
        · rename_i ls hl
          rw [hl] at hok
          obtain ⟨vs, e, hall⟩ := hok
          rw [List.getD_eq_getElem?_getD] at hlf
          cases hj : ls[p.2]? with
          | none => rw [hj] at hlf; cases hlf
          | some l =>
            rw [hj] at hlf
            simp only [Option.getD_some] at hlf
            subst hlf
            obtain ⟨v, q1, q2⟩ := hall.get hj
            refine ⟨v, ?_, q2⟩
            unfold valAt
            rw [hvp, e]
            simpa using q1
        · cases hlf
      obtain ⟨g1, F', g2, g3, g4⟩ := view_own hi hlk ho
      refine ⟨F' ++ G2, ⟨v, F', G2, rfl, hval, ⟨g2, fun h => by simp [Ty.own] at h⟩, h1⟩, ?_⟩
      exact Outs.append hi (k := [k]) ⟨fun k' hk' => (by simp only [List.mem_singleton] at hk'; subst hk'; exact g1), fun _ => g4, fun g hg => ⟨k, by simp, g3 g hg⟩⟩ h2
    · simp [Tr.ev] at h
theorem vfun_ok {P : Program} {E : Env} (hE : EnvOk P E) {f : FuncId} {fn : Func} {J : Joins} {ann : Ann} {ln : List (Nat × Nat)} {as : List A1} {rows : List (List ALeaf)} {r : Res} (hf : P.funcs[f]? = some fn) (hname : (fn.name == "runtime.NumGoroutine") = false)
    (h : (vfun E fn J ann ln as rows).run = some r) : CallSound P f as rows r := by
  unfold vfun at h
  split at h
  · rename_i c hb
    split at h
    · rename_i hlen
      obtain ⟨hlen, hln⟩ := hlen
      split at h
      · rename_i S hS
        rw [run_bind, Option.bind_eq_some_iff] at h
        obtain ⟨⟨e, S1⟩, h1, h2⟩ := h
        refine ⟨⟨fn, hf, hname, by rw [hb]; rfl⟩, ?_⟩
        intro w vals Ro ms F1 F2 hA hR hnd hlt
        have hvl := hA.len
        generalize hfx : (vals.zipIdx.filter fun p => E.fx.contains p.2).map (fun p => (p.2, p.1)) = fx
        have hfx1 : ∀ i v, (i, v) ∈ fx ↔ vals[i]? = some v ∧ E.fx.contains i = true := by
          intro i v
          rw [← hfx]
          simp only [List.mem_map, List.mem_filter, Prod.exists, Prod.mk.injEq]
          constructor
          · rintro ⟨x, j, ⟨h1, h2⟩, rfl, rfl⟩
            exact ⟨by simpa using List.mk_mem_zipIdx_iff_getElem?.1 h1, h2⟩
          · rintro ⟨h1, h2⟩
            exact ⟨v, i, ⟨List.mk_mem_zipIdx_iff_getElem?.2 (by simpa using h1), h2⟩, rfl, rfl⟩
        have hF : ∀ p, p ∈ fx → E.fx.contains p.1 = true := fun p hp => ((hfx1 p.1 p.2).1 hp).2
        have hsim := start_ok hS hA hR hnd hlt (by omega) fx (fun p hp => ((hfx1 p.1 p.2).1 hp).1)
        have hml := hR.len
        have hfin : ∀ a' w', Sim ⟨w, Ro, fun g => g ∈ ms ++ (F1 ++ F2), fn.ntmps + 1, ms, fx⟩ fn.ntmps S1 a' w' → (finish E fn.ntmps fn rows ln S1).run = some r →
            a'.defers = [] ∧ ∃ v, (results fn a'.tmps).run P w' = .ok v w' ∧ ∃ v', Ending.returned v = .returned v' ∧ CallPost w Ro ms (F1 ++ F2) vals r v' w' := by
          rintro a' w' ⟨c', hi, hsl, hafx⟩ hfi
          refine ⟨hsl.d, ?_⟩
          unfold finish at hfi
          rw [run_bind, Option.bind_eq_some_iff] at hfi
          obtain ⟨⟨⟨y1, y2, y3⟩, lg⟩, g1, g2⟩ := hfi
          split at g2
          · rename_i hu
            simp only [Tr.run, Option.some.injEq] at g2
            subst g2
            have g3 := at_ev S1 _ [] g1
            rw [ev_bind, Option.bind_eq_some_iff] at g3
            obtain ⟨z1, hz1, g3⟩ := g3
            rw [ev_bind, Option.bind_eq_some_iff] at g3
            obtain ⟨z2, hz2, g3⟩ := g3
            rw [ev_bind, Option.bind_eq_some_iff] at g3
            obtain ⟨z3, hz3, g3⟩ := g3
            simp only [Tr.ev, Option.some.injEq, Prod.mk.injEq] at g3
            obtain ⟨e1, e2, e3⟩ := g3
            subst e1 e2 e3
            obtain ⟨vs, G1, k1, k2, k3⟩ := outVals_ok (P := P) hE.ti rfl hml.symm hi hsl _ _ hz1
            obtain ⟨q0, G2, q1, q2⟩ := outRows_ok hi rfl rows 0 ms hml.symm (fun j g hg => by rw [Nat.zero_add]; exact hg) hz2
            obtain ⟨G3, r1, r2⟩ := outLents_ok hi hsl (vals := vals) ln (fun p hp => by
              have := List.all_eq_true.1 hln p hp
              simp only [Bool.and_eq_true, decide_eq_true_eq] at this
              have hlv : p.1 < vals.length := by omega
              have hm := (hfx1 p.1 vals[p.1]).2 ⟨List.getElem?_eq_getElem hlv, this.1⟩
              rw [hafx _ hm]
              exact List.getElem?_eq_getElem hlv) hz3
            have hout := Outs.append hi k3 (Outs.append hi q2 r2)
            have hmsO : ∀ g, g ∈ ms → ∃ k, S1.ms k ≠ none ∧ c'.mb k = g := by
              intro g hg
              obtain ⟨m, hm, hmg⟩ := List.getElem_of_mem hg
              have h3 : ms[m]? = some g := by rw [List.getElem?_eq_getElem hm, hmg]
              refine ⟨fn.ntmps + 1 + m, ?_, hi.an m g h3⟩
              have := q0 m (by omega)
              rwa [Nat.add_zero] at this
            have hGO : ∀ g, g ∈ G1 ++ (G2 ++ G3) → ∃ k, S1.ow k ≠ none ∧ g ∈ c'.F k := by
              intro g hg
              obtain ⟨k, h3, h4⟩ := hout.2.2 g hg
              exact ⟨k, hout.1 k h3, h4⟩
            have hKK : ∀ g, g < w'.heap.size → Kok ⟨w, Ro, fun g => g ∈ ms ++ (F1 ++ F2), fn.ntmps + 1, ms, fx⟩ S1 c' g → ((Ro g ∨ w.heap.size ≤ g ∨ g ∈ F1 ++ F2) ∧ g ∉ ms ++ (G1 ++ (G2 ++ G3))) := by
              rintro g _ ⟨h3, h4⟩
              have hnm : g ∉ ms := fun hg => by
                obtain ⟨k, h5, h6⟩ := hmsO g hg
                exact h4 (.inl ⟨k, h5, h6⟩)
              refine ⟨h3.imp id fun h3 => h3.imp id fun h3 => (List.mem_append.1 h3).elim (fun hg => absurd hg hnm) id, fun hg => ?_⟩
              rcases List.mem_append.1 hg with hg | hg
              · obtain ⟨k, h5, h6⟩ := hmsO g hg
                exact h4 (.inl ⟨k, h5, h6⟩)
              · obtain ⟨k, h5, h6⟩ := hGO g hg
                exact h4 (.inr ⟨k, h5, h6⟩)
            have hres : (results fn a'.tmps).run P w' = .ok (tupledV vs) w' := by
              have he : results fn a'.tmps = (do let vs ← fn.results.mapM (readRes a'.tmps); pure (if h : vs.size = 1 then vs[0] else .tuple vs)) := rfl
              have hm : (fn.results.mapM (readRes a'.tmps)).run P w' = .ok vs.toArray w' := by
                rw [Array.mapM_eq_mapM_toList]
                simp [k1]
              rw [he]
              rw [Sem.run_bind, hm]
              simp only [Result.andThen_ok, Sem.run_pure]
              congr 1
              match vs with
              | [] => rfl
              | [v] => rfl
              | _ :: _ :: _ => rfl
            refine ⟨_, hres, _, rfl, vs, G1, G2, G3, rfl, k2.mono fun _ _ _ h => A1Ok.mono hKK h, RowsOk.mono hKK q1, LentOk.mono hKK r1, ?_, ?_, ?_⟩
            · refine List.nodup_append.2 ⟨(List.nodup_append.1 hnd).1, hout.2.1 hu, ?_⟩
              rintro g hg g' hg' rfl
              obtain ⟨k, h5, h6⟩ := hmsO g hg
              obtain ⟨k', h7, h8⟩ := hGO g hg'
              exact hi.mo k k' h5 h7 (by rw [h6]; exact h8)
            · intro g hg
              obtain ⟨k, h5, h6⟩ := hGO g hg
              obtain ⟨h7, h8⟩ := hi.fr g (.inr ⟨k, h5, h6⟩)
              refine ⟨h7, ?_⟩
              rcases h8 with h8 | h8
              · exact .inr h8
              · rcases List.mem_append.1 h8 with h8 | h8
                · obtain ⟨k', h9, h10⟩ := hmsO g h8
                  exact absurd h6 (h10 ▸ hi.mo k' k h9 h5)
                · exact .inl h8
            · exact ⟨hi.os, hi.tape, hi.output, hi.size, fun g hg hn => hi.fix g hg hn⟩
          · simp [Tr.run] at g2
        refine calls_of_wp hf hb ?_
        rw [List.size_toArray]
        obtain ⟨S0, h0, hw⟩ := joined_ok (b := ⟨w, Ro, fun g => g ∈ ms ++ (F1 ++ F2), fn.ntmps + 1, ms, fx⟩) (N := fn.ntmps) h1
        refine vcode_ok hE hF (b := ⟨w, Ro, fun g => g ∈ ms ++ (F1 ++ F2), fn.ntmps + 1, ms, fx⟩) (Nat.lt_succ_self _) c h0 hsim fun a' w' hs'' => ?_
        have hs' := hw hs''
        cases e with
        | n => exact hfin a' w' hs' h2
        | r => exact hfin a' w' hs' h2
        | x id => simp [Tr.run] at h2
      · simp [Tr.run] at h
    · simp [Tr.run] at h
  · simp [Tr.run] at h
end Go.V

namespace Go.V
open Go.ChangeShapes Go.RowKit
theorem law_calls {P : Program} {f : FuncId} {as : List A1} {vals : List Value} {w : World} (h : CallSound P f as [] ⟨[.one ⟨.bool, true⟩], [], []⟩) (ha : FL (A1Ok w (fun _ => True) []) as vals []) :
    Calls P f vals.toArray w fun e w' => e = .returned (.bool true) ∧ Below w.heap.size w w' := by
  refine Calls.mono (h.2 w vals (fun _ => True) [] [] [] ha ⟨rfl, rfl⟩ (by simp) (fun g hg => by simp at hg)) ?_
  rintro e w' ⟨v, rfl, vs, F1, F2, F3, rfl, h1, _, _, _, _, h5⟩
  obtain ⟨u, us, G1, G2, rfl, _, h6, h7⟩ := h1
  obtain ⟨rfl, _⟩ := h7
  have : u = .bool true := by
    have := h6.1
    simp only [Rp] at this
    have h8 := this.1
    injection h8
  subst this
  exact ⟨rfl, h5.os, h5.tape, h5.output, h5.size, fun k hk => h5.same k hk (by simp)⟩
end Go.V

namespace Go.V
structure Ans where
  β : Type
  o : Option β
  g : β → Res
structure Kn where
  f : FuncId
  mv : List Nat
  ca : List A1 → List (List ALeaf) → Option Ans
  fr : List (List Ty) := []
def mvOf : List Kn → FuncId → List Nat
  | [], _ => []
  | k :: l, g => if g = k.f then k.mv else mvOf l g
def frOf : List Kn → FuncId → List (List Ty)
  | [], _ => []
  | k :: l, g => if g = k.f then k.fr else frOf l g
def caOf : List Kn → FuncId → List A1 → List (List ALeaf) → Tr Res
  | [], _, _, _ => .fail
  | k :: l, g, as, rows => if g = k.f then match k.ca as rows with
      | some a => .get a.β a.o fun y => .ret (a.g y)
      | none => caOf l g as rows
    else caOf l g as rows
def envOf (ti : TypeId → TI) (l : List Kn) (fx : List Nat) : Env := ⟨ti, mvOf l, frOf l, fx, caOf l⟩
def KnOk (P : Program) (k : Kn) : Prop := ∀ as rows a, k.ca as rows = some a → ∀ y, a.o = some y → CallSound P k.f as rows (a.g y)
theorem caOf_ok {P : Program} : ∀ (l : List Kn), (∀ k ∈ l, KnOk P k) → ∀ f as rows S r, (caOf l f as rows).ev S = some r → CallSound P f as rows r
  | [], _, f, as, rows, S, r, h => by simp [caOf, Tr.ev] at h
  | k :: l, hk, f, as, rows, S, r, h => by
    rw [caOf] at h
    split at h
    · rename_i hf
      subst hf
      split at h
      · rename_i a ha
        simp only [Tr.ev, Option.bind_eq_some_iff, Option.some.injEq] at h
        obtain ⟨y, hy, rfl⟩ := h
        exact hk k (by simp) as rows a ha y hy
      · exact caOf_ok l (fun k h => hk k (by simp [h])) _ as rows S r h
    · exact caOf_ok l (fun k h => hk k (by simp [h])) f as rows S r h
theorem envOf_ok {P : Program} {ti : TypeId → TI} (ht : TabOk P ti) (hm : P.follows .mixedOrders = true) (l : List Kn) (fx : List Nat) (h : ∀ k ∈ l, KnOk P k) : EnvOk P (envOf ti l fx) :=
  ⟨ht, hm, fun f as rows S r hr => caOf_ok l h f as rows S r hr⟩
def allOk (P : Program) : List TI → Nat → Bool
  | [], _ => true
  | x :: l, n => tyOk P n x && allOk P l (n + 1)
theorem allOk_at {P : Program} : ∀ (l : List TI) (n : Nat), allOk P l n = true → ∀ t, tyOk P (n + t) (l.getD t .other) = true
  | [], n, _, t => by simp [tyOk]
  | x :: l, n, h, t => by
    simp only [allOk, Bool.and_eq_true] at h
    cases t with
    | zero => exact h.1
    | succ t => have := allOk_at l (n + 1) h.2 t; rw [show n + (t + 1) = n + 1 + t by omega]; exact this
theorem tabOf (P : Program) (l : List TI) (h : allOk P l 0 = true) : TabOk P (fun t => l.getD t .other) := fun t => by
  have := allOk_at l 0 h t; rwa [Nat.zero_add] at this
end Go.V

namespace Go.V
open Go.ChangeShapes Go.WideShapes Go.ChangeAt Go.RowKit
def Fits : (t : Ty) → t.D → Prop
  | .int k, n => (Lit.int k n).wf = true
  | .str, s => List.length s ≤ maxLen
  | .pair a b, x => Fits a x.1 ∧ Fits b x.2
  | .sl _ _ r, xs => List.length xs ≤ maxLen ∧ ∀ x ∈ (show List r.D from xs), Fits r x
  | _, _ => True
def rowOfF (ti : TypeId → TI) : List Field → Option (List Ty)
  | [] => some []
  | f :: fs => match (ti f.type).cells, rowOfF ti fs with
    | some a, some b => some (a ++ b)
    | _, _ => none
def offsF (ti : TypeId → TI) : List Field → Nat → Bool
  | [], _ => true
  | f :: fs, n => f.offset == n && offsF ti fs (n + (((ti f.type).cells).getD []).length)
def tyOk2 (P : Program) (ti : TypeId → TI) (t : TypeId) : TI → Bool
  | .slice e ts _ => decide ((ti e).cells = some ts)
  | .struct _ row _ => match P.underlying t with
    | some (.struct fields) => decide (rowOfF ti fields.toList = some row) && offsF ti fields.toList 0
    | _ => false
  | _ => true
def allOk2 (P : Program) (ti : TypeId → TI) : List TI → Nat → Bool
  | [], _ => true
  | x :: l, n => tyOk2 P ti n x && allOk2 P ti l (n + 1)
theorem allOk2_at {P : Program} {ti : TypeId → TI} : ∀ (l : List TI) (n : Nat), allOk2 P ti l n = true → ∀ t, tyOk2 P ti (n + t) (l.getD t .other) = true
  | [], n, _, t => by simp [tyOk2]
  | x :: l, n, h, t => by
    simp only [allOk2, Bool.and_eq_true] at h
    cases t with
    | zero => exact h.1
    | succ t => have := allOk2_at l (n + 1) h.2 t; rw [show n + (t + 1) = n + 1 + t by omega]; exact this
theorem tabOf2 (P : Program) (l : List TI) (h : allOk2 P (fun t => l.getD t .other) l 0 = true) : ∀ t, tyOk2 P (fun t => l.getD t .other) t (l.getD t .other) = true := fun t => by
  have := allOk2_at l 0 h t; rwa [Nat.zero_add] at this
section
variable {H : Type} {enc : TypeId × Value → H} {P : Program} {w : World} {ti : TypeId → TI}
abbrev Any : Nat → Prop := fun _ => True
theorem row_of : ∀ (ts : List Ty) (ls : List ALeaf) (cs : List Value), ls.map (·.1) = ts.map Ty.frz → FL (ALOk w Any) ls cs [] → (∀ l ∈ ls, Fits l.1 l.2) →
    ∃ x : (rowTy ts).frz.D, Rp w Any (rowTy ts).frz x cs [] ∧ Fits (rowTy ts).frz x
  | [], ls, cs, h1, h2, _ => by
    obtain rfl : ls = [] := by simpa using h1
    obtain ⟨rfl, _⟩ := h2
    exact ⟨(), ⟨rfl, rfl⟩, trivial⟩
  | [t], ls, cs, h1, h2, h3 => by
    match ls, h1, h2, h3 with
    | [⟨t', x⟩], h1, h2, h3 =>
      simp only [List.map_cons, List.map_nil, List.cons.injEq, and_true] at h1
      subst h1
      obtain ⟨v, vs, F1, F2, rfl, e, k1, rfl, rfl⟩ := h2
      obtain rfl : F1 = [] := by simpa using e.symm
      exact ⟨x, k1.1, h3 ⟨t.frz, x⟩ (by simp)⟩
  | t :: u :: ts, ls, cs, h1, h2, h3 => by
    match ls, h1, h2, h3 with
    | ⟨t', x⟩ :: ls, h1, h2, h3 =>
      simp only [List.map_cons, List.cons.injEq] at h1
      obtain ⟨e1, e2⟩ := h1
      subst e1
      obtain ⟨v, vs, F1, F2, rfl, e, k1, k2⟩ := h2
      obtain ⟨rfl, rfl⟩ : F1 = [] ∧ F2 = [] := by simpa using e.symm
      obtain ⟨y, k3, k4⟩ := row_of (u :: ts) ls vs (by simpa using e2) k2 (fun l hl => h3 l (by simp [hl]))
      exact ⟨(x, y), ⟨[v], vs, [], [], rfl, rfl, k1.1, k3⟩, h3 ⟨t.frz, x⟩ (by simp), k4⟩
theorem trod_open (hT : TabOk P ti) (hT2 : ∀ t, tyOk2 P ti t (ti t) = true) : ∀ (fuel : Nat) (t : TypeId) (cs : List Value) (ts : List Ty) {x : DataW H × List MemPlace}, (ti t).cells = some ts →
    DataW.trod enc P w 0 (fun _ => true) true fuel t cs = some x → ∃ ls : List ALeaf, ls.map (·.1) = ts.map Ty.frz ∧ FL (ALOk w Any) ls cs [] ∧ ∀ l ∈ ls, Fits l.1 l.2 := by
  intro fuel
  induction fuel with
  | zero => intro t cs ts x _ h; simp [DataW.trod] at h
  | succ n ih =>
    intro t cs ts x hts h
    cases ht : ti t with
    | cell u =>
      rw [ht] at hts
      simp only [TI.cells, Option.some.injEq] at hts
      subst hts
      obtain ⟨⟨d, hd, hdd⟩, _⟩ := hT.cell ht
      cases u with
      | int k =>
        cases d <;> simp [descIs] at hdd
        subst hdd
        obtain ⟨m, rfl, _, hw⟩ := DataW.trod_int hd h
        exact ⟨[⟨.int k, m⟩], rfl, ⟨_, [], [], [], rfl, rfl, ⟨⟨rfl, rfl⟩, fun _ => rfl⟩, rfl, rfl⟩, fun l hl => by rw [List.mem_singleton.1 hl]; exact hw⟩
      | bool =>
        cases d <;> simp [descIs] at hdd
        obtain ⟨m, rfl, _⟩ := DataW.trod_bool hd h
        exact ⟨[⟨.bool, m⟩], rfl, ⟨_, [], [], [], rfl, rfl, ⟨⟨rfl, rfl⟩, fun _ => rfl⟩, rfl, rfl⟩, fun l hl => by rw [List.mem_singleton.1 hl]; exact trivial⟩
      | str =>
        cases d <;> simp [descIs] at hdd
        obtain ⟨⟨⟨s⟩⟩, rfl, _, hs⟩ := DataW.trod_string hd h
        exact ⟨[⟨.str, s⟩], rfl, ⟨_, [], [], [], rfl, rfl, ⟨⟨rfl, rfl⟩, fun _ => rfl⟩, rfl, rfl⟩, fun l hl => by rw [List.mem_singleton.1 hl]; exact (show List.length s ≤ maxLen by simpa [ByteArray.size] using hs)⟩
      | unit => simp [descIs] at hdd
      | pair a b => simp [descIs] at hdd
      | sl o e r => simp [descIs] at hdd
    | slice e ts' bytes =>
      rw [ht] at hts
      simp only [TI.cells, Option.some.injEq] at hts
      subst hts
      obtain ⟨hu, _, _, hlen, i, z, hi, hsz, _⟩ := hT.slice ht
      have he : (ti e).cells = some ts' := by have := hT2 t; rw [ht] at this; simpa [tyOk2] using this
      have hce : P.cellsOf e = ts'.length := by simp [Program.cellsOf, hi, hsz]
      rcases DataW.trod_slice hu h with ⟨rfl, _⟩ | ⟨a, len, cap, elems, rest, m, hfm, rfl, _, _, hl, hm, hel, hels, _⟩
      · refine ⟨[⟨.sl false e (rowTy ts').frz, []⟩], rfl, ⟨_, [], [], [], rfl, rfl, ⟨?_, fun _ => rfl⟩, rfl, rfl⟩, fun l hl => by rw [List.mem_singleton.1 hl]; exact ⟨Nat.zero_le _, fun _ h => by cases h⟩⟩
        exact ⟨rfl, none, 0, [], rfl, Nat.le_refl _, ⟨rfl, rfl⟩, .inl rfl⟩
      · obtain rfl : n = m := by omega
        have key : ∀ q, q ≤ len → ∃ (xs : List (rowTy ts').frz.D) (ws : List Value), xs.length = q ∧ ws.length = q * ts'.length ∧ RpL (Rp w Any (rowTy ts').frz) xs ws [] ∧
            (∀ j, j < ws.length → w.cell? (a.add j) = ws[j]?) ∧ (∀ x ∈ xs, Fits (rowTy ts').frz x) := by
          intro q
          induction q with
          | zero => intro _; exact ⟨[], [], rfl, by simp, ⟨rfl, rfl⟩, fun j hj => by simp at hj, fun _ h => by cases h⟩
          | succ q ihq =>
            intro hq
            obtain ⟨xs, ws, h1, h2, h3, h4, h5⟩ := ihq (by omega)
            have hq' := hels q (by omega)
            rw [List.getElem?_eq_getElem (by omega), Option.bind_eq_some_iff] at hq'
            obtain ⟨cs', hcs, hy⟩ := hq'
            obtain ⟨ls, k1, k2, k3⟩ := ih e cs' ts' he hy
            obtain ⟨x, k4, k5⟩ := row_of ts' ls cs' k1 k2 k3
            obtain ⟨_, c2, c3⟩ := World.cells?_some hcs
            refine ⟨xs ++ [x], ws ++ cs', by simp [h1], ?_, ?_, ?_, ?_⟩
            · rw [List.length_append, h2, c2, hce, Nat.succ_mul]
            · have := h3.append (show RpL (Rp w Any (rowTy ts').frz) [x] cs' [] from ⟨cs', [], [], [], by simp, rfl, k4, rfl, rfl⟩)
              simpa using this
            · intro j hj
              by_cases hjw : j < ws.length
              · rw [h4 j hjw, List.getElem?_append_left hjw]
              · rw [List.getElem?_append_right (by omega)]
                have := c3 (j - ws.length) (by rw [List.length_append] at hj; omega)
                rw [← this]
                congr 1
                rw [hce, h2, Addr.add_add]
                congr 1; omega
            · intro y hy
              rcases List.mem_append.1 hy with hy | hy
              · exact h5 y hy
              · rw [List.mem_singleton.1 hy]; exact k5
        obtain ⟨xs, ws, h1, h2, h3, h4, h5⟩ := key len (Nat.le_refl _)
        have hxl : List.length xs = len := h1
        refine ⟨[⟨.sl false e (rowTy ts').frz, xs⟩], rfl, ⟨_, [], [], [], rfl, rfl, ⟨?_, fun _ => rfl⟩, rfl, rfl⟩, fun l hl => by rw [List.mem_singleton.1 hl]; exact ⟨show List.length xs ≤ maxLen by omega, h5⟩⟩
        refine ⟨rfl, some a, cap, ws, by rw [hxl], by rw [hxl]; exact hl, h3, ?_⟩
        rcases Nat.eq_zero_or_pos len with hz | hz
        · left; exact List.eq_nil_of_length_eq_zero (show List.length xs = 0 by omega)
        · right
          refine ⟨a, rfl, trivial, ?_, h4⟩
          have h0 := hels 0 hz
          rw [List.getElem?_eq_getElem (by omega), Option.bind_eq_some_iff] at h0
          obtain ⟨cs', hcs, _⟩ := h0
          have := World.cells?_block hcs (by rw [hce]; exact hlen)
          rwa [add_block] at this
    | struct fs row eq =>
      rw [ht] at hts
      simp only [TI.cells, Option.some.injEq] at hts
      subst hts
      obtain ⟨fields, hu, _, _, i, hi, hsz, _⟩ := hT.struct ht
      have h2 := hT2 t
      rw [ht] at h2
      simp only [tyOk2, hu, Bool.and_eq_true, decide_eq_true_eq] at h2
      obtain ⟨hr, ho⟩ := h2
      obtain ⟨xs, m, hfm, _, hcl, hxl, hf⟩ := DataW.trod_struct hu h
      obtain rfl : n = m := by omega
      have hcl' : cs.length = row.length := by rw [hcl]; simp [Program.cellsOf, hi, hsz]
      have key : ∀ (fl : List Field) (off : Nat) (row : List Ty), rowOfF ti fl = some row → offsF ti fl off = true → off + row.length = cs.length →
          (∀ f ∈ fl, ∃ y, DataW.trod enc P w 0 (fun _ => true) true n f.type ((cs.drop f.offset).take (P.cellsOf f.type)) = some y) →
          ∃ ls : List ALeaf, ls.map (·.1) = row.map Ty.frz ∧ FL (ALOk w Any) ls (cs.drop off) [] ∧ ∀ l ∈ ls, Fits l.1 l.2 := by
        intro fl
        induction fl with
        | nil =>
          intro off row h1 _ h3 _
          simp only [rowOfF, Option.some.injEq] at h1
          subst h1
          simp only [List.length_nil, Nat.add_zero] at h3
          exact ⟨[], rfl, ⟨by rw [h3]; simp, rfl⟩, fun _ h => by cases h⟩
        | cons f fl ihf =>
          intro off row h1 h2 h3 h4
          simp only [rowOfF] at h1
          split at h1
          · rename_i a b ha hb
            injection h1 with h1
            subst h1
            simp only [offsF, Bool.and_eq_true, beq_iff_eq, ha, Option.getD_some] at h2
            obtain ⟨ho, h2⟩ := h2
            rw [List.length_append] at h3
            obtain ⟨ls2, q1, q2, q3⟩ := ihf (off + a.length) b hb h2 (by omega) (fun g hg => h4 g (by simp [hg]))
            obtain ⟨y, hy⟩ := h4 f (by simp)
            obtain ⟨ls1, p1, p2, p3⟩ := ih _ _ a ha hy
            obtain ⟨i', hi', hsz', _⟩ := size_of hT ha
            have hc : P.cellsOf f.type = a.length := by simp [Program.cellsOf, hi', hsz']
            refine ⟨ls1 ++ ls2, by rw [List.map_append, List.map_append, p1, q1], ?_, ?_⟩
            · have := p2.append q2
              rw [ho, hc] at this
              rw [← List.drop_drop, List.take_append_drop] at this
              simpa using this
            · intro l hl
              rcases List.mem_append.1 hl with hl | hl
              · exact p3 l hl
              · exact q3 l hl
          · cases h1
      have := key fields.toList 0 row hr ho (by omega) (fun f hfm => by
        obtain ⟨j, hj⟩ := List.getElem?_of_mem hfm
        have hj' : fields[j]? = some f := by simpa using hj
        have hjl : j < fields.size := (Array.getElem?_eq_some_iff.1 hj').1
        rw [hf j f hj']
        exact ⟨_, List.getElem?_eq_getElem (by omega)⟩)
      simpa using this
    | ptr e => rw [ht] at hts; cases hts
    | other => rw [ht] at hts; cases hts
theorem leaf_cons {t : Ty} {ts : List Ty} : ∀ {ls : List ALeaf}, ls.map (·.1) = t :: ts → ∃ (x : t.D) (ls' : List ALeaf), ls = ⟨t, x⟩ :: ls' ∧ ls'.map (·.1) = ts
  | ⟨t', x⟩ :: ls, h => by
    simp only [List.map_cons, List.cons.injEq] at h
    obtain ⟨rfl, h⟩ := h
    exact ⟨x, ls, rfl, h⟩
theorem leaf_nil {ls : List ALeaf} (h : ls.map (·.1) = []) : ls = [] := by simpa using h
theorem kn_law {P : Program} {k : Kn} (h : KnOk P k) {args : List A1} {a : Ans} (ha : k.ca args [] = some a) {y : a.β} (hy : a.o = some y) (hr : a.g y = ⟨[.one ⟨.bool, true⟩], [], []⟩) : CallSound P k.f args [] ⟨[.one ⟨.bool, true⟩], [], []⟩ := hr ▸ h args [] a ha y hy
theorem open_one {r : Reach} {b0 : Nat} (hT : TabOk P ti) (hT2 : ∀ t, tyOk2 P ti t (ti t) = true) {t : TypeId} {u : Ty} {v : Value} {d : DataW H} {ps : List MemPlace} (hts : (ti t).cells = some [u]) (hag : (ti t).isAgg = false)
    (hval : Value.okWide P w r b0 t v) (h : DataW.Trod enc P w 0 (fun _ => true) true t v d ps) : ∃ x : u.frz.D, Fits u.frz x ∧ ∀ ms, A1Ok w Any ms (.one ⟨u.frz, x⟩) v [] := by
  obtain ⟨fuel, h⟩ := h
  obtain ⟨ls, h1, h2, h3⟩ := trod_open hT hT2 fuel t _ _ hts h
  match ls, h1, h2, h3 with
  | [⟨t', x⟩], h1, h2, h3 =>
    simp only [List.map_cons, List.map_nil, List.cons.injEq, and_true] at h1
    subst h1
    obtain ⟨v', vs, F1, F2, e1, e, k1, rfl, rfl⟩ := h2
    obtain rfl : F1 = [] := by simpa using e.symm
    refine ⟨x, h3 ⟨u.frz, x⟩ (by simp), fun ms => ?_⟩
    have : v.cells = #[v'] := Array.toList_inj.1 e1
    have hv : v = v' := by
      have h9 : v.cells = #[v] := by
        cases ht : ti t with
        | cell u' =>
          obtain ⟨⟨d', hd', hdd⟩, _⟩ := hT.cell ht
          cases u' <;> cases d' <;> first
            | (simp [descIs] at hdd; done)
            | (obtain ⟨n, rfl⟩ := okWide_int hd' hval; rfl)
            | (obtain ⟨n, rfl⟩ := okWide_bool hd' hval; rfl)
            | (obtain ⟨n, rfl⟩ := okWide_string hd' hval; rfl)
        | slice e ts' b =>
          obtain ⟨a, len, cap, rfl⟩ := okWide_slice (hT.slice ht).1 hval
          rfl
        | struct fs row eq => rw [ht] at hag; cases hag
        | ptr e => rw [ht] at hts; cases hts
        | other => rw [ht] at hts; cases hts
      rw [h9] at this
      simpa using this
    subst hv
    exact k1
theorem open_ag {r : Reach} {b0 : Nat} (hT : TabOk P ti) (hT2 : ∀ t, tyOk2 P ti t (ti t) = true) {t : TypeId} {ts : List Ty} {v : Value} {d : DataW H} {ps : List MemPlace} (hts : (ti t).cells = some ts) (hag : (ti t).isAgg = true)
    (hval : Value.okWide P w r b0 t v) (h : DataW.Trod enc P w 0 (fun _ => true) true t v d ps) : ∃ ls : List ALeaf, ls.map (·.1) = ts.map Ty.frz ∧ (∀ l ∈ ls, Fits l.1 l.2) ∧ ∀ ms, A1Ok w Any ms (.ag ls) v [] := by
  obtain ⟨fuel, h⟩ := h
  obtain ⟨ls, h1, h2, h3⟩ := trod_open hT hT2 fuel t _ _ hts h
  refine ⟨ls, h1, h3, fun ms => ?_⟩
  obtain ⟨i, _, _, ⟨d', hd', hdd⟩, _⟩ := size_of hT hts
  rw [hag] at hdd
  have : ∃ cs, v = .agg cs := by
    cases d' <;> simp [isAggD] at hdd <;> (simp only [Value.okWide, hd'] at hval; obtain ⟨cs, h, _⟩ := hval; exact ⟨cs, h⟩)
  obtain ⟨cs, rfl⟩ := this
  exact ⟨cs.toList, rfl, h2⟩
end
end Go.V

set_option linter.unusedVariables false
set_option linter.unusedSimpArgs false
set_option maxRecDepth 100000
namespace Go.V.G
open Go.V
theorem u8_of7 {n : Int} (h : Fits (.int .u8) n) : 0 ≤ n ∧ n ≤ 255 := by
  have h2 : (Lit.int .u8 n).wf = true := h
  simp [Lit.wf, IntKind.min, IntKind.max, IntKind.bits, IntKind.signed] at h2
  omega
theorem lft_low7 {n : Nat} {l : Int} (h : ¬ lft l n < 0) : ((n : Nat) : Int) ≤ l := by
  unfold lft at h
  split at h
  · assumption
  · exact absurd (by omega) h
theorem layText_exact {b : Bls} {x y z : List Int} {t : List UInt8} {near : Int} (f : FitS b x y z) (hu : ∀ c ∈ b, U8s c) (hux : U8s x) : l_FnExactLayText b x y z t near = some true := by
  unfold l_FnExactLayText
  by_cases hd : 1048576 < t.length
  · rw [if_pos (by simp; omega)]
  rw [if_neg (by simp; omega), sz_Space f, Option.bind_some]
  by_cases hs : lft 1048576 (w_Space b x y z) < 0
  · rw [if_pos (by simpa using hs)]
  rw [if_neg (by simpa using hs)]
  have hw := lft_low7 hs
  have hsb : SB b x y z := by
    have e1 := w_ByteSS_len b
    have hw' := hw
    unfold w_Space w_IntS at hw'
    exact ⟨by omega, by omega, by omega⟩
  obtain ⟨r, hr1, hr2, hrw⟩ := layText_eq (t := t) (near := near) hsb hu hux
  have hto : l_toSpace b x y z = some (b, x, y, z) := to_Space (by omega)
  have heq : l_eqSpace b x y z b x y z = some true := eq_Space (by omega)
  have hcs : ((cSp b x y z : Nat) : Int) ≤ 1048576 := by
    have e1 := cb_ByteSS b; have e2 := cb_ByteS x; have e3 := cb_IntS y; have e4 := cb_IntS z
    have hw' := hw
    unfold w_Space w_ByteS w_IntS at hw'
    unfold cSp; omega
  have hmk : l_markSpace_l b x y z 1 = _ := mark_Space (by omega) (by omega) (by omega)
  have hn : ¬ ((1 : Int) + ((cSp b x y z : Nat) : Int) < 0) := by omega
  have hq : l_eqSpace r.2.2.1 r.2.2.2.1 r.2.2.2.2.1 r.2.2.2.2.2 r.2.2.1 r.2.2.2.1 r.2.2.2.2.1 r.2.2.2.2.2 = some true := eq_Space (by omega)
  have hm : l_markSpace_l r.2.2.1 r.2.2.2.1 r.2.2.2.2.1 r.2.2.2.2.2 1 = _ := mark_Space (by omega) (by omega) (by omega)
  have hh : l_heldSpace (mB r.2.2.1 1) (mX r.2.2.1 r.2.2.2.1 1) (mY r.2.2.1 r.2.2.2.1 r.2.2.2.2.1 1) (mZ r.2.2.1 r.2.2.2.1 r.2.2.2.2.1 r.2.2.2.2.2 1) 1 = _ := held_Space (by omega) (by omega) (by omega)
  have hn2 : ¬ ((1 : Int) + ((cSp r.2.2.1 r.2.2.2.1 r.2.2.2.2.1 r.2.2.2.2.2 : Nat) : Int) < 0) := by omega
  have hbn : ∀ c : Bool, (c != c) = false := fun c => by cases c <;> rfl
  simp only [hto, hr1, hr2, heq, hmk, hn, hq, hm, hh, hn2, hbn, Option.bind_some, Bool.not_true, Bool.false_eq_true, if_false, not_true_eq_false, decide_false]
end Go.V.G
namespace Go.Proofs.Ytggpihbcaebpjaa
open Go.V
theorem pure_FnExactLayText {e1 e2 e3 e4 e5 : TypeId} (x0 : List (List Int)) (x1 x2 x3 : List Int) (x4 : List UInt8) (x5 : Int)
    (g0 : ∀ l ∈ ([⟨.sl false e1 (.sl false e2 (.int .u8)), x0⟩, ⟨.sl false e3 (.int .u8), x1⟩, ⟨.sl false e4 (.int .i64), x2⟩, ⟨.sl false e5 (.int .i64), x3⟩] : List ALeaf), Fits l.1 l.2) (g1 : Fits .str x4) (g2 : Fits (.int .i64) x5) : G.l_FnExactLayText x0 x1 x2 x3 x4 x5 = some true := by
  have h1 := g0 ⟨.sl false e1 (.sl false e2 (.int .u8)), x0⟩ (by simp)
  have h2 := g0 ⟨.sl false e3 (.int .u8), x1⟩ (by simp)
  have h3 := g0 ⟨.sl false e4 (.int .i64), x2⟩ (by simp)
  have h4 := g0 ⟨.sl false e5 (.int .i64), x3⟩ (by simp)
  exact G.layText_exact ⟨⟨h1.1, fun c hc => (h1.2 c hc).1⟩, h2.1, h3.1, h4.1⟩ (fun c hc v hv => G.u8_of7 ((h1.2 c hc).2 v hv)) (fun v hv => G.u8_of7 (h2.2 v hv))
end Go.Proofs.Ytggpihbcaebpjaa
