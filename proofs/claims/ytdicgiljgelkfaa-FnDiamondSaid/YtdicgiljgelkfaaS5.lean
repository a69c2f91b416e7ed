/-
  S5: operations that make no memory: what each yields is what the machine says.
-/
import Derived.Test.YtdicgiljgelkfaaS4
import Derived.Deep.AppendSrc
import Derived.Laws.Tables
import Derived.Laws.Strings
namespace Go.V
open Go.RowKit

/-- an operation's answer stands in the world -/
def Did (b : Base) (S : St) (c : Cc) (w : World) (out : Out) (v : Value) (w' : World) : Prop :=
  ∃ c', Inv b ((S.kp out.ks).ups out.us) w' c' ∧ Stay S ((S.kp out.ks).ups out.us) c c' w w' (Kok b S c) (Kok b ((S.kp out.ks).ups out.us) c') out.ks ∧
    SVOk ((S.kp out.ks).ups out.us) c' w' (Kok b ((S.kp out.ks).ups out.us) c') out.x v

theorem Did.same {b : Base} {S : St} {c : Cc} {w : World} (hi : Inv b S w c) {x : SV} {v : Value} (hx : SVOk S c w (Kok b S c) x v) : Did b S c w ⟨x, [], []⟩ v w :=
  ⟨c, hi, ⟨fun _ _ _ _ _ h => h, fun _ _ _ _ h => h, fun _ _ _ _ h => h, KSame.refl _ _⟩, hx⟩

theorem Did.sim {b : Base} {N : Nat} {S : St} {c : Cc} {w w' : World} {a : Act} {out : Out} {v : Value} (hs : Slots N S c w (Kok b S c) a) (h : Did b S c w out v w') (d : Option Nat) (hd : ∀ k, d = some k → k < N) :
    Sim b N (S.app d out) (a.put d v) w' := by
  obtain ⟨c', h1, h2, h3⟩ := h
  refine ⟨c', h1.put (putO_ow ..) (putO_ms ..) (putO_mc ..), ?_⟩
  show Slots N (((S.kp out.ks).ups out.us).putO d out.x) c' w' (Kok b (((S.kp out.ks).ups out.us).putO d out.x) c') _
  rw [kok_same (putO_ow _ d out.x) (putO_ms _ d out.x)]
  exact h2.slots hs (fun i => by rw [ups_sl, kp_sl]) d out.x v hd h3 (fun l v => leaf_same (putO_ow ..) l v) (fun x v => s1_same (putO_ow ..) (putO_ms ..) x v)

/-! ### numbers -/
section
variable {P : Program} {w : World} {K : Nat → Prop} {S : St} {c : Cc}

theorem ba_toList (l : List UInt8) : (⟨l.toArray⟩ : ByteArray).toList = l := by
  simp

theorem int_leaf {k : IntKind} {n : Int} {v : Value} (h : LeafOk S c w K (.v (.int k) n) v) : v = .int k n := by
  have := h; simp only [LeafOk, Rp] at this; simpa using this.1
theorem bool_leaf {n : Bool} {v : Value} (h : LeafOk S c w K (.v .bool n) v) : v = .bool n := by
  have := h; simp only [LeafOk, Rp] at this; simpa using this.1
theorem str_leaf {n : List UInt8} {v : Value} (h : LeafOk S c w K (.v .str n) v) : v = .string ⟨n.toArray⟩ := by
  have := h; simp only [LeafOk, Rp] at this; simpa using this.1
theorem mk_int {k : IntKind} {n : Int} : LeafOk S c w K (.v (.int k) n) (.int k n) := by simp [LeafOk, Rp]
theorem mk_bool {n : Bool} : LeafOk S c w K (.v .bool n) (.bool n) := by simp [LeafOk, Rp]
theorem mk_str {n : List UInt8} : LeafOk S c w K (.v .str n) (.string ⟨n.toArray⟩) := by simp [LeafOk, Rp]

theorem sv_leaf {l : Leaf} {v : Value} (h : LeafOk S c w K l v) : SVOk S c w K (.s (.one l)) v := h
theorem leaf_sv {l : Leaf} {v : Value} (h : SVOk S c w K (.s (.one l)) v) : LeafOk S c w K l v := h
theorem guard_one (op : BinOp) (t : TypeId) (x y : Operand) {u v : Value} (hu : u.oneCell' = true) (hn : u ≠ .nilIface) : eqGuard op t x y u v = pure () := by
  cases u <;> first | (simp [Value.oneCell'] at hu; done) | (exact absurd rfl hn) | (cases op <;> rfl)

theorem equalIn_bool (d : Nat) (t : TypeId) (a b : Bool) (ht : P.underlying t = some .bool) : (Op.equalIn (d + 1) t (.bool a) (.bool b)).run P w = .ok (a == b) w := by
  simp only [Op.equalIn, Sem.run_bind, run_underlying ht, Result.andThen_ok, Sem.run_pure]
theorem equalIn_int (d : Nat) (t : TypeId) (k k' : IntKind) (a b : Int) (ht : P.underlying t = some (.int k')) : (Op.equalIn (d + 1) t (.int k a) (.int k b)).run P w = .ok (a == b) w := by
  simp only [Op.equalIn, Sem.run_bind, run_underlying ht, Result.andThen_ok, if_true, Sem.run_pure]
theorem equalIn_str (d : Nat) (t : TypeId) (a b : ByteArray) (ht : P.underlying t = some .string) : (Op.equalIn (d + 1) t (.string a) (.string b)).run P w = .ok (a == b) w := by
  simp only [Op.equalIn, Sem.run_bind, run_underlying ht, Result.andThen_ok, Sem.run_pure]
theorem bool_eql (t : TypeId) (a b : Bool) (ht : P.underlying t = some .bool) : (binOp .eql t (.bool a) (.bool b)).run P w = .ok (.bool (a == b)) w := by
  simp only [binOp, Op.equal, Sem.run_bind, show Op.maxDepth = 9999 + 1 from rfl, equalIn_bool _ _ _ _ ht, Result.andThen_ok, Sem.run_pure]
theorem bool_neq (t : TypeId) (a b : Bool) (ht : P.underlying t = some .bool) : (binOp .neq t (.bool a) (.bool b)).run P w = .ok (.bool (a != b)) w := by
  simp only [binOp, Op.equal, Sem.run_bind, show Op.maxDepth = 9999 + 1 from rfl, equalIn_bool _ _ _ _ ht, Result.andThen_ok, Sem.run_pure]
  rfl

theorem vbin_ok (op : BinOp) (t : TypeId) (x y : Leaf) (u v : Value) (l : Leaf) (hx : LeafOk S c w K x u) (hy : LeafOk S c w K y v) (h : (vbin op x y).ev S = some l)
    (ht : ∀ a, x = .v .bool a → P.underlying t = some .bool) : ∃ r, (binOp op t u v).run P w = .ok r w ∧ LeafOk S c w K l r := by
  unfold vbin at h
  split at h
  · rename_i k a k' b'
    obtain rfl := int_leaf hx
    obtain rfl := int_leaf hy
    split at h
    · obtain ⟨h1, h2⟩ := ev_iff h
      simp only [decide_eq_true_eq] at h1
      simp only [Tr.ev, Option.some.injEq] at h2
      subst h2
      have : ¬ ((b' : Int) < 0) := Int.not_lt.2 h1
      exact ⟨_, by simp [binOp, Op.shift, this], mk_int⟩
    · obtain ⟨h1, h2⟩ := ev_iff h
      simp only [decide_eq_true_eq] at h1
      simp only [Tr.ev, Option.some.injEq] at h2
      subst h2
      have : ¬ ((b' : Int) < 0) := Int.not_lt.2 h1
      exact ⟨_, by simp [binOp, Op.shift, this], mk_int⟩
    · rename_i hs1 hs2
      split at h
      · rename_i hk
        subst hk
        split at h
        case h_4 | h_5 =>
          obtain ⟨h1, h2⟩ := ev_iff h
          simp only [decide_eq_true_eq] at h1
          simp only [Tr.ev, Option.some.injEq] at h2
          subst h2
          exact ⟨_, by simp [binOp, Op.intDiv, h1], mk_int⟩
        case h_16 => simp [Tr.ev] at h
        all_goals
          simp only [Tr.ev, Option.some.injEq] at h
          subst h
        · exact ⟨_, by simp [binOp, Op.intArith] <;> rfl, mk_int⟩
        · exact ⟨_, by simp [binOp, Op.intArith] <;> rfl, mk_int⟩
        · exact ⟨_, by simp [binOp, Op.intArith] <;> rfl, mk_int⟩
        · exact ⟨_, by simp [binOp, Op.intBits] <;> rfl, mk_int⟩
        · exact ⟨_, by simp [binOp, Op.intBits] <;> rfl, mk_int⟩
        · exact ⟨_, by simp [binOp, Op.intBits] <;> rfl, mk_int⟩
        · exact ⟨_, by simp [binOp, Op.intBits] <;> rfl, mk_int⟩
        · exact ⟨_, by simp [binOp, Op.intCmp] <;> rfl, mk_bool⟩
        · exact ⟨_, by simp [binOp, Op.intCmp] <;> rfl, mk_bool⟩
        · exact ⟨_, by simp [binOp, Op.intCmp] <;> rfl, mk_bool⟩
        · exact ⟨_, by simp [binOp, Op.intCmp] <;> rfl, mk_bool⟩
        · exact ⟨_, by simp [binOp, Op.intCmp] <;> rfl, mk_bool⟩
        · exact ⟨_, by simp [binOp, Op.intCmp] <;> rfl, mk_bool⟩
      · simp [Tr.ev] at h
  · rename_i a b'
    obtain rfl := bool_leaf hx
    obtain rfl := bool_leaf hy
    have htt := ht a rfl
    split at h
    · simp only [Tr.ev, Option.some.injEq] at h; subst h; exact ⟨_, bool_eql t a b' htt, mk_bool⟩
    · simp only [Tr.ev, Option.some.injEq] at h; subst h; exact ⟨_, bool_neq t a b' htt, mk_bool⟩
    · simp [Tr.ev] at h
  · rename_i a b'
    obtain rfl := str_leaf hx
    obtain rfl := str_leaf hy
    have e1 := ba_toList a
    have e2 := ba_toList b'
    split at h
    · obtain ⟨h1, h2⟩ := ev_iff h
      simp only [decide_eq_true_eq] at h1
      simp only [Tr.ev, Option.some.injEq] at h2
      subst h2
      refine ⟨.string (⟨(List.toArray a)⟩ ++ ⟨List.toArray b'⟩), ?_, ?_⟩
      · have : ¬ ((9223372036854775807 : Int) < (List.length a : Int) + (List.length b' : Int)) := by omega
        simp [binOp, Op.stringOp, ByteArray.size, this]
      · have : (⟨(List.toArray a)⟩ ++ ⟨List.toArray b'⟩ : ByteArray) = ⟨((a : List UInt8) ++ b').toArray⟩ := by
          apply ByteArray.ext; simp
        rw [this]; exact mk_str
    · simp only [Tr.ev, Option.some.injEq] at h; subst h; exact ⟨_, by simp [binOp, Op.stringOp, e1, e2] <;> rfl, mk_bool⟩
    · simp only [Tr.ev, Option.some.injEq] at h; subst h; exact ⟨_, by simp [binOp, Op.stringOp, e1, e2] <;> rfl, mk_bool⟩
    · simp only [Tr.ev, Option.some.injEq] at h; subst h; exact ⟨_, by simp [binOp, Op.stringOp, e1, e2] <;> rfl, mk_bool⟩
    · simp only [Tr.ev, Option.some.injEq] at h; subst h; exact ⟨_, by simp [binOp, Op.stringOp, e1, e2] <;> rfl, mk_bool⟩
    · simp only [Tr.ev, Option.some.injEq] at h; subst h; exact ⟨_, by simp [binOp, Op.stringOp, e1, e2] <;> rfl, mk_bool⟩
    · simp only [Tr.ev, Option.some.injEq] at h; subst h; exact ⟨_, by simp [binOp, Op.stringOp, e1, e2] <;> rfl, mk_bool⟩
    · simp [Tr.ev] at h
  · simp [Tr.ev] at h

theorem vun_ok (op : UnOp) (x : Leaf) (u : Value) (l : Leaf) (hx : LeafOk S c w K x u) (h : (vun op x).ev S = some l) : ∃ r, (Op.unary op u).run P w = .ok r w ∧ LeafOk S c w K l r := by
  unfold vun at h
  split at h
  · obtain rfl := int_leaf hx
    split at h
    · simp only [Tr.ev, Option.some.injEq] at h; subst h; exact ⟨_, by simp [Op.unary, Op.intArith] <;> rfl, mk_int⟩
    · simp only [Tr.ev, Option.some.injEq] at h; subst h; exact ⟨_, by simp [Op.unary, Op.intBits] <;> rfl, mk_int⟩
    · simp [Tr.ev] at h
  · obtain rfl := bool_leaf hx
    split at h
    · simp only [Tr.ev, Option.some.injEq] at h; subst h; exact ⟨_, by simp [Op.unary] <;> rfl, mk_bool⟩
    · simp [Tr.ev] at h
  · simp [Tr.ev] at h
end

#print axioms vbin_ok
#print axioms vun_ok
end Go.V
