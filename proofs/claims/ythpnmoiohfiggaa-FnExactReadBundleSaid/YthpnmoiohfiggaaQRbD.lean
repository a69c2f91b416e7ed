import Derived.Test.YthpnmoiohfiggaaQRbC
import Derived.OrdersIn
import Derived.OrdersHeld
import Derived.AtR
import Derived.Laws.World
set_option linter.unusedVariables false
set_option linter.unusedSimpArgs false
set_option maxRecDepth 100000
namespace Go.V.G
open Go.V
def Byt (l : List Int) : Prop := ∀ x ∈ l, 0 ≤ x ∧ x ≤ 255
theorem Byt.append {a b : List Int} (h : Byt a) (k : Byt b) : Byt (a ++ b) := fun x hx => (List.mem_append.1 hx).elim (h x) (k x)
def dig1 (h x : Int) : Int := IntKind.wrap .u32 ((IntKind.wrap .u32 (((BitVec.ofInt (IntKind.bits .u32) h ^^^ BitVec.ofInt (IntKind.bits .u32) (IntKind.wrap .u32 x)).toNat : Int))) * 16777619)
theorem dig1_in (h x : Int) : 0 ≤ dig1 h x ∧ dig1 h x < 4294967296 := by unfold dig1; rw [IntKind.wrap_u32]; omega
theorem dig1_64 {h x : Int} (h0 : 0 ≤ h) (h1 : h < 4294967296) (x0 : 0 ≤ x) (x1 : x ≤ 255) :
    Int.tmod (IntKind.wrap .u64 ((IntKind.wrap .u64 (((BitVec.ofInt (IntKind.bits .u64) h ^^^ BitVec.ofInt (IntKind.bits .u64) (IntKind.wrap .u64 x)).toNat : Int))) * 16777619)) 4294967296 = dig1 h x := by
  unfold dig1
  obtain ⟨a, rfl⟩ := Int.eq_ofNat_of_zero_le h0
  obtain ⟨b, rfl⟩ := Int.eq_ofNat_of_zero_le x0
  have ha : a < 4294967296 := by omega
  have hb : b < 4294967296 := by omega
  have hx := Nat.xor_lt_two_pow (n := 32) (show a < 2 ^ 32 by omega) (show b < 2 ^ 32 by omega)
  rw [wu64 (n := ((b : Nat) : Int)) (by omega) (by omega), IntKind.wrap_u32 ((b : Nat) : Int), show ((b : Nat) : Int) % 4294967296 = ((b : Nat) : Int) by omega]
  have e64 : ((BitVec.ofInt (IntKind.bits .u64) ((a : Nat) : Int) ^^^ BitVec.ofInt (IntKind.bits .u64) ((b : Nat) : Int)).toNat) = a ^^^ b := by
    rw [BitVec.toNat_xor, BitVec.ofInt_natCast, BitVec.ofInt_natCast, BitVec.toNat_ofNat, BitVec.toNat_ofNat, show IntKind.bits .u64 = 64 from rfl, Nat.mod_eq_of_lt (by omega), Nat.mod_eq_of_lt (by omega)]
  have e32 : ((BitVec.ofInt (IntKind.bits .u32) ((a : Nat) : Int) ^^^ BitVec.ofInt (IntKind.bits .u32) ((b : Nat) : Int)).toNat) = a ^^^ b := by
    rw [BitVec.toNat_xor, BitVec.ofInt_natCast, BitVec.ofInt_natCast, BitVec.toNat_ofNat, BitVec.toNat_ofNat, show IntKind.bits .u32 = 32 from rfl, Nat.mod_eq_of_lt (by omega), Nat.mod_eq_of_lt (by omega)]
  rw [e64, e32]
  generalize a ^^^ b = m at hx
  rw [wu64 (n := ((m : Nat) : Int)) (by omega) (by omega), IntKind.wrap_u32 ((m : Nat) : Int), show ((m : Nat) : Int) % 4294967296 = ((m : Nat) : Int) by omega, wu64 (by omega) (by omega), IntKind.wrap_u32, Int.tmod_eq_emod_of_nonneg (by omega)]
def dig (h : Int) (b : List Int) : Int := b.foldl dig1 h
theorem dig_take {b : List Int} {h : Int} {i : Nat} (hi : i < b.length) : dig h (b.take (i + 1)) = dig1 (dig h (b.take i)) b[i] := by
  unfold dig; rw [List.take_succ_eq_append_getElem hi, List.foldl_append]; rfl
theorem dig_in : ∀ (b : List Int) {h : Int}, 0 ≤ h ∧ h < 4294967296 → 0 ≤ dig h b ∧ dig h b < 4294967296
  | [], _, h => h
  | x :: b, h, _ => dig_in b (dig1_in h x)
theorem i_digest_eq {b : List Int} (hl : b.length ≤ 1099511627776) (h : Int) : i_digest h b = some (dig h b) := by
  unfold i_digest
  have := loop_run i_digest_L1 (fun i => (dig h (b.take i), b, ((b.length : Nat) : Int), ((i : Nat) : Int))) b.length (dig h b) (by
    intro i hi
    have hlt : ((i : Nat) : Int) < ((b.length : Nat) : Int) := by omega
    unfold i_digest_L1
    simp only [hlt, decide_true, if_true, show (0 : Int) ≤ ((i : Nat) : Int) from by omega, Int.toNat_natCast, List.getElem?_eq_getElem hi, Option.bind_some, idx_succ hl hi, dig_take hi]
    rfl) (by simp [i_digest_L1])
  have e : loopG i_digest_L1 (h, b, ((b.length : Nat) : Int), 0) = some (dig h b) := by simpa [dig] using this
  rw [e]; rfl
theorem i_DigestOf_eq {b : List Int} (hl : b.length ≤ 1099511627776) : i_DigestOf b = some (dig 2166136261 b) := by
  unfold i_DigestOf; rw [i_digest_eq hl]; rfl
theorem s_DigestOf_eq {b : List Int} (hl : b.length ≤ 1099511627776) (hb : Byt b) : s_DigestOf b = some (dig 2166136261 b) := by
  unfold s_DigestOf
  have := loop_run s_DigestOf_L1 (fun i => (dig 2166136261 (b.take i), b, ((b.length : Nat) : Int), ((i : Nat) : Int))) b.length (dig 2166136261 b) (by
    intro i hi
    have hlt : ((i : Nat) : Int) < ((b.length : Nat) : Int) := by omega
    have hd := dig_in (b.take i) (h := 2166136261) (by omega)
    have hx := hb _ (List.getElem_mem hi)
    unfold s_DigestOf_L1
    simp only [hlt, decide_true, if_true, show (0 : Int) ≤ ((i : Nat) : Int) from by omega, Int.toNat_natCast, List.getElem?_eq_getElem hi, Option.bind_some, show decide (¬ (4294967296 : Int) = 0) = true from rfl, idx_succ hl hi, dig_take hi, dig1_64 hd.1 hd.2 hx.1 hx.2]) (by simp [s_DigestOf_L1])
  have e : loopG s_DigestOf_L1 (2166136261, b, ((b.length : Nat) : Int), 0) = some (dig 2166136261 b) := by simpa [dig] using this
  have hd := dig_in b (h := 2166136261) (by omega)
  rw [e, Option.bind_some, IntKind.wrap_u32]
  congr 1; omega
def fourOf (d : Int) : List Int := [IntKind.wrap .u8 (Int.fdiv d (2 ^ (min (Int.toNat 24) (IntKind.bits .u32)))), IntKind.wrap .u8 (Int.fdiv d (2 ^ (min (Int.toNat 16) (IntKind.bits .u32)))), IntKind.wrap .u8 (Int.fdiv d (2 ^ (min (Int.toNat 8) (IntKind.bits .u32)))), IntKind.wrap .u8 d]
theorem i_four_eq (d : Int) : i_four d = some (fourOf d) := rfl
section
variable {f : Int} {t : List UInt8} {r : List Rn} {cs : List (List Prt)}
end
end Go.V.G

set_option linter.unusedVariables false
set_option linter.unusedSimpArgs false
set_option maxRecDepth 100000
namespace Go.V.G
open Go.V
def decN : Nat → List Int → Option (List Prt)
  | 0, x => if x = [] then some [] else none
  | n + 1, x => match x with
    | [] => some []
    | [_] => none
    | k :: m :: r =>
      if k = 1 then (decN n r).map ((m, 0, []) :: ·)
      else if k = 2 then (decN n r).map ((0, m, []) :: ·)
      else if k = 3 ∧ m ≤ ((r.length : Nat) : Int) then (decN n (r.drop m.toNat)).map ((0, 0, textOf (r.take m.toNat)) :: ·)
      else none
theorem decN_nil : ∀ n, decN n [] = some []
  | 0 => rfl
  | _ + 1 => rfl
theorem decN_sm : ∀ (n : Nat) (x : List Int) (c : List Prt), Byt x → decN n x = some c → c.length ≤ x.length ∧ psum c ≤ x.length ∧ ∀ p ∈ c, (0 ≤ p.1 ∧ p.1 ≤ 255) ∧ (0 ≤ p.2.1 ∧ p.2.1 ≤ 255)
  | 0, x, c, hb, h => by
    unfold decN at h
    split at h
    · injection h with h; subst h; simp [psum]
    · cases h
  | n + 1, [], c, hb, h => by
    rw [decN_nil] at h
    injection h with h; subst h; simp [psum]
  | n + 1, [a], c, hb, h => by simp [decN] at h
  | n + 1, k :: m :: r, c, hb, h => by
    have hm := hb m (by simp)
    have hr : Byt r := fun v hv => hb v (by simp [hv])
    simp only [decN] at h
    split at h
    · obtain ⟨c', h1, rfl⟩ := Option.map_eq_some_iff.1 h
      obtain ⟨q1, q2, q3⟩ := decN_sm n r c' hr h1
      refine ⟨by simp only [List.length_cons]; omega, by simp only [psum, List.length_cons, List.length_nil] at q2 ⊢; omega, fun p hp => ?_⟩
      rcases List.mem_cons.1 hp with rfl | hp
      · exact ⟨hm, by dsimp only; omega⟩
      · exact q3 p hp
    · split at h
      · obtain ⟨c', h1, rfl⟩ := Option.map_eq_some_iff.1 h
        obtain ⟨q1, q2, q3⟩ := decN_sm n r c' hr h1
        refine ⟨by simp only [List.length_cons]; omega, by simp only [psum, List.length_cons, List.length_nil] at q2 ⊢; omega, fun p hp => ?_⟩
        rcases List.mem_cons.1 hp with rfl | hp
        · exact ⟨by dsimp only; omega, hm⟩
        · exact q3 p hp
      · split at h
        · rename_i h3
          obtain ⟨c', h1, rfl⟩ := Option.map_eq_some_iff.1 h
          obtain ⟨q1, q2, q3⟩ := decN_sm n _ c' (fun v hv => hr v (List.mem_of_mem_drop hv)) h1
          rw [List.length_drop] at q1 q2
          have ht : (textOf (r.take m.toNat)).length = m.toNat := by unfold textOf; rw [List.length_map, List.length_take]; omega
          refine ⟨by simp only [List.length_cons]; omega, by simp only [psum, List.length_cons, ht] at q2 ⊢; omega, fun p hp => ?_⟩
          rcases List.mem_cons.1 hp with rfl | hp
          · exact ⟨by dsimp only; omega, by dsimp only; omega⟩
          · exact q3 p hp
        · cases h
theorem decN_Sm {n : Nat} {x : List Int} {c : List Prt} (hb : Byt x) (h : decN n x = some c) : Sm x.length c := by
  obtain ⟨q1, q2, q3⟩ := decN_sm n x c hb h
  exact ⟨q1, q2, fun p hp => by obtain ⟨⟨a, b⟩, c, d⟩ := q3 p hp; exact ⟨by unfold I64; omega, by unfold I64; omega⟩⟩
theorem rc_room {l : List Prt} (h : l.length ≤ 1099511627776) (x : Prt) : roomFor (List.length l + List.length [x]) 32 = true := by simp [roomFor]; omega
theorem i_rc_loop : ∀ (n : Nat) (rest : List Int) (acc : List Prt), rest.length ≤ n → Byt rest → n ≤ 1000000000 → n + acc.length ≤ 1099511627776 →
    loopG i_ReadChange_L1 (rest, acc) = some (match decN n rest with | some c => .inl (acc ++ c) | none => .inr false)
  | n, [], acc, _, _, _, _ => by
    rw [loopG_eq, decN_nil]
    unfold i_ReadChange_L1
    simp
  | 0, a :: r, acc, h, _, _, _ => by simp at h
  | n + 1, [a], acc, _, _, _, _ => by
    rw [loopG_eq]
    unfold i_ReadChange_L1
    simp [decN]
  | n + 1, k :: m :: r, acc, h, hb, hn, ha => by
    have hm := hb m (by simp)
    have hr : Byt r := fun v hv => hb v (by simp [hv])
    simp only [List.length_cons] at h
    have hl2 : ¬ (((List.length (k :: m :: r) : Nat) : Int)) < 2 := by simp; omega
    have hl0 : (0 : Int) < (((List.length (k :: m :: r) : Nat) : Int)) := by simp; omega
    have hl3 : (2 : Int) ≤ (((List.length (k :: m :: r) : Nat) : Int)) := by simp; omega
    have g0 : (k :: m :: r)[Int.toNat 0]? = some k := rfl
    have g1 : (k :: m :: r)[Int.toNat 1]? = some m := rfl
    have w : IntKind.wrap .i64 m = m := w64 (by omega) (by omega)
    have room := rc_room (show acc.length ≤ 1099511627776 by omega)
    have ih := fun p => i_rc_loop n r (acc ++ [p]) (by omega) hr (by omega) (by simp only [List.length_append, List.length_cons, List.length_nil]; omega)
    rw [loopG_eq]
    by_cases k1 : k = 1
    · subst k1
      have hs : i_ReadChange_L1 (1 :: m :: r, acc) = some (.inl (r, acc ++ [(m, 0, [])])) := by
        unfold i_ReadChange_L1
        dsimp only
        rw [tail2]
        simp only [hl0, hl2, hl3, g0, g1, decide_true, decide_false, if_true, Bool.false_eq_true, if_false, Option.bind_some, Int.le_refl, show (0 : Int) ≤ 1 from by omega, show (0 : Int) ≤ 2 from by omega, w, room]
      rw [hs]
      dsimp only
      rw [ih, decN]
      simp only [if_true]
      cases decN n r with
      | none => rfl
      | some c => simp
    · by_cases k2 : k = 2
      · subst k2
        have hs : i_ReadChange_L1 (2 :: m :: r, acc) = some (.inl (r, acc ++ [(0, m, [])])) := by
          unfold i_ReadChange_L1
          dsimp only
          rw [tail2]
          simp only [hl0, hl2, hl3, g0, g1, decide_true, decide_false, if_true, Bool.false_eq_true, if_false, Option.bind_some, Int.le_refl, show (0 : Int) ≤ 1 from by omega, show (0 : Int) ≤ 2 from by omega, show ¬ (2 : Int) = 1 from by omega, w, room]
        rw [hs]
        dsimp only
        rw [ih, decN]
        simp only [show ¬ (2 : Int) = 1 from by omega, if_true, if_false]
        cases decN n r with
        | none => rfl
        | some c => simp
      · by_cases k3 : k = 3 ∧ m ≤ ((r.length : Nat) : Int)
        · obtain ⟨rfl, k4⟩ := k3
          have tk : (List.drop (Int.toNat 0) r).take (Int.toNat m - Int.toNat 0) = r.take m.toNat := rfl
          have dr : (List.drop (Int.toNat m) r).take (Int.toNat ((List.length r : Nat) : Int) - Int.toNat m) = r.drop m.toNat := List.take_of_length_le (by rw [List.length_drop]; omega)
          have hs : i_ReadChange_L1 (3 :: m :: r, acc) = some (.inl (r.drop m.toNat, acc ++ [(0, 0, textOf (r.take m.toNat))])) := by
            unfold i_ReadChange_L1
            dsimp only
            rw [tail2]
            simp only [hl0, hl2, hl3, g0, g1, decide_true, decide_false, if_true, Bool.false_eq_true, if_false, Option.bind_some, Int.le_refl, show (0 : Int) ≤ 1 from by omega, show (0 : Int) ≤ 2 from by omega, show ¬ (3 : Int) = 1 from by omega, show ¬ (3 : Int) = 2 from by omega, w, k4, hm.1, tk, dr, room]
          rw [hs]
          dsimp only
          rw [i_rc_loop n (r.drop m.toNat) _ (by rw [List.length_drop]; omega) (fun v hv => hr v (List.mem_of_mem_drop hv)) (by omega) (by simp only [List.length_append, List.length_cons, List.length_nil]; omega), decN]
          simp only [k4, if_true, if_false, and_self, show ¬ (3 : Int) = 1 from by omega, show ¬ (3 : Int) = 2 from by omega]
          cases decN n (r.drop m.toNat) with
          | none => rfl
          | some c => simp
        · have hs : i_ReadChange_L1 (k :: m :: r, acc) = some (.inr (.inr false)) := by
            unfold i_ReadChange_L1
            dsimp only
            rw [tail2]
            by_cases k3' : k = 3
            · subst k3'
              have : ¬ m ≤ ((r.length : Nat) : Int) := fun h => k3 ⟨rfl, h⟩
              simp only [hl0, hl2, hl3, g0, g1, decide_true, decide_false, if_true, Bool.false_eq_true, if_false, Option.bind_some, Int.le_refl, show (0 : Int) ≤ 1 from by omega, show (0 : Int) ≤ 2 from by omega, show ¬ (3 : Int) = 1 from by omega, show ¬ (3 : Int) = 2 from by omega, w, this]
            · simp only [hl0, hl2, hl3, g0, g1, k1, k2, k3', decide_true, decide_false, if_true, Bool.false_eq_true, if_false, Option.bind_some, Int.le_refl, show (0 : Int) ≤ 1 from by omega, show (0 : Int) ≤ 2 from by omega, w]
          rw [hs, decN]
          simp only [k1, k2, k3, if_false]
def readC (x : List Int) : List Prt × Bool := match decN x.length x with
  | some c => if good c = true then (c, true) else ([], false)
  | none => ([], false)
theorem readC_sm (x : List Int) : Sm 240 (readC x).1 := by
  unfold readC
  split
  · split
    · rename_i h; exact good_sm h
    · exact Sm.nil _
  · exact Sm.nil _
theorem i_readC {x : List Int} (hb : Byt x) (hl : x.length ≤ 1000000000) : i_ReadChange x = some (readC x) := by
  unfold i_ReadChange readC
  rw [i_rc_loop x.length x [] (Nat.le_refl _) hb hl (by simp; omega)]
  cases hd : decN x.length x with
  | none => rfl
  | some c =>
    simp only [Option.bind_some, List.nil_append]
    rw [i_Good_eq (decN_Sm hb hd) (by omega), Option.bind_some]
    cases hg : good c <;> simp
theorem s_rc_loop {b : List Int} (hb : Byt b) (hl : b.length ≤ 1000000000) : ∀ (n : Nat) (pos : Nat) (acc : List Prt), pos ≤ b.length → b.length - pos ≤ n → acc.length ≤ 500 →
    loopG s_ReadChange_L1 (b, acc, ((pos : Nat) : Int)) = some (match decN n (b.drop pos) with | some c => if acc.length + c.length ≤ 500 then .inl (acc ++ c) else .inr false | none => .inr false)
  | n, pos, acc, hp, hn, ha => by
    by_cases he : pos = b.length
    · subst he
      rw [loopG_eq, List.drop_length, decN_nil]
      unfold s_ReadChange_L1
      simp [ha]
    have hlt : pos < b.length := by omega
    obtain ⟨n, rfl⟩ : ∃ n', n = n' + 1 := ⟨n - 1, by omega⟩
    have c0 : ((pos : Nat) : Int) < ((b.length : Nat) : Int) := by omega
    have w1 : IntKind.wrap .i64 (((pos : Nat) : Int) + 1) = ((pos + 1 : Nat) : Int) := by rw [w64 (by omega) (by omega)]; omega
    by_cases he2 : pos + 1 = b.length
    · have hd : b.drop pos = [b[pos]] := by rw [List.drop_eq_getElem_cons hlt, he2, List.drop_length]
      have c1 : ((b.length : Nat) : Int) ≤ ((pos + 1 : Nat) : Int) := by omega
      rw [loopG_eq, hd]
      unfold s_ReadChange_L1
      simp only [w1, c0, c1, decide_true, if_true, decN]
    have hlt2 : pos + 1 < b.length := by omega
    have hd : b.drop pos = b[pos] :: b[pos + 1] :: b.drop (pos + 2) := by rw [List.drop_eq_getElem_cons hlt, List.drop_eq_getElem_cons hlt2]
    have c1 : ¬ ((b.length : Nat) : Int) ≤ ((pos + 1 : Nat) : Int) := by omega
    have g1 : b[Int.toNat ((pos + 1 : Nat) : Int)]? = some b[pos + 1] := by rw [Int.toNat_natCast]; exact List.getElem?_eq_getElem hlt2
    have g0 : b[Int.toNat ((pos : Nat) : Int)]? = some b[pos] := by rw [Int.toNat_natCast]; exact List.getElem?_eq_getElem hlt
    have hm := hb _ (List.getElem_mem hlt2)
    have w : IntKind.wrap .i64 b[pos + 1] = b[pos + 1] := w64 (by omega) (by omega)
    have room := rc_room (show acc.length ≤ 1099511627776 by omega)
    have p0 : (0 : Int) ≤ ((pos : Nat) : Int) := by omega
    have p1 : (0 : Int) ≤ ((pos + 1 : Nat) : Int) := by omega
    have w2 : IntKind.wrap .i64 (((pos : Nat) : Int) + 2) = ((pos + 2 : Nat) : Int) := by rw [w64 (by omega) (by omega)]; omega
    have al : ∀ p : Prt, ((List.length (acc ++ [p]) : Nat) : Int) = ((acc.length : Nat) : Int) + 1 := fun p => by simp
    have nx : ∀ (p : Prt) (q : Nat), q ≤ b.length → b.length - q ≤ n → (if decide ((500 : Int) < ((List.length (acc ++ [p]) : Nat) : Int)) = true then (some (.inr (.inr false)) : Option ((List Int × (List Prt × Int)) ⊕ (List Prt ⊕ Bool))) else some (.inl (b, acc ++ [p], ((q : Nat) : Int)))) = s_ReadChange_L1 (b, acc, ((pos : Nat) : Int)) →
        loopG s_ReadChange_L1 (b, acc, ((pos : Nat) : Int)) = some (match (decN n (b.drop q)).map (p :: ·) with | some c => if acc.length + c.length ≤ 500 then .inl (acc ++ c) else .inr false | none => .inr false) := by
      intro p q hq hqn hs
      rw [loopG_eq, ← hs]
      by_cases h5 : acc.length + 1 ≤ 500
      · have h5' : ¬ (500 : Int) < ((List.length (acc ++ [p]) : Nat) : Int) := by rw [al]; omega
        rw [if_neg (by simpa using h5')]
        dsimp only
        rw [s_rc_loop hb hl n q (acc ++ [p]) hq hqn (by simp; omega)]
        cases decN n (b.drop q) with
        | none => rfl
        | some c =>
          simp only [Option.map_some, List.length_append, List.length_cons, List.length_nil, List.append_assoc, List.cons_append, List.nil_append, Nat.zero_add, Nat.add_assoc, Nat.add_comm 1]
      · have h5' : (500 : Int) < ((List.length (acc ++ [p]) : Nat) : Int) := by rw [al]; omega
        rw [if_pos (by simpa using h5')]
        cases decN n (b.drop q) with
        | none => rfl
        | some c =>
          have : ¬ acc.length + (p :: c).length ≤ 500 := by simp only [List.length_cons]; omega
          simp only [Option.map_some, this, if_false]
    rw [hd, decN]
    by_cases k1 : b[pos] = 1
    · simp only [k1, if_true]
      refine nx _ (pos + 2) (by omega) (by omega) ?_
      unfold s_ReadChange_L1
      simp only [w1, w2, w, c0, c1, g0, g1, p0, p1, k1, decide_true, decide_false, if_true, Bool.false_eq_true, if_false, Option.bind_some, room]
    · by_cases k2 : b[pos] = 2
      · simp only [k2, show ¬ (2 : Int) = 1 from by omega, if_true, if_false]
        refine nx _ (pos + 2) (by omega) (by omega) ?_
        unfold s_ReadChange_L1
        simp only [w1, w2, w, c0, c1, g0, g1, p0, p1, k2, decide_true, decide_false, if_true, Bool.false_eq_true, if_false, Option.bind_some, room, show ¬ (2 : Int) = 1 from by omega]
      · by_cases k3 : b[pos] = 3
        · have w3 : IntKind.wrap .i64 ((IntKind.wrap .i64 (((b.length : Nat) : Int) - ((pos : Nat) : Int))) - 2) = ((b.length - (pos + 2) : Nat) : Int) := by rw [w64 (n := ((b.length : Nat) : Int) - ((pos : Nat) : Int)) (by omega) (by omega), w64 (by omega) (by omega)]; omega
          have hdl : (b.drop (pos + 2)).length = b.length - (pos + 2) := List.length_drop
          by_cases k4 : b[pos + 1] ≤ ((b.length - (pos + 2) : Nat) : Int)
          · obtain ⟨m, hme⟩ := Int.eq_ofNat_of_zero_le hm.1
            have k4' : b[pos + 1] ≤ (((b.drop (pos + 2)).length : Nat) : Int) := by rw [hdl]; exact k4
            simp only [k3, k4', show ¬ (3 : Int) = 1 from by omega, show ¬ (3 : Int) = 2 from by omega, and_self, if_true, if_false, List.drop_drop]
            have hq : pos + 2 + b[pos + 1].toNat ≤ b.length := by omega
            refine nx _ (pos + 2 + b[pos + 1].toNat) hq (by omega) ?_
            have w4 : IntKind.wrap .i64 (((pos + 2 : Nat) : Int) + b[pos + 1]) = ((pos + 2 + b[pos + 1].toNat : Nat) : Int) := by rw [w64 (by omega) (by omega)]; omega
            have w5 : IntKind.wrap .i64 (((pos : Nat) : Int) + b[pos + 1]) = ((pos + b[pos + 1].toNat : Nat) : Int) := by rw [w64 (by omega) (by omega)]; omega
            have w6 : IntKind.wrap .i64 (((pos + b[pos + 1].toNat : Nat) : Int) + 2) = ((pos + 2 + b[pos + 1].toNat : Nat) : Int) := by rw [w64 (by omega) (by omega)]; omega
            have k5 : ¬ ((b.length - (pos + 2) : Nat) : Int) < b[pos + 1] := by omega
            have i1 : (0 : Int) ≤ ((pos + 2 : Nat) : Int) := by omega
            have i2 : ((pos + 2 : Nat) : Int) ≤ ((pos + 2 + b[pos + 1].toNat : Nat) : Int) := by omega
            have i3 : ((pos + 2 + b[pos + 1].toNat : Nat) : Int) ≤ ((b.length : Nat) : Int) := by omega
            have tk : (List.drop (Int.toNat ((pos + 2 : Nat) : Int)) b).take (Int.toNat ((pos + 2 + b[pos + 1].toNat : Nat) : Int) - Int.toNat ((pos + 2 : Nat) : Int)) = (b.drop (pos + 2)).take b[pos + 1].toNat := by
              rw [Int.toNat_natCast, Int.toNat_natCast]; congr 1; omega
            unfold s_ReadChange_L1
            simp only [w1, w2, w, w3, w4, w5, w6, c0, c1, g0, g1, p0, p1, k3, k5, i1, i2, i3, tk, decide_true, decide_false, if_true, Bool.false_eq_true, if_false, Option.bind_some, Int.le_refl, room, show ¬ (3 : Int) = 1 from by omega, show ¬ (3 : Int) = 2 from by omega]
          · have k4' : ¬ b[pos + 1] ≤ (((b.drop (pos + 2)).length : Nat) : Int) := by rw [hdl]; exact k4
            have k5 : ((b.length - (pos + 2) : Nat) : Int) < b[pos + 1] := by omega
            simp only [k3, k4', show ¬ (3 : Int) = 1 from by omega, show ¬ (3 : Int) = 2 from by omega, and_false, if_false]
            rw [loopG_eq]
            unfold s_ReadChange_L1
            simp only [w1, w2, w, w3, c0, c1, g0, g1, p0, p1, k3, k5, decide_true, decide_false, if_true, Bool.false_eq_true, if_false, Option.bind_some, show ¬ (3 : Int) = 1 from by omega, show ¬ (3 : Int) = 2 from by omega]
        · simp only [k1, k2, k3, false_and, if_false]
          rw [loopG_eq]
          unfold s_ReadChange_L1
          simp only [w1, w2, w, c0, c1, g0, g1, p0, p1, k1, k2, k3, decide_true, decide_false, if_true, Bool.false_eq_true, if_false, Option.bind_some]
theorem s_readC {x : List Int} (hb : Byt x) (hl : x.length ≤ 1000000000) : s_ReadChange x = some (readC x) := by
  unfold s_ReadChange readC
  have := s_rc_loop hb hl x.length 0 [] (Nat.zero_le _) (by simp) (by simp)
  rw [List.drop_zero] at this
  rw [show loopG s_ReadChange_L1 (x, [], 0) = _ from this]
  cases hd : decN x.length x with
  | none => rfl
  | some c =>
    simp only [List.length_nil, Nat.zero_add, List.nil_append]
    by_cases h5 : c.length ≤ 500
    · rw [if_pos h5]
      simp only [Option.bind_some]
      rw [s_Good_eq (decN_Sm hb hd) (by omega), Option.bind_some]
      cases hg : good c <;> simp
    · rw [if_neg h5]
      have hg : ¬ good c = true := fun h => by have := (good_sm h).len; omega
      simp only [Option.bind_some, if_neg hg]
end Go.V.G

set_option linter.unusedVariables false
set_option linter.unusedSimpArgs false
set_option maxRecDepth 100000
namespace Go.V.G
open Go.V
theorem gr_small {l : List Rn} (h : goodRuns l (rsum l) 60 = true) : Pos l ∧ rsum l ≤ 120 := by
  obtain ⟨⟨q1, _⟩, _, q4⟩ := goodRuns_iff.1 h
  exact ⟨q4.pos, q1.2⟩
theorem some_loop {l : List Rn} (hl : l.length ≤ 1000000000) : ∀ (n i : Nat), i + n = l.length → (∀ q ∈ l.take i, 1 ≤ q.2) → rsum (l.take i) ≤ 240 →
    loopG i_someRuns_L1 (l, rsum (l.take i), l, ((l.length : Nat) : Int), ((i : Nat) : Int)) = some (.inl (l, rsum l)) ∨ (loopG i_someRuns_L1 (l, rsum (l.take i), l, ((l.length : Nat) : Int), ((i : Nat) : Int)) = some (.inr false) ∧ goodRuns l (rsum l) 60 = false)
  | 0, i, hi, hp, hs => by
    left
    obtain rfl : i = l.length := by omega
    rw [loopG_eq]
    unfold i_someRuns_L1
    dsimp only
    rw [if_neg (by simp), List.take_length]
  | n + 1, i, hi, hp, hs => by
    have hlt : i < l.length := by omega
    have h0 : 0 ≤ rsum (l.take i) := rsum_nonneg hp
    have e1 := rsum_take hlt
    have c0 : ((i : Nat) : Int) < ((l.length : Nat) : Int) := by omega
    have hge : l[Int.toNat ((i : Nat) : Int)]? = some l[i] := by rw [Int.toNat_natCast]; exact List.getElem?_eq_getElem hlt
    have p0 : (0 : Int) ≤ ((i : Nat) : Int) := by omega
    have bad : (¬ (1 ≤ l[i].2 ∧ l[i].2 ≤ 120) ∨ 120 < rsum (l.take i)) → goodRuns l (rsum l) 60 = false := by
      intro h
      cases hg : goodRuns l (rsum l) 60 with
      | false => rfl
      | true =>
        obtain ⟨g1, g2⟩ := gr_small hg
        have h1 := g1 _ (List.getElem_mem hlt)
        have h2 := rsum_mem g1 _ (List.getElem_mem hlt)
        have h3 := rsum_take_le g1 i
        omega
    by_cases h1 : 1 ≤ l[i].2 ∧ l[i].2 ≤ 120
    · by_cases h2 : 120 < rsum (l.take i)
      · right
        refine ⟨?_, bad (.inr h2)⟩
        rw [loopG_eq]
        unfold i_someRuns_L1
        simp only [c0, p0, hge, decide_true, if_true, Option.bind_some, i_within_eq, h1, and_self, h2, Bool.not_true, Bool.false_eq_true, if_false]
      · have w : IntKind.wrap .i64 (rsum (l.take i) + l[i].2) = rsum (l.take (i + 1)) := by rw [w64 (by omega) (by omega), e1]
        have hs' : i_someRuns_L1 (l, rsum (l.take i), l, ((l.length : Nat) : Int), ((i : Nat) : Int)) = some (.inl (l, rsum (l.take (i + 1)), l, ((l.length : Nat) : Int), ((i + 1 : Nat) : Int))) := by
          unfold i_someRuns_L1
          simp only [c0, p0, hge, decide_true, decide_false, if_true, Option.bind_some, i_within_eq, h1, and_self, h2, Bool.not_true, Bool.false_eq_true, if_false, w, idx_succ (show l.length ≤ 1099511627776 by omega) hlt]
        rw [loopG_eq, hs']
        exact some_loop hl n (i + 1) (by omega) (fun q hq => by
          rw [List.take_succ_eq_append_getElem hlt] at hq
          rcases List.mem_append.1 hq with hq | hq
          · exact hp q hq
          · rw [List.mem_singleton.1 hq]; exact h1.1) (by omega)
    · right
      refine ⟨?_, bad (.inl h1)⟩
      rw [loopG_eq]
      unfold i_someRuns_L1
      simp only [c0, p0, hge, decide_true, if_true, Option.bind_some, i_within_eq, h1, decide_false, Bool.not_false]
theorem i_someRuns_eq {l : List Rn} (hl : l.length ≤ 1000000000) : i_someRuns l = some (goodRuns l (rsum l) 60) := by
  unfold i_someRuns
  rcases some_loop hl l.length 0 (by omega) (by simp) (by simp [rsum]) with h | ⟨h, h2⟩
  · rw [show loopG i_someRuns_L1 (l, 0, l, ((l.length : Nat) : Int), 0) = _ from h, Option.bind_some]
    dsimp only
    rw [i_GoodRuns_eq (by omega)]; rfl
  · rw [show loopG i_someRuns_L1 (l, 0, l, ((l.length : Nat) : Int), 0) = _ from h, Option.bind_some, h2]
theorem sum_loop {l : List Rn} (hl : l.length ≤ 1000000000) : ∀ (n i : Nat), i + n = l.length → (∀ q ∈ l.take i, 1 ≤ q.2) → rsum (l.take i) ≤ 120 →
    (loopG s_l9Sum_L1 (rsum (l.take i), l, ((l.length : Nat) : Int), ((i : Nat) : Int)) = some (.inl (rsum l)) ∧ 0 ≤ rsum l) ∨ (loopG s_l9Sum_L1 (rsum (l.take i), l, ((l.length : Nat) : Int), ((i : Nat) : Int)) = some (.inr (-1)) ∧ goodRuns l (rsum l) 60 = false)
  | 0, i, hi, hp, hs => by
    left
    obtain rfl : i = l.length := by omega
    have h0 : 0 ≤ rsum (l.take l.length) := rsum_nonneg hp
    rw [List.take_length] at h0 ⊢
    refine ⟨?_, h0⟩
    rw [loopG_eq]
    unfold s_l9Sum_L1
    dsimp only
    rw [if_neg (by simp)]
  | n + 1, i, hi, hp, hs => by
    have hlt : i < l.length := by omega
    have h0 : 0 ≤ rsum (l.take i) := rsum_nonneg hp
    have e1 := rsum_take hlt
    have c0 : ((i : Nat) : Int) < ((l.length : Nat) : Int) := by omega
    have hge : l[Int.toNat ((i : Nat) : Int)]? = some l[i] := by rw [Int.toNat_natCast]; exact List.getElem?_eq_getElem hlt
    have p0 : (0 : Int) ≤ ((i : Nat) : Int) := by omega
    have w0 : IntKind.wrap .i64 (120 - rsum (l.take i)) = 120 - rsum (l.take i) := w64 (by omega) (by omega)
    by_cases h1 : 1 ≤ l[i].2 ∧ l[i].2 ≤ 120 - rsum (l.take i)
    · have w : IntKind.wrap .i64 (rsum (l.take i) + l[i].2) = rsum (l.take (i + 1)) := by rw [w64 (by omega) (by omega), e1]
      have hs' : s_l9Sum_L1 (rsum (l.take i), l, ((l.length : Nat) : Int), ((i : Nat) : Int)) = some (.inl (rsum (l.take (i + 1)), l, ((l.length : Nat) : Int), ((i + 1 : Nat) : Int))) := by
        unfold s_l9Sum_L1
        simp only [c0, p0, hge, decide_true, decide_false, if_true, Option.bind_some, s_In_eq, w0, h1, and_self, Bool.not_true, Bool.false_eq_true, if_false, w, idx_succ (show l.length ≤ 1099511627776 by omega) hlt]
      rw [loopG_eq, hs']
      exact sum_loop hl n (i + 1) (by omega) (fun q hq => by
        rw [List.take_succ_eq_append_getElem hlt] at hq
        rcases List.mem_append.1 hq with hq | hq
        · exact hp q hq
        · rw [List.mem_singleton.1 hq]; exact h1.1) (by omega)
    · right
      refine ⟨?_, ?_⟩
      · rw [loopG_eq]
        unfold s_l9Sum_L1
        simp only [c0, p0, hge, decide_true, if_true, Option.bind_some, s_In_eq, w0, h1, decide_false, Bool.not_false]
      · cases hg : goodRuns l (rsum l) 60 with
        | false => rfl
        | true =>
          obtain ⟨g1, g2⟩ := gr_small hg
          have h1 := g1 _ (List.getElem_mem hlt)
          have h3 := rsum_take_le g1 (i + 1)
          omega
theorem s_l9Good_eq {l : List Rn} (hl : l.length ≤ 1000000000) : s_l9Good l = some (goodRuns l (rsum l) 60) := by
  unfold s_l9Good s_l9Sum
  rcases sum_loop hl l.length 0 (by omega) (by simp) (by simp [rsum]) with ⟨h, h2⟩ | ⟨h, h2⟩
  · rw [show loopG s_l9Sum_L1 (0, l, ((l.length : Nat) : Int), 0) = _ from h]
    simp only [Option.bind_some, h2, decide_true, if_true]
    rw [s_GoodRuns_eq (by omega)]; rfl
  · rw [show loopG s_l9Sum_L1 (0, l, ((l.length : Nat) : Int), 0) = _ from h, h2]
    rfl
theorem p2_len : ∀ (xs : List Int), (pairs2 xs).length = xs.length / 2
  | [] => rfl
  | [a] => by simp [pairs2]
  | a :: b :: xs => by
    have := p2_len xs
    simp only [pairs2, List.length_cons]; omega
theorem p2_get : ∀ (xs : List Int) (i : Nat) (h : 2 * i + 1 < xs.length), (pairs2 xs)[i]? = some (xs[2 * i], xs[2 * i + 1])
  | [], i, h => by simp at h
  | [a], i, h => by simp at h
  | a :: b :: xs, 0, h => rfl
  | a :: b :: xs, i + 1, h => by
    simp only [List.length_cons] at h
    have := p2_get xs i (by omega)
    simp only [pairs2, List.getElem?_cons_succ, this]
    rfl
def rdR (x : List Int) : List Rn × Bool := if x.length % 2 = 0 ∧ goodRuns (pairs2 x) (rsum (pairs2 x)) 60 = true then (pairs2 x, true) else ([], false)
theorem i_rdR {x : List Int} (hb : Byt x) (hl : x.length ≤ 1048576) : i_ReadRuns x = some (rdR x) := by
  unfold i_ReadRuns rdR
  rw [if_pos ⟨hl, hb⟩]
  by_cases h : x.length % 2 = 0
  · rw [if_pos h, i_someRuns_eq (by rw [p2_len]; omega), Option.bind_some]
    cases goodRuns (pairs2 x) (rsum (pairs2 x)) 60 <;> simp [h]
  · rw [if_neg h, if_neg (fun q => h q.1)]
theorem s_rdR {x : List Int} (hb : Byt x) (hl : x.length ≤ 1048576) : s_ReadRuns x = some (rdR x) := by
  unfold s_ReadRuns
  have hm : Int.tmod ((x.length : Nat) : Int) 2 = ((x.length % 2 : Nat) : Int) := by rw [Int.tmod_eq_emod_of_nonneg (by omega)]; omega
  rw [hm]
  by_cases h : x.length % 2 = 0
  · by_cases h2 : 240 < x.length
    · have hg : ¬ goodRuns (pairs2 x) (rsum (pairs2 x)) 60 = true := fun hg => by
        obtain ⟨g1, g2⟩ := gr_small hg
        have := rlen_le g1
        rw [p2_len] at this
        omega
      have hr : rdR x = ([], false) := if_neg (fun q => hg q.2)
      rw [hr]
      have h3 : (240 : Int) < ((x.length : Nat) : Int) := by omega
      simp [h, h3]
    · have h3 : ¬ (240 : Int) < ((x.length : Nat) : Int) := by omega
      have hloop := loop_run s_ReadRuns_L1 (fun i => (x, (pairs2 x).take i, ((2 * i : Nat) : Int))) (x.length / 2) (pairs2 x) (fun i hi => by
        have c0 : ((2 * i : Nat) : Int) < ((x.length : Nat) : Int) := by omega
        have i1 : 2 * i < x.length := by omega
        have i2 : 2 * i + 1 < x.length := by omega
        have g0 : x[Int.toNat ((2 * i : Nat) : Int)]? = some x[2 * i] := by rw [Int.toNat_natCast]; exact List.getElem?_eq_getElem i1
        have w1 : IntKind.wrap .i64 (((2 * i : Nat) : Int) + 1) = ((2 * i + 1 : Nat) : Int) := by rw [w64 (by omega) (by omega)]; omega
        have w2 : IntKind.wrap .i64 (((2 * i : Nat) : Int) + 2) = ((2 * (i + 1) : Nat) : Int) := by rw [w64 (by omega) (by omega)]; omega
        have g1 : x[Int.toNat ((2 * i + 1 : Nat) : Int)]? = some x[2 * i + 1] := by rw [Int.toNat_natCast]; exact List.getElem?_eq_getElem i2
        have b0 := hb _ (List.getElem_mem i1)
        have b1 := hb _ (List.getElem_mem i2)
        have w3 : IntKind.wrap .i64 x[2 * i] = x[2 * i] := w64 (by omega) (by omega)
        have w4 : IntKind.wrap .i64 x[2 * i + 1] = x[2 * i + 1] := w64 (by omega) (by omega)
        have hpl : i < (pairs2 x).length := by rw [p2_len]; exact hi
        have hpg := p2_get x i i2
        have ht : (pairs2 x).take (i + 1) = (pairs2 x).take i ++ [(x[2 * i], x[2 * i + 1])] := by
          rw [List.take_add_one, hpg]; rfl
        unfold s_ReadRuns_L1
        simp only [c0, w1, w2, w3, w4, g0, g1, decide_true, if_true, Option.bind_some, show (0 : Int) ≤ ((2 * i : Nat) : Int) from by omega, show (0 : Int) ≤ ((2 * i + 1 : Nat) : Int) from by omega, ht,
          show roomFor (List.length ((pairs2 x).take i) + List.length ([(x[2 * i], x[2 * i + 1])] : List (Int × Int))) 16 = true from room8 (by rw [List.length_take, p2_len]; simp; omega) (by omega)]) (by
        have c0 : ¬ ((2 * (x.length / 2) : Nat) : Int) < ((x.length : Nat) : Int) := by omega
        unfold s_ReadRuns_L1
        simp only [c0, decide_false, Bool.false_eq_true, if_false]
        rw [List.take_of_length_le (by rw [p2_len]; exact Nat.le_refl _)])
      have hl0 : loopG s_ReadRuns_L1 (x, [], 0) = some (pairs2 x) := by simpa using hloop
      simp only [h, h3, show ¬ (2 : Int) = 0 from by omega, not_false_eq_true, decide_true, decide_false, if_true, Bool.false_eq_true, if_false, Option.bind_some, hl0, show ¬ (((0 : Nat) : Int)) = 1 from by omega]
      rw [s_l9Good_eq (by rw [p2_len]; omega), Option.bind_some]
      unfold rdR
      cases goodRuns (pairs2 x) (rsum (pairs2 x)) 60 <;> simp [h]
  · have h1 : x.length % 2 = 1 := by omega
    have hr : rdR x = ([], false) := if_neg (fun q => h q.1)
    rw [hr]
    simp [h1]
theorem rdR_len (x : List Int) : (rdR x).1.length ≤ 120 := by
  unfold rdR
  split
  · rename_i h
    obtain ⟨g1, g2⟩ := gr_small h.2
    have := rlen_le g1
    dsimp only; omega
  · simp
theorem byt_take {x : List Int} (h : Byt x) (n : Nat) : Byt (x.take n) := fun v hv => h v (List.mem_of_mem_take hv)
theorem byt_drop {x : List Int} (h : Byt x) (n : Nat) : Byt (x.drop n) := fun v hv => h v (List.mem_of_mem_drop hv)
theorem i_take_eq (n : Int) (rest : List Int) (bad : Bool) (hn : 0 ≤ n) : i_taker_take_f n rest bad = some (if ((rest.length : Nat) : Int) < n then ([], rest, true) else (rest.take n.toNat, rest.drop n.toNat, bad)) := by
  unfold i_taker_take_f
  by_cases h : ((rest.length : Nat) : Int) < n
  · simp only [h, decide_true, if_true, Option.bind_some, Int.le_refl]
    simp
  · have h2 : n ≤ ((rest.length : Nat) : Int) := by omega
    have e1 : (List.drop (Int.toNat 0) rest).take (Int.toNat n - Int.toNat 0) = rest.take n.toNat := rfl
    have e2 : (List.drop (Int.toNat n) rest).take (Int.toNat ((List.length rest : Nat) : Int) - Int.toNat n) = rest.drop n.toNat := List.take_of_length_le (by rw [List.length_drop]; omega)
    simp only [h, h2, hn, e1, e2, decide_true, decide_false, Bool.false_eq_true, if_true, if_false, Option.bind_some, Int.le_refl]
theorem s_take_bad (n : Int) (b : List Int) (pos : Int) : s_l13R_take_f n b pos true = some ([], b, pos, true) := by
  unfold s_l13R_take_f
  simp
theorem s_take_eq {n : Int} {b : List Int} {p : Nat} (hn : 0 ≤ n) (hn2 : n ≤ 1000000) (hb : b.length ≤ 1000000) (hp : p ≤ b.length) :
    s_l13R_take_f n b ((p : Nat) : Int) false = some (if (((b.drop p).length : Nat) : Int) < n then ([], b, ((p : Nat) : Int), true) else ((b.drop p).take n.toNat, b, ((p + n.toNat : Nat) : Int), false)) := by
  have w : IntKind.wrap .i64 (((b.length : Nat) : Int) - ((p : Nat) : Int)) = ((b.length - p : Nat) : Int) := by rw [w64 (by omega) (by omega)]; omega
  have w2 : IntKind.wrap .i64 (((p : Nat) : Int) + n) = ((p + n.toNat : Nat) : Int) := by rw [w64 (by omega) (by omega)]; omega
  have w3 : IntKind.wrap .i64 (((p + n.toNat : Nat) : Int) - n) = ((p : Nat) : Int) := by rw [w64 (by omega) (by omega)]; omega
  unfold s_l13R_take_f
  rw [List.length_drop]
  by_cases h : ((b.length - p : Nat) : Int) < n
  · simp only [w, h, decide_true, if_true, Bool.false_eq_true, if_false, Option.bind_some]
  · have h1 : ((p : Nat) : Int) ≤ ((p + n.toNat : Nat) : Int) := by omega
    have h2 : ((p + n.toNat : Nat) : Int) ≤ ((b.length : Nat) : Int) := by omega
    have e : (List.drop (Int.toNat ((p : Nat) : Int)) b).take (Int.toNat ((p + n.toNat : Nat) : Int) - Int.toNat ((p : Nat) : Int)) = (b.drop p).take n.toNat := by
      rw [Int.toNat_natCast, Int.toNat_natCast]; congr 1; omega
    simp only [w, w2, w3, h, h1, h2, e, decide_true, decide_false, if_true, Bool.false_eq_true, if_false, Option.bind_some, Int.le_refl, show (0 : Int) ≤ ((p : Nat) : Int) from by omega]
def be (x : List Int) : Int := x.foldl (fun a b => a * 256 + b) 0
theorem be_in {x : List Int} (hb : Byt x) (hl : x.length ≤ 2) : 0 ≤ be x ∧ be x ≤ 65535 := by
  match x, hb, hl with
  | [], _, _ => simp [be]
  | [a], hb, _ => have := hb a (by simp); simp [be]; omega
  | [a, c], hb, _ => have := hb a (by simp); have := hb c (by simp); simp [be]; omega
theorem or64 {a c : Int} (ha : 0 ≤ a ∧ a ≤ 255) (hc : 0 ≤ c ∧ c ≤ 255) : IntKind.wrap .i64 (((BitVec.ofInt (IntKind.bits .i64) (a * 256) ||| BitVec.ofInt (IntKind.bits .i64) c).toNat : Int)) = a * 256 + c := by
  obtain ⟨a, rfl⟩ := Int.eq_ofNat_of_zero_le ha.1
  obtain ⟨c, rfl⟩ := Int.eq_ofNat_of_zero_le hc.1
  have e : ((a : Nat) : Int) * 256 = ((a * 256 : Nat) : Int) := by omega
  rw [e, BitVec.toNat_or, BitVec.ofInt_natCast, BitVec.ofInt_natCast, BitVec.toNat_ofNat, BitVec.toNat_ofNat, show IntKind.bits .i64 = 64 from rfl, Nat.mod_eq_of_lt (by omega), Nat.mod_eq_of_lt (by omega)]
  have := Nat.shiftLeft_add_eq_or_of_lt (show c < 2 ^ 8 by omega) a
  rw [Nat.shiftLeft_eq] at this
  rw [show a * 256 = a * 2 ^ 8 from rfl, ← this, w64 (by omega) (by omega)]
  omega
theorem i_num {x : List Int} {rest : List Int} {bad : Bool} (hb : Byt x) (hl : x.length ≤ 2) : loopG i_taker_sized_f_L1 (0, x, ((List.length x : Nat) : Int), 0, rest, bad) = some (be x, rest, bad) := by
  match x, hb, hl with
  | [], _, _ => rw [loopG_eq]; unfold i_taker_sized_f_L1; simp [be]
  | [a], hb, _ =>
    have ha := hb a (by simp)
    have o := or64 (a := 0) (c := a) (by omega) ha
    have w : IntKind.wrap .i64 a = a := w64 (by omega) (by omega)
    rw [loopG_eq]
    have hs : i_taker_sized_f_L1 (0, [a], (([a].length : Nat) : Int), 0, rest, bad) = some (.inl (a, [a], 1, 1, rest, bad)) := by
      unfold i_taker_sized_f_L1
      simp only [show [a][Int.toNat 0]? = some a from rfl, Option.bind_some, w, show IntKind.wrap .i64 ((0 : Int) * 2 ^ (min (Int.toNat 8) (IntKind.bits .i64))) = 0 * 256 from by decide, o]
      simp
      rfl
    rw [hs]
    dsimp only
    rw [loopG_eq]; unfold i_taker_sized_f_L1; simp [be]
  | [a, c], hb, _ =>
    have ha := hb a (by simp)
    have hc := hb c (by simp)
    have o := or64 (a := 0) (c := a) (by omega) ha
    have o2 := or64 (a := a) (c := c) ha hc
    have w : IntKind.wrap .i64 a = a := w64 (by omega) (by omega)
    have wc : IntKind.wrap .i64 c = c := w64 (by omega) (by omega)
    have w2 : IntKind.wrap .i64 (a * 2 ^ (min (Int.toNat 8) (IntKind.bits .i64))) = a * 256 := by
      rw [show ((2 : Int) ^ (min (Int.toNat 8) (IntKind.bits .i64))) = 256 from by decide]; exact w64 (by omega) (by omega)
    have hs : i_taker_sized_f_L1 (0, [a, c], (([a, c].length : Nat) : Int), 0, rest, bad) = some (.inl (a, [a, c], 2, 1, rest, bad)) := by
      unfold i_taker_sized_f_L1
      simp only [show [a, c][Int.toNat 0]? = some a from rfl, Option.bind_some, w, show IntKind.wrap .i64 ((0 : Int) * 2 ^ (min (Int.toNat 8) (IntKind.bits .i64))) = 0 * 256 from by decide, o]
      simp
      rfl
    have hs2 : i_taker_sized_f_L1 (a, [a, c], 2, 1, rest, bad) = some (.inl (a * 256 + c, [a, c], 2, 2, rest, bad)) := by
      unfold i_taker_sized_f_L1
      simp only [w2, show [a, c][Int.toNat 1]? = some c from rfl, Option.bind_some, wc, o2]
      simp
      rfl
    rw [loopG_eq, hs]
    dsimp only
    rw [loopG_eq, hs2]
    dsimp only
    rw [loopG_eq]; unfold i_taker_sized_f_L1; simp [be]
theorem s_num {x b : List Int} {pos : Int} {bad : Bool} (hb : Byt x) (hl : x.length ≤ 2) : loopG s_l13R_number_f_L1 (0, x, ((List.length x : Nat) : Int), 0, b, pos, bad) = some (be x, b, pos, bad) := by
  match x, hb, hl with
  | [], _, _ => rw [loopG_eq]; unfold s_l13R_number_f_L1; simp [be]
  | [a], hb, _ =>
    have ha := hb a (by simp)
    have w : IntKind.wrap .i64 a = a := w64 (by omega) (by omega)
    have hs : s_l13R_number_f_L1 (0, [a], (([a].length : Nat) : Int), 0, b, pos, bad) = some (.inl (a, [a], 1, 1, b, pos, bad)) := by
      unfold s_l13R_number_f_L1
      simp only [show [a][Int.toNat 0]? = some a from rfl, Option.bind_some, w, show IntKind.wrap .i64 (256 * 0) = 0 from by decide, Int.zero_add]
      simp
      rfl
    rw [loopG_eq, hs]
    dsimp only
    rw [loopG_eq]; unfold s_l13R_number_f_L1; simp [be]
  | [a, c], hb, _ =>
    have ha := hb a (by simp)
    have hc := hb c (by simp)
    have w : IntKind.wrap .i64 a = a := w64 (by omega) (by omega)
    have wc : IntKind.wrap .i64 c = c := w64 (by omega) (by omega)
    have w2 : IntKind.wrap .i64 (256 * a) = 256 * a := w64 (by omega) (by omega)
    have w3 : IntKind.wrap .i64 (256 * a + c) = a * 256 + c := by rw [w64 (by omega) (by omega)]; omega
    have hs : s_l13R_number_f_L1 (0, [a, c], (([a, c].length : Nat) : Int), 0, b, pos, bad) = some (.inl (a, [a, c], 2, 1, b, pos, bad)) := by
      unfold s_l13R_number_f_L1
      simp only [show [a, c][Int.toNat 0]? = some a from rfl, Option.bind_some, w, show IntKind.wrap .i64 (256 * 0) = 0 from by decide, Int.zero_add]
      simp
      rfl
    have hs2 : s_l13R_number_f_L1 (a, [a, c], 2, 1, b, pos, bad) = some (.inl (a * 256 + c, [a, c], 2, 2, b, pos, bad)) := by
      unfold s_l13R_number_f_L1
      simp only [show [a, c][Int.toNat 1]? = some c from rfl, Option.bind_some, wc, w2, w3]
      simp
      rfl
    rw [loopG_eq, hs]
    dsimp only
    rw [loopG_eq, hs2]
    dsimp only
    rw [loopG_eq]; unfold s_l13R_number_f_L1; simp [be]
end Go.V.G

set_option linter.unusedVariables false
set_option linter.unusedSimpArgs false
set_option maxRecDepth 100000
namespace Go.V.G
open Go.V
def RdR (b rest : List Int) (bi : Bool) (pos : Int) (bs : Bool) : Prop :=
  (Byt rest ∧ rest.length ≤ 20000) ∧ ((bi = true ∧ bs = true) ∨ (bi = false ∧ bs = false ∧ ∃ p : Nat, pos = ((p : Nat) : Int) ∧ p ≤ b.length ∧ rest = b.drop p))
theorem take_rel {b rest : List Int} {bi bs : Bool} {pos ni ns : Int} (hb : Byt b) (hl : b.length ≤ 20000) (h : RdR b rest bi pos bs) (h0 : 0 ≤ ni) (hn : bi = false → ni = ns) (h1 : ns ≤ 1000000) :
    ∃ xi rest' bi' xs pos' bs', i_taker_take_f ni rest bi = some (xi, rest', bi') ∧ s_l13R_take_f ns b pos bs = some (xs, b, pos', bs') ∧ RdR b rest' bi' pos' bs' ∧ (Byt xi ∧ xi.length ≤ ni.toNat ∧ xi.length ≤ 20000) ∧ (bi' = false → xi = xs) ∧ (bi = true → bi' = true) ∧ (bs' = true → xs = []) ∧ (bi' = false → ((xi.length : Nat) : Int) = ni) := by
  obtain ⟨⟨q1, q2⟩, hh⟩ := h
  rw [i_take_eq ni rest bi h0]
  rcases hh with ⟨rfl, rfl⟩ | ⟨rfl, rfl, p, rfl, hp, rfl⟩
  · rw [s_take_bad]
    by_cases hc : ((rest.length : Nat) : Int) < ni
    · rw [if_pos hc]
      exact ⟨_, _, _, _, _, _, rfl, rfl, ⟨⟨q1, q2⟩, .inl ⟨rfl, rfl⟩⟩, ⟨fun v hv => by simp at hv, by simp, by simp⟩, (fun h => by cases h), (fun _ => rfl), (fun _ => rfl), (fun h => by cases h)⟩
    · rw [if_neg hc]
      exact ⟨_, _, _, _, _, _, rfl, rfl, ⟨⟨byt_drop q1 _, by rw [List.length_drop]; omega⟩, .inl ⟨rfl, rfl⟩⟩, ⟨byt_take q1 _, by rw [List.length_take]; omega, by rw [List.length_take]; omega⟩, (fun h => by cases h), (fun _ => rfl), (fun _ => rfl), (fun h => by cases h)⟩
  · obtain rfl := hn rfl
    rw [s_take_eq h0 h1 (by omega) hp]
    by_cases hc : (((b.drop p).length : Nat) : Int) < ni
    · rw [if_pos hc, if_pos hc]
      exact ⟨_, _, _, _, _, _, rfl, rfl, ⟨⟨q1, q2⟩, .inl ⟨rfl, rfl⟩⟩, ⟨fun v hv => by simp at hv, by simp, by simp⟩, (fun h => by cases h), (fun _ => rfl), (fun _ => rfl), (fun h => by cases h)⟩
    · rw [if_neg hc, if_neg hc]
      have hd : (b.drop p).length = b.length - p := List.length_drop
      refine ⟨_, _, _, _, _, _, rfl, rfl, ⟨⟨byt_drop q1 _, by rw [List.length_drop]; omega⟩, .inr ⟨rfl, rfl, p + ni.toNat, rfl, by omega, by rw [List.drop_drop]⟩⟩, ⟨byt_take q1 _, by rw [List.length_take]; omega, by rw [List.length_take]; omega⟩, (fun _ => rfl), (fun h => by cases h), (fun h => by cases h), fun _ => by rw [List.length_take]; omega⟩
theorem sized_rel {b rest : List Int} {bi bs : Bool} {pos k : Int} (hb : Byt b) (hl : b.length ≤ 20000) (h : RdR b rest bi pos bs) (hk : 0 ≤ k ∧ k ≤ 2) :
    ∃ yi rest' bi' ys pos' bs' c p1 b1, i_taker_sized_f k rest bi = some (yi, rest', bi') ∧ s_l13R_number_f k b pos bs = some (c, b, p1, b1) ∧ s_l13R_take_f c b p1 b1 = some (ys, b, pos', bs') ∧ RdR b rest' bi' pos' bs' ∧ (Byt yi ∧ yi.length ≤ 20000) ∧ (bi' = false → yi = ys) ∧ (bi = true → bi' = true) := by
  obtain ⟨xi, rest1, bi1, xs, p1, bs1, e1, e2, R1, ⟨x1, x2, x3⟩, x4, x5, x6, x7⟩ := take_rel (ni := k) (ns := k) hb hl h hk.1 (fun _ => rfl) (by omega)
  have xl : xi.length ≤ 2 := by omega
  have bi2 := be_in x1 xl
  have hxs : Byt xs ∧ xs.length ≤ 2 := by
    rcases R1.2 with ⟨_, h2⟩ | ⟨h1, _⟩
    · rw [x6 h2]; exact ⟨fun v hv => by simp at hv, by simp⟩
    · rw [← x4 h1]; exact ⟨x1, xl⟩
  have bs2 := be_in hxs.1 hxs.2
  obtain ⟨yi, rest2, bi3, ys, p2, bs3, f1, f2, R2, ⟨y1, y2, y3⟩, y4, y5, y6, y7⟩ := take_rel (ni := be xi) (ns := be xs) hb hl R1 bi2.1 (fun h => by rw [x4 h]) (by omega)
  refine ⟨yi, rest2, bi3, ys, p2, bs3, be xs, p1, bs1, ?_, ?_, f2, R2, ⟨y1, y3⟩, y4, fun h => y5 (x5 h)⟩
  · unfold i_taker_sized_f
    rw [e1, Option.bind_some]
    dsimp only
    rw [i_num x1 xl, Option.bind_some]
    dsimp only
    rw [f1]; rfl
  · unfold s_l13R_number_f
    rw [e2, Option.bind_some]
    dsimp only
    rw [s_num hxs.1 hxs.2]; rfl
def ChOk (l : List (List Int)) : Prop := ∀ c ∈ l, Byt c ∧ c.length ≤ 20000
theorem ChOk.add {l : List (List Int)} {c : List Int} (h : ChOk l) (hc : Byt c ∧ c.length ≤ 20000) : ChOk (l ++ [c]) := fun x hx => by
  rcases List.mem_append.1 hx with hx | hx
  · exact h x hx
  · rw [List.mem_singleton.1 hx]; exact hc
theorem ch_room {l : List (List Int)} (h : l.length ≤ 1000000) (c : List Int) : roomFor (List.length l + List.length ([c] : List (List Int))) 24 = true := by simp [roomFor]; omega
section
variable {b : List Int} {runs runs' : List Int} {f0 f1 fr fr' : Int} {t0 t1 tx tx' : List UInt8} {body : List Int}
theorem i_bad_loop (hb : Byt b) (hl : b.length ≤ 20000) : ∀ (k j n : Nat) (rest : List Int) (ch : List (List Int)), j + k = n → n ≤ 100 → (Byt rest ∧ rest.length ≤ 20000) → ch.length ≤ 1000 + j →
    ∃ ch' rest', loopG i_ReadBundle_L1 (runs, ch, ((n : Nat) : Int), ((j : Nat) : Int), f0, t0, fr, tx, rest, true) = some (runs, ch', f0, t0, fr, tx, rest', true) ∧ (Byt rest' ∧ rest'.length ≤ 20000)
  | 0, j, n, rest, ch, hj, hn, hr, hc => by
    obtain rfl : j = n := by omega
    refine ⟨ch, rest, ?_, hr⟩
    rw [loopG_eq]
    unfold i_ReadBundle_L1
    simp
  | k + 1, j, n, rest, ch, hj, hn, hr, hc => by
    obtain ⟨yi, rest', bi', ys, pos', bs', c, p1, b1, e1, _, _, R, ⟨y1, y2⟩, _, y4⟩ := sized_rel (k := 2) (b := b) (bi := true) (bs := true) (pos := 0) hb hl ⟨hr, .inl ⟨rfl, rfl⟩⟩ (by omega)
    obtain rfl := y4 rfl
    obtain ⟨ch', r', ih, ihr⟩ := i_bad_loop hb hl k (j + 1) n rest' (ch ++ [yi]) (by omega) hn R.1 (by simp; omega)
    refine ⟨ch', r', ?_, ihr⟩
    have c0 : ((j : Nat) : Int) < ((n : Nat) : Int) := by omega
    have w : IntKind.wrap .i64 (((j : Nat) : Int) + 1) = ((j + 1 : Nat) : Int) := by rw [w64 (by omega) (by omega)]; omega
    have hs : i_ReadBundle_L1 (runs, ch, ((n : Nat) : Int), ((j : Nat) : Int), f0, t0, fr, tx, rest, true) = some (.inl (runs, ch ++ [yi], ((n : Nat) : Int), ((j + 1 : Nat) : Int), f0, t0, fr, tx, rest', true)) := by
      unfold i_ReadBundle_L1
      simp only [c0, e1, w, decide_true, if_true, Option.bind_some, ch_room (show ch.length ≤ 1000000 by omega)]
    rw [loopG_eq, hs]
    exact ih
theorem s_bad_loop {to r pos : Int} {ch : List (List Int)} : loopG s_ReadBundle_L1 (body, to, runs, ch, r, f0, t0, fr, tx, b, pos, true) = some (body, runs, ch, f0, t0, fr, tx, b, pos, true) := by
  rw [loopG_eq]
  unfold s_ReadBundle_L1
  by_cases h : r < to
  · simp [h]
  · simp [h]
theorem chunks_rel (hb : Byt b) (hl : b.length ≤ 20000) {frm : Int} (hf : 0 ≤ frm ∧ frm ≤ 255) : ∀ (k j n : Nat) (rest : List Int) (bi bs : Bool) (pos : Int) (ch : List (List Int)), j + k = n → n ≤ 100 → RdR b rest bi pos bs → ch.length ≤ j → ChOk ch → bi = false →
    ∃ ci rest' bi' cs pos' bs', loopG i_ReadBundle_L1 (runs, ch, ((n : Nat) : Int), ((j : Nat) : Int), f0, t0, fr, tx, rest, bi) = some (runs, ci, f0, t0, fr, tx, rest', bi') ∧
      loopG s_ReadBundle_L1 (body, frm + ((n : Nat) : Int), runs', ch, frm + ((j : Nat) : Int), f1, t1, fr', tx', b, pos, bs) = some (body, runs', cs, f1, t1, fr', tx', b, pos', bs') ∧ RdR b rest' bi' pos' bs' ∧ (bi' = false → ci = cs ∧ ChOk ci ∧ ci.length ≤ n)
  | 0, j, n, rest, bi, bs, pos, ch, hj, hn, hR, hc, hk, hbi => by
    obtain rfl : j = n := by omega
    refine ⟨ch, rest, bi, ch, pos, bs, ?_, ?_, hR, fun _ => ⟨rfl, hk, hc⟩⟩
    · rw [loopG_eq]
      unfold i_ReadBundle_L1
      simp
    · rw [loopG_eq]
      unfold s_ReadBundle_L1
      simp
  | k + 1, j, n, rest, bi, bs, pos, ch, hj, hn, hR, hc, hk, hbi => by
    have hbs : bs = false := by
      rcases hR.2 with ⟨h1, _⟩ | ⟨_, h2, _⟩
      · rw [hbi] at h1; cases h1
      · exact h2
    obtain ⟨yi, rest', bi', ys, pos', bs', c, p1, b1, e1, e2, e3, R, ⟨y1, y2⟩, y3, _⟩ := sized_rel (k := 2) hb hl hR (by omega)
    have c0 : ((j : Nat) : Int) < ((n : Nat) : Int) := by omega
    have c1 : frm + ((j : Nat) : Int) < frm + ((n : Nat) : Int) := by omega
    have w : IntKind.wrap .i64 (((j : Nat) : Int) + 1) = ((j + 1 : Nat) : Int) := by rw [w64 (by omega) (by omega)]; omega
    have w2 : IntKind.wrap .i64 (frm + ((j : Nat) : Int) + 1) = frm + ((j + 1 : Nat) : Int) := by rw [w64 (by omega) (by omega)]; omega
    subst hbi hbs
    have hs : i_ReadBundle_L1 (runs, ch, ((n : Nat) : Int), ((j : Nat) : Int), f0, t0, fr, tx, rest, false) = some (.inl (runs, ch ++ [yi], ((n : Nat) : Int), ((j + 1 : Nat) : Int), f0, t0, fr, tx, rest', bi')) := by
      unfold i_ReadBundle_L1
      simp only [c0, e1, w, decide_true, if_true, Option.bind_some, ch_room (show ch.length ≤ 1000000 by omega)]
    have hs2 : s_ReadBundle_L1 (body, frm + ((n : Nat) : Int), runs', ch, frm + ((j : Nat) : Int), f1, t1, fr', tx', b, pos, false) = some (.inl (body, frm + ((n : Nat) : Int), runs', ch ++ [ys], frm + ((j + 1 : Nat) : Int), f1, t1, fr', tx', b, pos', bs')) := by
      unfold s_ReadBundle_L1
      simp only [c1, e2, e3, w2, decide_true, if_true, Bool.not_false, Option.bind_some, ch_room (show ch.length ≤ 1000000 by omega)]
    rw [loopG_eq, hs, loopG_eq (f := s_ReadBundle_L1), hs2]
    dsimp only
    cases hbi' : bi' with
    | false =>
      obtain rfl := y3 hbi'
      subst hbi'
      exact chunks_rel hb hl hf k (j + 1) n rest' false bs' pos' (ch ++ [yi]) (by omega) hn R (by simp; omega) (hk.add ⟨y1, y2⟩) rfl
    | true =>
      subst hbi'
      have hbs' : bs' = true := by
        rcases R.2 with ⟨_, h2⟩ | ⟨h1, _⟩
        · exact h2
        · cases h1
      subst hbs'
      obtain ⟨ch', r', ih, ihr⟩ := i_bad_loop (runs := runs) (f0 := f0) (t0 := t0) (fr := fr) (tx := tx) hb hl k (j + 1) n rest' (ch ++ [yi]) (by omega) hn R.1 (by simp; omega)
      exact ⟨ch', r', true, ch ++ [ys], pos', true, ih, s_bad_loop, ⟨ihr, .inl ⟨rfl, rfl⟩⟩, fun h => by cases h⟩
end
def okF (ok : Bool) (l : List (List Int)) : Bool := ok && l.all fun c => (readC c).2
def chF (l : List (List Int)) : List (List Prt) := l.map fun c => (readC c).1
theorem okF_add {ok : Bool} {l : List (List Int)} {i : Nat} (h : i < l.length) : okF ok (l.take (i + 1)) = (if okF ok (l.take i) = true then (readC l[i]).2 else false) := by
  unfold okF
  rw [List.take_succ_eq_append_getElem h, List.all_append]
  cases ok <;> cases (l.take i).all (fun c => (readC c).2) <;> simp
theorem chF_add {l : List (List Int)} {i : Nat} (h : i < l.length) : chF (l.take (i + 1)) = chF (l.take i) ++ [(readC l[i]).1] := by
  unfold chF
  rw [List.take_succ_eq_append_getElem h, List.map_append]; rfl
theorem cc_room {l : List (List Prt)} (h : l.length ≤ 1000000) (c : List Prt) : roomFor (List.length l + List.length ([c] : List (List Prt))) 24 = true := by simp [roomFor]; omega
theorem i_chunks {ok : Bool} {l : List (List Int)} {f0 fr : Int} {t0 tx : List UInt8} {r : List Rn} (hc : ChOk l) (hl : l.length ≤ 100) :
    loopG i_ReadBundle_L2 (ok, l, ((l.length : Nat) : Int), 0, f0, t0, fr, tx, r, []) = some (okF ok l, f0, t0, fr, tx, r, chF l) := by
  have := loop_run i_ReadBundle_L2 (fun i => (okF ok (l.take i), l, ((l.length : Nat) : Int), ((i : Nat) : Int), f0, t0, fr, tx, r, chF (l.take i))) l.length (okF ok l, f0, t0, fr, tx, r, chF l) (fun i hi => by
    have c0 : ((i : Nat) : Int) < ((l.length : Nat) : Int) := by omega
    have hge : l[0 + Int.toNat ((i : Nat) : Int)]? = some l[i] := by rw [Nat.zero_add, Int.toNat_natCast]; exact List.getElem?_eq_getElem hi
    have hci := hc _ (List.getElem_mem hi)
    have room := cc_room (l := chF (l.take i)) (by unfold chF; rw [List.length_map, List.length_take]; omega)
    unfold i_ReadBundle_L2
    simp only [c0, hge, show (0 : Int) ≤ ((i : Nat) : Int) from by omega, decide_true, if_true, Option.bind_some, i_readC hci.1 (by omega), okF_add hi, chF_add hi]
    cases okF ok (l.take i) <;> simp only [if_true, Bool.false_eq_true, if_false, Option.bind_some, room, idx_succ (show l.length ≤ 1099511627776 by omega) hi]) (by
    unfold i_ReadBundle_L2
    simp)
  simpa [okF, chF] using this
theorem s_chunks {ok : Bool} {l : List (List Int)} {f0 fr : Int} {t0 tx : List UInt8} {r : List Rn} (hc : ChOk l) (hl : l.length ≤ 100) :
    loopG s_ReadBundle_L2 (ok, l, ((l.length : Nat) : Int), 0, f0, t0, fr, tx, r, []) = some (okF ok l, f0, t0, fr, tx, r, chF l) := by
  have := loop_run s_ReadBundle_L2 (fun i => (okF ok (l.take i), l, ((l.length : Nat) : Int), ((i : Nat) : Int), f0, t0, fr, tx, r, chF (l.take i))) l.length (okF ok l, f0, t0, fr, tx, r, chF l) (fun i hi => by
    have c0 : ((i : Nat) : Int) < ((l.length : Nat) : Int) := by omega
    have hge : l[0 + Int.toNat ((i : Nat) : Int)]? = some l[i] := by rw [Nat.zero_add, Int.toNat_natCast]; exact List.getElem?_eq_getElem hi
    have hci := hc _ (List.getElem_mem hi)
    have room := cc_room (l := chF (l.take i)) (by unfold chF; rw [List.length_map, List.length_take]; omega)
    unfold s_ReadBundle_L2
    simp only [c0, hge, show (0 : Int) ≤ ((i : Nat) : Int) from by omega, decide_true, if_true, Option.bind_some, s_readC hci.1 (by omega), okF_add hi, chF_add hi]
    cases okF ok (l.take i) <;> simp only [if_true, Bool.false_eq_true, if_false, Option.bind_some, room, idx_succ (show l.length ≤ 1099511627776 by omega) hi]) (by
    unfold s_ReadBundle_L2
    simp)
  simpa [okF, chF] using this
theorem sEq_loop {a b : List Int} (hab : a.length = b.length) (hl : a.length ≤ 1000000000) : ∀ (n i : Nat), i + n = a.length → a.take i = b.take i →
    loopG slices_Equal_byte_byte_L1 (a, b, ((a.length : Nat) : Int), ((i : Nat) : Int)) = some (if a = b then .inl () else .inr false)
  | 0, i, hi, he => by
    obtain rfl : i = a.length := by omega
    have : a = b := by rw [List.take_length, hab, List.take_length] at he; exact he
    rw [if_pos this, loopG_eq]
    unfold slices_Equal_byte_byte_L1
    simp
  | n + 1, i, hi, he => by
    have h1 : i < a.length := by omega
    have h2 : i < b.length := by omega
    have c0 : ((i : Nat) : Int) < ((a.length : Nat) : Int) := by omega
    have g1 : a[Int.toNat ((i : Nat) : Int)]? = some a[i] := by rw [Int.toNat_natCast]; exact List.getElem?_eq_getElem h1
    have g2 : b[Int.toNat ((i : Nat) : Int)]? = some b[i] := by rw [Int.toNat_natCast]; exact List.getElem?_eq_getElem h2
    rw [loopG_eq]
    by_cases hx : a[i] = b[i]
    · have hs : slices_Equal_byte_byte_L1 (a, b, ((a.length : Nat) : Int), ((i : Nat) : Int)) = some (.inl (a, b, ((a.length : Nat) : Int), ((i + 1 : Nat) : Int))) := by
        unfold slices_Equal_byte_byte_L1
        simp only [c0, g1, g2, hx, show (0 : Int) ≤ ((i : Nat) : Int) from by omega, decide_true, if_true, Option.bind_some, not_true_eq_false, decide_false, Bool.false_eq_true, if_false, idx_succ (show a.length ≤ 1099511627776 by omega) h1]
      rw [hs]
      exact sEq_loop hab hl n (i + 1) (by omega) (by rw [List.take_succ_eq_append_getElem h1, List.take_succ_eq_append_getElem h2, he, hx])
    · have hne : a ≠ b := fun e => hx (by subst e; rfl)
      rw [if_neg hne]
      have hs : slices_Equal_byte_byte_L1 (a, b, ((a.length : Nat) : Int), ((i : Nat) : Int)) = some (.inr (.inr false)) := by
        unfold slices_Equal_byte_byte_L1
        simp only [c0, g1, g2, hx, show (0 : Int) ≤ ((i : Nat) : Int) from by omega, decide_true, if_true, Option.bind_some, not_false_eq_true]
      rw [hs]
theorem sEq_eq {a b : List Int} (hl : a.length ≤ 1000000000) : slices_Equal_byte_byte a b = some (decide (a = b)) := by
  unfold slices_Equal_byte_byte
  by_cases hab : a.length = b.length
  · have h1 : ((a.length : Nat) : Int) = ((b.length : Nat) : Int) := by omega
    rw [if_neg (by simpa using h1), show loopG slices_Equal_byte_byte_L1 (a, b, ((a.length : Nat) : Int), 0) = _ from sEq_loop hab hl a.length 0 (by omega) rfl]
    by_cases he : a = b
    · rw [if_pos he]; simp [he]
    · rw [if_neg he]; simp [he]
  · have h1 : ¬ ((a.length : Nat) : Int) = ((b.length : Nat) : Int) := by omega
    have hne : a ≠ b := fun e => hab (by rw [e])
    rw [if_pos (by simpa using h1)]
    simp [hne]
end Go.V.G

set_option linter.unusedVariables false
set_option linter.unusedSimpArgs false
set_option maxRecDepth 100000
namespace Go.V.G
open Go.V
theorem num_one {b r : List Int} {p : Nat} {a : Int} (hb : Byt b) (hl : b.length ≤ 20000) (hd : b.drop p = a :: r) : s_l13R_number_f 1 b ((p : Nat) : Int) false = some (a, b, ((p + 1 : Nat) : Int), false) := by
  have hp : p < b.length := by
    have := congrArg List.length hd
    rw [List.length_drop, List.length_cons] at this
    omega
  have ha : 0 ≤ a ∧ a ≤ 255 := hb a (List.mem_of_mem_drop (i := p) (by rw [hd]; simp))
  unfold s_l13R_number_f
  rw [s_take_eq (by omega) (by omega) (by omega) (by omega), if_neg (by rw [List.length_drop]; omega), Option.bind_some, hd]
  dsimp only
  rw [show (a :: r).take (Int.toNat 1) = [a] from rfl, s_num (fun v hv => by rw [List.mem_singleton.1 hv]; exact ha) (by simp)]
  simp [be]
abbrev Bd5 := Int × (Int × (List UInt8 × (List Rn × List (List Prt))))
def bad5 (c : Int) : Bd5 := (c, 0, [], [], [])
def finB (fr : Int) (tx : List UInt8) (runs rest : List Int) (ch : List (List Int)) : Bd5 :=
  if okF ((rdR runs).2 && decide (rest = [])) ch = true ∧ goodH fr tx (rdR runs).1 (chF ch) = true then (0, fr, tx, (rdR runs).1, chF ch) else bad5 6
def RB (r : Bd5) : Prop := (∃ c, r = bad5 c) ∨ ∃ f t l cs, r = (0, f, t, l, cs) ∧ GH f t l cs
theorem finB_rb (fr : Int) (tx : List UInt8) (runs rest : List Int) (ch : List (List Int)) : RB (finB fr tx runs rest ch) := by
  unfold finB
  split
  · rename_i h; exact .inr ⟨_, _, _, _, rfl, goodH_iff.1 h.2⟩
  · exact .inl ⟨_, rfl⟩
theorem fin_hb {tx : List UInt8} {runs : List Int} {ch : List (List Int)} (ht : tx.length ≤ 20000) (hn : ch.length ≤ 100) : HB tx (rdR runs).1 (chF ch) := by
  have := rdR_len runs
  refine ⟨by omega, by omega, by unfold chF; rw [List.length_map]; omega, fun c hc => ?_⟩
  obtain ⟨x, _, rfl⟩ := List.mem_map.1 hc
  exact (readC_sm x).mono (by omega)
theorem readBundle_both {x : List Int} (hb : Byt x) : ∃ r, i_ReadBundle x = some r ∧ s_ReadBundle x = some r ∧ RB r := by
  by_cases h1 : (20000 : Int) < ((x.length : Nat) : Int)
  · refine ⟨bad5 6, ?_, ?_, .inl ⟨_, rfl⟩⟩
    · unfold i_ReadBundle; rw [if_pos (decide_eq_true h1)]; rfl
    · unfold s_ReadBundle; rw [if_pos (decide_eq_true h1)]; rfl
  by_cases h2 : ((x.length : Nat) : Int) < 10
  · refine ⟨bad5 5, ?_, ?_, .inl ⟨_, rfl⟩⟩
    · unfold i_ReadBundle; rw [if_neg (by simpa using h1), if_pos (decide_eq_true h2)]; rfl
    · unfold s_ReadBundle; rw [if_neg (by simpa using h1), if_pos (decide_eq_true h2)]; rfl
  obtain ⟨k, hk⟩ : ∃ k, x.length = k + 10 := ⟨x.length - 10, by omega⟩
  obtain ⟨a0, a1, a2, a3, a4, a5, r, hx⟩ : ∃ a0 a1 a2 a3 a4 a5 r, x = a0 :: a1 :: a2 :: a3 :: a4 :: a5 :: r := by
    match x, hk with
    | a0 :: a1 :: a2 :: a3 :: a4 :: a5 :: r, _ => exact ⟨a0, a1, a2, a3, a4, a5, r, rfl⟩
  have hrl : r.length = k + 4 := by rw [hx] at hk; simp only [List.length_cons] at hk; omega
  have g0 : x[Int.toNat 0]? = some a0 := by rw [hx]; rfl
  have g1 : x[Int.toNat 1]? = some a1 := by rw [hx]; rfl
  have g2 : x[Int.toNat 2]? = some a2 := by rw [hx]; rfl
  have g3 : x[Int.toNat 3]? = some a3 := by rw [hx]; rfl
  have g4 : x[Int.toNat 4]? = some a4 := by rw [hx]; rfl
  have g5 : x[Int.toNat 5]? = some a5 := by rw [hx]; rfl
  have b4 : 0 ≤ a4 ∧ a4 ≤ 255 := hb a4 (by rw [hx]; simp)
  have b5 : 0 ≤ a5 ∧ a5 ≤ 255 := hb a5 (by rw [hx]; simp)
  have w4 : IntKind.wrap .i64 a4 = a4 := w64 (by omega) (by omega)
  have w5 : IntKind.wrap .i64 a5 = a5 := w64 (by omega) (by omega)
  have wl4 : IntKind.wrap .i64 (((x.length : Nat) : Int) - 4) = ((k + 6 : Nat) : Int) := by rw [w64 (by omega) (by omega)]; omega
  have wl3 : IntKind.wrap .i64 (((x.length : Nat) : Int) - 3) = ((k + 7 : Nat) : Int) := by rw [w64 (by omega) (by omega)]; omega
  have wl2 : IntKind.wrap .i64 (((x.length : Nat) : Int) - 2) = ((k + 8 : Nat) : Int) := by rw [w64 (by omega) (by omega)]; omega
  have wl1 : IntKind.wrap .i64 (((x.length : Nat) : Int) - 1) = ((k + 9 : Nat) : Int) := by rw [w64 (by omega) (by omega)]; omega
  have c6 : ((k + 6 : Nat) : Int) ≤ ((x.length : Nat) : Int) := by omega
  have z6 : (0 : Int) ≤ ((k + 6 : Nat) : Int) := by omega
  have z7 : (0 : Int) ≤ ((k + 7 : Nat) : Int) := by omega
  have z8 : (0 : Int) ≤ ((k + 8 : Nat) : Int) := by omega
  have z9 : (0 : Int) ≤ ((k + 9 : Nat) : Int) := by omega
  have c46 : (6 : Int) ≤ ((k + 6 : Nat) : Int) := by omega
  have c4 : (4 : Int) ≤ ((x.length : Nat) : Int) := by omega
  have l6 : k + 6 < x.length := by omega
  have l7 : k + 7 < x.length := by omega
  have l8 : k + 8 < x.length := by omega
  have l9 : k + 9 < x.length := by omega
  have e6 : x[Int.toNat ((k + 6 : Nat) : Int)]? = some x[k + 6] := by rw [Int.toNat_natCast]; exact List.getElem?_eq_getElem l6
  have e7 : x[Int.toNat ((k + 7 : Nat) : Int)]? = some x[k + 7] := by rw [Int.toNat_natCast]; exact List.getElem?_eq_getElem l7
  have e8 : x[Int.toNat ((k + 8 : Nat) : Int)]? = some x[k + 8] := by rw [Int.toNat_natCast]; exact List.getElem?_eq_getElem l8
  have e9 : x[Int.toNat ((k + 9 : Nat) : Int)]? = some x[k + 9] := by rw [Int.toNat_natCast]; exact List.getElem?_eq_getElem l9
  have tk4 : (List.drop (Int.toNat 0) x).take (Int.toNat 4 - Int.toNat 0) = [a0, a1, a2, a3] := by rw [hx]; rfl
  obtain ⟨b, hbd⟩ : ∃ b, b = x.take (k + 6) := ⟨_, rfl⟩
  have tkb : (List.drop (Int.toNat 0) x).take (Int.toNat ((k + 6 : Nat) : Int) - Int.toNat 0) = b := by rw [hbd]; rfl
  have hbl : b.length = k + 6 := by rw [hbd, List.length_take]; omega
  have hbb : Byt b := by rw [hbd]; exact byt_take hb _
  have hbx : b = a0 :: a1 :: a2 :: a3 :: a4 :: a5 :: r.take k := by rw [hbd, hx]; rfl
  have mid : (List.drop (Int.toNat 6) x).take (Int.toNat ((k + 6 : Nat) : Int) - Int.toNat 6) = b.drop 6 := by
    rw [hbx, hx]
    rfl
  have drx : (List.drop (Int.toNat ((k + 6 : Nat) : Int)) x).take (Int.toNat ((x.length : Nat) : Int) - Int.toNat ((k + 6 : Nat) : Int)) = [x[k + 6], x[k + 7], x[k + 8], x[k + 9]] := by
    rw [Int.toNat_natCast, Int.toNat_natCast, List.take_of_length_le (by rw [List.length_drop]; omega), List.drop_eq_getElem_cons l6, List.drop_eq_getElem_cons l7, List.drop_eq_getElem_cons l8, List.drop_eq_getElem_cons l9, List.drop_eq_nil_of_le (by omega)]
  obtain ⟨d, hd⟩ : ∃ d, d = dig 2166136261 b := ⟨_, rfl⟩
  have di : i_DigestOf b = some d := by rw [hd]; exact i_DigestOf_eq (by omega)
  have ds : s_DigestOf b = some d := by rw [hd]; exact s_DigestOf_eq (by omega) hbb
  have d4 : b.drop 4 = a4 :: a5 :: r.take k := by rw [hbx]; rfl
  have d5 : b.drop 5 = a5 :: r.take k := by rw [hbx]; rfl
  have n4 : s_l13R_number_f 1 b 4 false = some (a4, b, 5, false) := num_one (p := 4) hbb (by omega) d4
  have n5 : s_l13R_number_f 1 b 5 false = some (a5, b, 6, false) := num_one (p := 5) hbb (by omega) d5
  have h1' : decide ((20000 : Int) < ((x.length : Nat) : Int)) = false := by simpa using h1
  have h2' : decide (((x.length : Nat) : Int) < 10) = false := by simpa using h2
  by_cases hh : a0 = 66 ∧ a1 = 78 ∧ a2 = 68 ∧ a3 = 49
  rotate_left
  · refine ⟨bad5 3, ?_, ?_, .inl ⟨_, rfl⟩⟩
    · have hne : decide ([a0, a1, a2, a3] = [(66 : Int), 78, 68, 49]) = false := by
        rw [decide_eq_false_iff_not]; intro e; simp only [List.cons.injEq, and_true] at e; exact hh e
      unfold i_ReadBundle
      simp only [h1', h2', c4, tk4, sEq_eq (show ([a0, a1, a2, a3] : List Int).length ≤ 1000000000 by simp), hne, Int.le_refl, show (0 : Int) ≤ 4 from by omega, decide_true, Bool.false_eq_true, if_false, if_true, Option.bind_some, Bool.not_false]
      rfl
    · unfold s_ReadBundle
      by_cases q0 : a0 = 66
      · by_cases q1 : a1 = 78
        · by_cases q2 : a2 = 68
          · have q3 : ¬ a3 = 49 := fun e => hh ⟨q0, q1, q2, e⟩
            simp only [h1', h2', g0, g1, g2, g3, q0, q1, q2, q3, Int.le_refl, show (0 : Int) ≤ 1 from by omega, show (0 : Int) ≤ 2 from by omega, show (0 : Int) ≤ 3 from by omega, decide_true, decide_false, Bool.false_eq_true, if_false, if_true, Option.bind_some, not_true_eq_false, not_false_eq_true]
            rfl
          · simp only [h1', h2', g0, g1, g2, g3, q0, q1, q2, Int.le_refl, show (0 : Int) ≤ 1 from by omega, show (0 : Int) ≤ 2 from by omega, show (0 : Int) ≤ 3 from by omega, decide_true, decide_false, Bool.false_eq_true, if_false, if_true, Option.bind_some, not_true_eq_false, not_false_eq_true]
            rfl
        · simp only [h1', h2', g0, g1, g2, g3, q0, q1, Int.le_refl, show (0 : Int) ≤ 1 from by omega, show (0 : Int) ≤ 2 from by omega, show (0 : Int) ≤ 3 from by omega, decide_true, decide_false, Bool.false_eq_true, if_false, if_true, Option.bind_some, not_true_eq_false, not_false_eq_true]
          rfl
      · simp only [h1', h2', g0, g1, g2, g3, q0, Int.le_refl, show (0 : Int) ≤ 1 from by omega, show (0 : Int) ≤ 2 from by omega, show (0 : Int) ≤ 3 from by omega, decide_true, decide_false, Bool.false_eq_true, if_false, if_true, Option.bind_some, not_true_eq_false, not_false_eq_true]
        rfl
  obtain ⟨q0, q1, q2, q3⟩ := hh
  have heq : decide ([a0, a1, a2, a3] = [(66 : Int), 78, 68, 49]) = true := by rw [q0, q1, q2, q3]; rfl
  by_cases hg : x[k + 6] = IntKind.wrap .u8 (Int.fdiv d (2 ^ (min (Int.toNat 24) (IntKind.bits .u32)))) ∧ x[k + 7] = IntKind.wrap .u8 (Int.fdiv d (2 ^ (min (Int.toNat 16) (IntKind.bits .u32)))) ∧ x[k + 8] = IntKind.wrap .u8 (Int.fdiv d (2 ^ (min (Int.toNat 8) (IntKind.bits .u32)))) ∧ x[k + 9] = IntKind.wrap .u8 d
  rotate_left
  · refine ⟨bad5 4, ?_, ?_, .inl ⟨_, rfl⟩⟩
    · have hne : decide ([x[k + 6], x[k + 7], x[k + 8], x[k + 9]] = fourOf d) = false := by
        rw [decide_eq_false_iff_not]; intro e; unfold fourOf at e; simp only [List.cons.injEq, and_true] at e; exact hg e
      unfold i_ReadBundle
      simp only [h1', h2', c4, tk4, tkb, drx, wl4, c6, z6, di, i_four_eq, sEq_eq (show ([a0, a1, a2, a3] : List Int).length ≤ 1000000000 by simp), sEq_eq (show ([x[k + 6], x[k + 7], x[k + 8], x[k + 9]] : List Int).length ≤ 1000000000 by simp), heq, hne, Int.le_refl, show (0 : Int) ≤ 4 from by omega,
        decide_true, Bool.false_eq_true, if_false, if_true, Option.bind_some, Bool.not_false, Bool.not_true]
      rfl
    · unfold s_ReadBundle
      by_cases t0 : x[k + 6] = IntKind.wrap .u8 (Int.fdiv d (2 ^ (min (Int.toNat 24) (IntKind.bits .u32))))
      · by_cases t1 : x[k + 7] = IntKind.wrap .u8 (Int.fdiv d (2 ^ (min (Int.toNat 16) (IntKind.bits .u32))))
        · by_cases t2 : x[k + 8] = IntKind.wrap .u8 (Int.fdiv d (2 ^ (min (Int.toNat 8) (IntKind.bits .u32))))
          · have t3 : ¬ x[k + 9] = IntKind.wrap .u8 d := fun e => hg ⟨t0, t1, t2, e⟩
            simp only [h1', h2', g0, g1, g2, g3, q0, q1, q2, q3, wl4, wl3, wl2, wl1, c6, z6, z7, z8, z9, tkb, ds, e6, e7, e8, e9, Int.le_refl, show (0 : Int) ≤ 1 from by omega, show (0 : Int) ≤ 2 from by omega, show (0 : Int) ≤ 3 from by omega, show (0 : Int) ≤ 8 from by omega, show (0 : Int) ≤ 16 from by omega, show (0 : Int) ≤ 24 from by omega, decide_true, decide_false, Bool.false_eq_true, if_false, if_true, Option.bind_some, not_true_eq_false, not_false_eq_true, t0, t1, t2, t3]
            rfl
          · simp only [h1', h2', g0, g1, g2, g3, q0, q1, q2, q3, wl4, wl3, wl2, wl1, c6, z6, z7, z8, z9, tkb, ds, e6, e7, e8, e9, Int.le_refl, show (0 : Int) ≤ 1 from by omega, show (0 : Int) ≤ 2 from by omega, show (0 : Int) ≤ 3 from by omega, show (0 : Int) ≤ 8 from by omega, show (0 : Int) ≤ 16 from by omega, show (0 : Int) ≤ 24 from by omega, decide_true, decide_false, Bool.false_eq_true, if_false, if_true, Option.bind_some, not_true_eq_false, not_false_eq_true, t0, t1, t2]
            rfl
        · simp only [h1', h2', g0, g1, g2, g3, q0, q1, q2, q3, wl4, wl3, wl2, wl1, c6, z6, z7, z8, z9, tkb, ds, e6, e7, e8, e9, Int.le_refl, show (0 : Int) ≤ 1 from by omega, show (0 : Int) ≤ 2 from by omega, show (0 : Int) ≤ 3 from by omega, show (0 : Int) ≤ 8 from by omega, show (0 : Int) ≤ 16 from by omega, show (0 : Int) ≤ 24 from by omega, decide_true, decide_false, Bool.false_eq_true, if_false, if_true, Option.bind_some, not_true_eq_false, not_false_eq_true, t0, t1]
          rfl
      · simp only [h1', h2', g0, g1, g2, g3, q0, q1, q2, q3, wl4, wl3, wl2, wl1, c6, z6, z7, z8, z9, tkb, ds, e6, e7, e8, e9, Int.le_refl, show (0 : Int) ≤ 1 from by omega, show (0 : Int) ≤ 2 from by omega, show (0 : Int) ≤ 3 from by omega, show (0 : Int) ≤ 8 from by omega, show (0 : Int) ≤ 16 from by omega, show (0 : Int) ≤ 24 from by omega, decide_true, decide_false, Bool.false_eq_true, if_false, if_true, Option.bind_some, not_true_eq_false, not_false_eq_true, t0]
        rfl
  obtain ⟨t0, t1, t2, t3⟩ := hg
  have heq2 : decide ([x[k + 6], x[k + 7], x[k + 8], x[k + 9]] = fourOf d) = true := by rw [t0, t1, t2, t3]; simp [fourOf]
  by_cases hft : a5 < a4 ∨ 60 < a5
  · refine ⟨bad5 2, ?_, ?_, .inl ⟨_, rfl⟩⟩
    · unfold i_ReadBundle
      by_cases hlt : a5 < a4
      · simp only [h1', h2', c4, tk4, tkb, drx, wl4, c6, z6, di, i_four_eq, sEq_eq (show ([a0, a1, a2, a3] : List Int).length ≤ 1000000000 by simp), sEq_eq (show ([x[k + 6], x[k + 7], x[k + 8], x[k + 9]] : List Int).length ≤ 1000000000 by simp), heq, heq2, g4, g5, w4, w5, hlt, Int.le_refl, show (0 : Int) ≤ 4 from by omega, show (0 : Int) ≤ 5 from by omega,
          decide_true, Bool.false_eq_true, if_false, if_true, Option.bind_some, Bool.not_false, Bool.not_true]
        rfl
      · have h60 : (60 : Int) < a5 := hft.resolve_left hlt
        simp only [h1', h2', c4, tk4, tkb, drx, wl4, c6, z6, di, i_four_eq, sEq_eq (show ([a0, a1, a2, a3] : List Int).length ≤ 1000000000 by simp), sEq_eq (show ([x[k + 6], x[k + 7], x[k + 8], x[k + 9]] : List Int).length ≤ 1000000000 by simp), heq, heq2, g4, g5, w4, w5, hlt, h60, Int.le_refl, show (0 : Int) ≤ 4 from by omega, show (0 : Int) ≤ 5 from by omega,
          decide_true, decide_false, Bool.false_eq_true, if_false, if_true, Option.bind_some, Bool.not_false, Bool.not_true]
        rfl
    · unfold s_ReadBundle
      by_cases hlt : a5 < a4
      · simp only [h1', h2', g0, g1, g2, g3, q0, q1, q2, q3, wl4, wl3, wl2, wl1, c6, z6, z7, z8, z9, tkb, ds, e6, e7, e8, e9, Int.le_refl, show (0 : Int) ≤ 1 from by omega, show (0 : Int) ≤ 2 from by omega, show (0 : Int) ≤ 3 from by omega, show (0 : Int) ≤ 8 from by omega, show (0 : Int) ≤ 16 from by omega, show (0 : Int) ≤ 24 from by omega, decide_true, decide_false, Bool.false_eq_true, if_false, if_true, Option.bind_some, not_true_eq_false, not_false_eq_true, t0, t1, t2, t3, n4, n5, hlt, Bool.not_false]
        rfl
      · have h60 : (60 : Int) < a5 := hft.resolve_left hlt
        simp only [h1', h2', g0, g1, g2, g3, q0, q1, q2, q3, wl4, wl3, wl2, wl1, c6, z6, z7, z8, z9, tkb, ds, e6, e7, e8, e9, Int.le_refl, show (0 : Int) ≤ 1 from by omega, show (0 : Int) ≤ 2 from by omega, show (0 : Int) ≤ 3 from by omega, show (0 : Int) ≤ 8 from by omega, show (0 : Int) ≤ 16 from by omega, show (0 : Int) ≤ 24 from by omega, decide_true, decide_false, Bool.false_eq_true, if_false, if_true, Option.bind_some, not_true_eq_false, not_false_eq_true, t0, t1, t2, t3, n4, n5, hlt, h60, Bool.not_false]
        rfl
  have hlt : ¬ a5 < a4 := fun h => hft (.inl h)
  have h60 : ¬ (60 : Int) < a5 := fun h => hft (.inr h)
  obtain ⟨n, hn⟩ : ∃ n : Nat, a5 = a4 + ((n : Nat) : Int) := ⟨(a5 - a4).toNat, by omega⟩
  have wn : IntKind.wrap .i64 (a5 - a4) = ((n : Nat) : Int) := by rw [w64 (by omega) (by omega)]; omega
  have R0 : RdR b (b.drop 6) false ((6 : Nat) : Int) false := ⟨⟨byt_drop hbb _, by rw [List.length_drop]; omega⟩, .inr ⟨rfl, rfl, 6, rfl, by omega, rfl⟩⟩
  obtain ⟨yi, r1, f1, ys, p1, v1, m1, p1', v1', i1, s1, s1', R1, ⟨y1, y2⟩, y3, y4⟩ := sized_rel (k := 1) hbb (by omega) R0 (by omega)
  obtain ⟨zi, r2, f2, zs, p2, v2, m2, p2', v2', i2, s2, s2', R2, ⟨z1, z2⟩, z3, z4⟩ := sized_rel (k := 2) hbb (by omega) R1 (by omega)
  have hf1 : f2 = false → f1 = false := fun h => by
    cases h1 : f1 with
    | false => rfl
    | true => rw [z4 h1] at h; cases h
  have s1x : s_l13R_number_f 1 b 6 false = some (m1, b, p1', v1') := s1
  have loops : ∃ ci rest' bi' cs pos' bs', loopG i_ReadBundle_L1 (zi, [], ((n : Nat) : Int), 0, 0, [], a4, textOf yi, r2, f2) = some (zi, ci, 0, [], a4, textOf yi, rest', bi') ∧
      loopG s_ReadBundle_L1 (b, a5, zs, [], a4, 0, [], a4, textOf ys, b, p2, v2) = some (b, zs, cs, 0, [], a4, textOf ys, b, pos', bs') ∧ RdR b rest' bi' pos' bs' ∧ (bi' = false → ci = cs ∧ ChOk ci ∧ ci.length ≤ n ∧ f2 = false) := by
    cases hf2 : f2 with
    | false =>
      subst hf2
      obtain ⟨ci, rest', bi', cs, pos', bs', l1, l2, l3, l4⟩ := chunks_rel (runs := zi) (runs' := zs) (f0 := 0) (f1 := 0) (fr := a4) (fr' := a4) (t0 := []) (t1 := []) (tx := textOf yi) (tx' := textOf ys) (body := b) hbb (by omega) b4 n 0 n r2 false v2 p2 [] (by omega) (by omega) R2 (by simp) (fun c hc => by simp at hc) rfl
      rw [← hn] at l2
      refine ⟨ci, rest', bi', cs, pos', bs', l1, by simpa using l2, l3, fun h => by obtain ⟨u1, u2, u3⟩ := l4 h; exact ⟨u1, u2, u3, rfl⟩⟩
    | true =>
      subst hf2
      have hv2 : v2 = true := by
        rcases R2.2 with ⟨_, h2⟩ | ⟨h1, _⟩
        · exact h2
        · cases h1
      subst hv2
      obtain ⟨ch', r', ih, ihr⟩ := i_bad_loop (runs := zi) (f0 := 0) (t0 := []) (fr := a4) (tx := textOf yi) hbb (by omega) n 0 n r2 [] (by omega) (by omega) R2.1 (by simp)
      exact ⟨ch', r', true, [], p2, true, ih, s_bad_loop, ⟨ihr, .inl ⟨rfl, rfl⟩⟩, fun h => by cases h⟩
  obtain ⟨ci, rest', bi', cs, pos', bs', l1, l2, R3, l4⟩ := loops
  have iA : i_ReadBundle x = (if bi' = true then some (bad5 5) else
      Option.bind (i_ReadRuns zi) fun c12 =>
      Option.bind (loopG i_ReadBundle_L2 (c12.2 && decide (rest' = []), ci, ((ci.length : Nat) : Int), 0, 0, [], a4, textOf yi, c12.1, [])) fun v20 =>
      if v20.1 = true then Option.bind (i_GoodHistory v20.2.2.2.1 v20.2.2.2.2.1 v20.2.2.2.2.2.1 v20.2.2.2.2.2.2) fun c21 => if c21 = true then some (0, v20.2.2.2.1, v20.2.2.2.2.1, v20.2.2.2.2.2.1, v20.2.2.2.2.2.2) else some (bad5 6) else some (bad5 6)) := by
    have hre : decide (((List.length rest' : Nat) : Int) = 0) = decide (rest' = []) := by
      apply decide_eq_decide.2
      rw [← List.length_eq_zero_iff]; omega
    unfold i_ReadBundle
    simp only [h1', h2', c4, tk4, tkb, drx, wl4, c6, z6, c46, mid, di, i_four_eq, sEq_eq (show ([a0, a1, a2, a3] : List Int).length ≤ 1000000000 by simp), sEq_eq (show ([x[k + 6], x[k + 7], x[k + 8], x[k + 9]] : List Int).length ≤ 1000000000 by simp), heq, heq2, g4, g5, w4, w5, hlt, h60, Int.le_refl, show (0 : Int) ≤ 4 from by omega, show (0 : Int) ≤ 5 from by omega, show (0 : Int) ≤ 6 from by omega,
      decide_true, decide_false, Bool.false_eq_true, if_false, if_true, Option.bind_some, Bool.not_false, Bool.not_true, i1, i2, wn, l1, hre]
    cases bi' with
    | true => rfl
    | false =>
      simp only [Bool.false_eq_true, if_false]
      cases i_ReadRuns zi with
      | none => rfl
      | some c12 =>
        obtain ⟨l, o⟩ := c12
        have tail : ∀ z : Option (Bool × (Int × (List UInt8 × (Int × (List UInt8 × (List Rn × List (List Prt))))))), (Option.bind z fun v20 => Option.bind (α := (Bool × (Int × (List UInt8 × (Int × (List UInt8 × (List Rn × List (List Prt)))))))) (if (!v20.1) = true then some (true, v20.2.1, v20.2.2.1, v20.2.2.2.1, v20.2.2.2.2.1, v20.2.2.2.2.2.1, v20.2.2.2.2.2.2)
            else Option.bind (i_GoodHistory v20.2.2.2.1 v20.2.2.2.2.1 v20.2.2.2.2.2.1 v20.2.2.2.2.2.2) fun c21 => some ((!c21), v20.2.1, v20.2.2.1, v20.2.2.2.1, v20.2.2.2.2.1, v20.2.2.2.2.2.1, v20.2.2.2.2.2.2)) fun v22 =>
              if v22.1 = true then some ((6, 0, [], [], []) : Bd5) else some (0, v22.2.2.2.1, v22.2.2.2.2.1, v22.2.2.2.2.2.1, v22.2.2.2.2.2.2)) =
            (Option.bind z fun v20 => if v20.1 = true then Option.bind (i_GoodHistory v20.2.2.2.1 v20.2.2.2.2.1 v20.2.2.2.2.2.1 v20.2.2.2.2.2.2) fun c21 => if c21 = true then some (0, v20.2.2.2.1, v20.2.2.2.2.1, v20.2.2.2.2.2.1, v20.2.2.2.2.2.2) else some (bad5 6) else some (bad5 6)) := by
          intro z
          cases z with
          | none => rfl
          | some v =>
            obtain ⟨o, q⟩ := v
            cases o with
            | false => rfl
            | true =>
              simp only [Option.bind_some, Bool.not_true, Bool.false_eq_true, if_false, if_true]
              cases i_GoodHistory q.2.2.1 q.2.2.2.1 q.2.2.2.2.1 q.2.2.2.2.2 with
              | none => rfl
              | some c => cases c <;> rfl
        rw [Option.bind_some, Option.bind_some]
        cases o with
        | true =>
          simp only [if_true, Option.bind_some, Bool.true_and]
          exact tail _
        | false =>
          simp only [Bool.false_eq_true, if_false, Option.bind_some, Bool.false_and]
          exact tail _
  have sA : s_ReadBundle x = (if bs' = true then some (bad5 5) else
      Option.bind (s_ReadRuns zs) fun c12 =>
      Option.bind (loopG s_ReadBundle_L2 (c12.2 && decide (pos' = ((b.length : Nat) : Int)), cs, ((cs.length : Nat) : Int), 0, 0, [], a4, textOf ys, c12.1, [])) fun v20 =>
      if v20.1 = true then Option.bind (s_GoodHistory v20.2.2.2.1 v20.2.2.2.2.1 v20.2.2.2.2.2.1 v20.2.2.2.2.2.2) fun c21 => if c21 = true then some (0, v20.2.2.2.1, v20.2.2.2.2.1, v20.2.2.2.2.2.1, v20.2.2.2.2.2.2) else some (bad5 6) else some (bad5 6)) := by
    unfold s_ReadBundle
    simp only [h1', h2', g0, g1, g2, g3, q0, q1, q2, q3, wl4, wl3, wl2, wl1, c6, z6, z7, z8, z9, tkb, ds, e6, e7, e8, e9, Int.le_refl, show (0 : Int) ≤ 1 from by omega, show (0 : Int) ≤ 2 from by omega, show (0 : Int) ≤ 3 from by omega, show (0 : Int) ≤ 8 from by omega, show (0 : Int) ≤ 16 from by omega, show (0 : Int) ≤ 24 from by omega, decide_true, decide_false, Bool.false_eq_true, if_false, if_true, Option.bind_some, not_true_eq_false, not_false_eq_true, t0, t1, t2, t3, n4, n5, hlt, h60, Bool.not_false, s1x, s1', s2, s2', l2]
    cases bs' with
    | true => rfl
    | false =>
      simp only [Bool.false_eq_true, if_false]
      cases s_ReadRuns zs with
      | none => rfl
      | some c12 =>
        obtain ⟨l, o⟩ := c12
        have tail : ∀ z : Option (Bool × (Int × (List UInt8 × (Int × (List UInt8 × (List Rn × List (List Prt))))))), (Option.bind z fun v20 => Option.bind (α := (Bool × (Int × (List UInt8 × (Int × (List UInt8 × (List Rn × List (List Prt)))))))) (if (!v20.1) = true then some (true, v20.2.1, v20.2.2.1, v20.2.2.2.1, v20.2.2.2.2.1, v20.2.2.2.2.2.1, v20.2.2.2.2.2.2)
            else Option.bind (s_GoodHistory v20.2.2.2.1 v20.2.2.2.2.1 v20.2.2.2.2.2.1 v20.2.2.2.2.2.2) fun c21 => some ((!c21), v20.2.1, v20.2.2.1, v20.2.2.2.1, v20.2.2.2.2.1, v20.2.2.2.2.2.1, v20.2.2.2.2.2.2)) fun v22 =>
              if v22.1 = true then some ((6, 0, [], [], []) : Bd5) else some (0, v22.2.2.2.1, v22.2.2.2.2.1, v22.2.2.2.2.2.1, v22.2.2.2.2.2.2)) =
            (Option.bind z fun v20 => if v20.1 = true then Option.bind (s_GoodHistory v20.2.2.2.1 v20.2.2.2.2.1 v20.2.2.2.2.2.1 v20.2.2.2.2.2.2) fun c21 => if c21 = true then some (0, v20.2.2.2.1, v20.2.2.2.2.1, v20.2.2.2.2.2.1, v20.2.2.2.2.2.2) else some (bad5 6) else some (bad5 6)) := by
          intro z
          cases z with
          | none => rfl
          | some v =>
            obtain ⟨o, q⟩ := v
            cases o with
            | false => rfl
            | true =>
              simp only [Option.bind_some, Bool.not_true, Bool.false_eq_true, if_false, if_true]
              cases s_GoodHistory q.2.2.1 q.2.2.2.1 q.2.2.2.2.1 q.2.2.2.2.2 with
              | none => rfl
              | some c => cases c <;> rfl
        rw [Option.bind_some, Option.bind_some]
        cases o with
        | true =>
          simp only [if_true, Option.bind_some, Bool.true_and]
          exact tail _
        | false =>
          simp only [Bool.false_eq_true, if_false, Option.bind_some, Bool.false_and]
          exact tail _
  rw [iA, sA]
  rcases R3.2 with ⟨rfl, rfl⟩ | ⟨rfl, rfl, p, rfl, hp, rfl⟩
  · exact ⟨bad5 5, by simp, by simp, .inl ⟨_, rfl⟩⟩
  · obtain ⟨rfl, hch, hcl, hf2⟩ := l4 rfl
    obtain rfl := z3 hf2
    obtain rfl := y3 (hf1 hf2)
    have hend : decide (b.drop p = []) = decide (((p : Nat) : Int) = ((b.length : Nat) : Int)) := by
      apply decide_eq_decide.2
      rw [List.drop_eq_nil_iff]
      omega
    have hHB := fin_hb (tx := textOf yi) (runs := zi) (ch := ci) (by unfold textOf; rw [List.length_map]; exact y2) (by omega)
    refine ⟨finB a4 (textOf yi) zi (b.drop p) ci, ?_, ?_, finB_rb _ _ _ _ _⟩
    · simp only [Bool.false_eq_true, if_false]
      rw [i_rdR z1 (by omega), Option.bind_some]
      rw [i_chunks hch (by omega), Option.bind_some]
      dsimp only
      rw [i_GoodHistory_eq hHB, Option.bind_some]
      unfold finB
      cases okF ((rdR zi).2 && decide (b.drop p = [])) ci <;> cases goodH a4 (textOf yi) (rdR zi).1 (chF ci) <;> simp
    · simp only [Bool.false_eq_true, if_false]
      rw [s_rdR z1 (by omega), Option.bind_some, ← hend]
      rw [s_chunks hch (by omega), Option.bind_some]
      dsimp only
      rw [s_GoodHistory_eq hHB, Option.bind_some]
      unfold finB
      cases okF ((rdR zi).2 && decide (b.drop p = [])) ci <;> cases goodH a4 (textOf yi) (rdR zi).1 (chF ci) <;> simp
end Go.V.G

set_option linter.unusedVariables false
set_option linter.unusedSimpArgs false
set_option maxRecDepth 100000
namespace Go.V.G
open Go.V
def w_ByteS (xs : List (Int)) : Nat := xs.length
theorem w_ByteS_len (xs : List (Int)) : xs.length ≤ w_ByteS xs := by unfold w_ByteS; omega
theorem to_ByteS {xs : List (Int)} (h : w_ByteS xs ≤ 1048576) : l_toByteS xs = some xs := by
  have hl := w_ByteS_len xs
  have hr : roomFor xs.length 1 = true := by simp only [roomFor, decide_eq_true_eq]; omega
  unfold l_toByteS
  simp only [Int.toNat_natCast, hr, if_true, Int.le_refl, decide_true, show (0 : Int) ≤ ((xs.length : Nat) : Int) from by omega]
  rw [to_loop l_toByteS_L1 xs _ (by
    intro ys i hi hy
    have hc : ((i : Nat) : Int) < ((xs.length : Nat) : Int) := by omega
    have hy' : i < ys.length := by omega
    have g1 : ∀ x, (ys.set i x)[i]? = some x := fun x => List.getElem?_set_self hy'
    skip
    unfold l_toByteS_L1
    simp only [hy, hc, decide_true, if_true, show (0 : Int) ≤ ((i : Nat) : Int) from by omega, Int.toNat_natCast, List.getElem?_eq_getElem hi, List.getElem?_eq_getElem hy', Option.bind_some, Nat.zero_add, List.set_set, g1, ixS (show xs.length ≤ 4611686018427387904 by omega) hi]) (by intro ys; simp [l_toByteS_L1])]
  rfl
theorem eq_ByteS {xs : List (Int)} (h : w_ByteS xs ≤ 1099511627776) : l_eqByteS xs xs = some true := by
  have hl := w_ByteS_len xs
  unfold l_eqByteS
  rw [if_neg (by simp), eq_loop l_eqByteS_L1 xs (by
    intro i hi
    have hc : ((i : Nat) : Int) < ((xs.length : Nat) : Int) := by omega
    skip
    unfold l_eqByteS_L1
    simp only [hc, decide_true, if_true, show (0 : Int) ≤ ((i : Nat) : Int) from by omega, Int.toNat_natCast, List.getElem?_eq_getElem hi, Option.bind_some, ixS (show xs.length ≤ 4611686018427387904 by omega) hi, Bool.not_true, Bool.false_eq_true, if_false, not_true_eq_false, decide_false]) (by simp [l_eqByteS_L1])]
  rfl
end Go.V.G

set_option linter.unusedVariables false
set_option linter.unusedSimpArgs false
set_option maxRecDepth 100000
namespace Go.V.G
open Go.V
theorem n1 : ((1 : Nat) : Int) = 1 := rfl
theorem n4 : ((4 : Nat) : Int) = 4 := rfl
def c_ByteS : Int → Nat := fun _ => 1
def m_ByteS : Int → Int → Int := fun _ k => IntKind.wrap .u8 k
theorem cb_ByteS : ∀ xs : List Int, wsum c_ByteS xs = xs.length
  | [] => rfl
  | x :: xs => by simp only [wsum, cb_ByteS xs, c_ByteS, List.length_cons]; omega
theorem mark_ByteS {xs : List Int} (hl : xs.length ≤ 1099511627776) {k : Int} (h0 : 0 ≤ k) (h1 : k + wsum c_ByteS xs ≤ 4611686018427387904) : l_markByteS_l xs k = some (mks m_ByteS c_ByteS xs k, k + wsum c_ByteS xs) := by
  unfold l_markByteS_l
  rw [mark_loop l_markByteS_l_L1 m_ByteS c_ByteS xs (by
    intro ys i hi k hlen hmem h0 hk
    have hc : ((i : Nat) : Int) < ((ys.length : Nat) : Int) := by omega
    simp only [c_ByteS] at hk
    have w1 : IntKind.wrap .i64 (k + 1) = k + 1 := w64 (by omega) (by omega)
    unfold l_markByteS_l_L1
    simp only [hc, decide_true, if_true, show (0 : Int) ≤ ((i : Nat) : Int) from by omega, Int.toNat_natCast, List.getElem?_eq_getElem hi, Option.bind_some, Nat.zero_add, ixS (show ys.length ≤ 4611686018427387904 by omega) hi, w1, m_ByteS, c_ByteS, n1]) (by intro ys k; simp [l_markByteS_l_L1]) h0 h1]
  rfl
end Go.V.G

set_option linter.unusedVariables false
set_option linter.unusedSimpArgs false
set_option maxRecDepth 100000
namespace Go.V.G
open Go.V
theorem RB.w {r : Bd5} (h : RB r) : w_History (r.2.1, r.2.2.1, r.2.2.2.1, r.2.2.2.2) ≤ 2000000 := by
  rcases h with ⟨c, rfl⟩ | ⟨f, t, l, cs, rfl, g⟩
  · simp [bad5, w_History, w_RunS, w_ChangeS, wsum]
  · exact g.w
theorem readBundle_exact {x : List Int} (hb : Byt x) : l_FnExactReadBundle x = some true := by
  unfold l_FnExactReadBundle
  by_cases hl : (1048576 : Int) < ((x.length : Nat) : Int)
  · rw [if_pos (decide_eq_true hl)]
  · rw [if_neg (by simpa using hl)]
    obtain ⟨z, hz1, hz2, hz⟩ := readBundle_both hb
    have hzw := hz.w
    have hto : l_toByteS x = some x := to_ByteS (by unfold w_ByteS; omega)
    have heq : l_eqByteS x x = some true := eq_ByteS (by unfold w_ByteS; omega)
    have hcx := cb_ByteS x
    have hmk : l_markByteS_l x 1 = _ := mark_ByteS (xs := x) (by omega) (by omega) (by omega)
    have hn : ¬ ((1 : Int) + ((wsum c_ByteS x : Nat) : Int) < 0) := by omega
    have hq : l_eqHistory z.2.1 z.2.2.1 z.2.2.2.1 z.2.2.2.2 z.2.1 z.2.2.1 z.2.2.2.1 z.2.2.2.2 = some true := eq_History (by omega)
    have hm : l_markHistory_l z.2.1 z.2.2.1 z.2.2.2.1 z.2.2.2.2 1 = _ := mark_History (by omega) (by omega) (by omega)
    have hh : l_heldHistory z.2.1 z.2.2.1 (mkR z.2.2.2.1 1) (mkC z.2.2.2.1 z.2.2.2.2 1) 1 = _ := held_History (by omega) (by omega) (by omega)
    have hn2 : ¬ ((1 : Int) + ((cHist z.2.2.2.1 z.2.2.2.2 : Nat) : Int) < 0) := by omega
    simp only [hto, hz1, hz2, heq, hmk, hn, hq, hm, hh, hn2, Option.bind_some, Bool.not_true, Bool.false_eq_true, if_false, not_true_eq_false, decide_false]
end Go.V.G
namespace Go.Proofs.Ythpnmoiohfiggaa
open Go.V
theorem pure_FnExactReadBundle {e : TypeId} (x0 : List Int) (g0 : Fits (.sl false e (.int .u8)) x0) : G.l_FnExactReadBundle x0 = some true := G.readBundle_exact (G.bytes_of g0)
end Go.Proofs.Ythpnmoiohfiggaa

namespace Go
section
variable {F : Fence} {n : Nat} {P : Program} {ops : Array Oper} {Q : Exit → Act → World → Prop} {md : Region.Mode} {S : World → Prop}
def noDefer (ops : Array Oper) : Bool := ops.all fun o => match o.op with | .defer _ => false | _ => true
theorem noDefer_spec (h : noDefer ops = true) (j : Nat) (o : Oper) (hj : ops[j]? = some o) (c : Call) : o.op ≠ .defer c := by
  intro e
  unfold noDefer at h
  rw [Array.all_eq_true] at h
  obtain ⟨hlt, hv⟩ := Array.getElem?_eq_some_iff.1 hj
  have := h j hlt
  rw [hv, e] at this
  cases this
def YieldsIfF (P : Program) (ops : Array Oper) (S : World → Prop) (o : Oper) (v : Value) (a : Act) : Prop := YieldsIf P ops S o v a ∧ ∀ w, o.about P w a.eval = none
theorem YieldsIfF.wpOpIn {i : Nat} {o : Oper} {v : Value} {a : Act} (hd : ∀ c, o.op ≠ .defer c) (hi : ops[i]? = some o) (hy : YieldsIfF P ops S o v a)
    {K : Act → World → Prop} {w : World} (hS : S w) (h : K (a.put o.dst v) w) : wpOpIn F n P ops Q i K a w := by
  unfold Go.wpOpIn
  simp only [hi]
  have hab : ∀ f, o.about P w a.eval = some f → F.fn f := fun f hf => by rw [hy.2 w] at hf; cases hf
  rcases hy.1 with ⟨hw, hv⟩ | ⟨hw, rfl⟩
  · simp only [hw, if_true, Oper.wpIn, Oper.semAt_eq _ _ _ hd, hv w hS, Oper.uponIn]; exact ⟨hab, h⟩
  · simp only [hw, Bool.false_eq_true, if_false]; exact ⟨hab, h⟩
theorem YieldsIfF.of_same {o : Oper} {v : Value} {a a' : Act} (hy : YieldsIfF P ops S o v a) (he : execOp a'.eval o = execOp a.eval o)
    (hw : Region.wanted o (yielded ops a'.tmps) = Region.wanted o (yielded ops a.tmps)) (hb : ∀ w, o.about P w a'.eval = o.about P w a.eval) : YieldsIfF P ops S o v a' :=
  ⟨hy.1.of_same he hw, fun w => by rw [hb w]; exact hy.2 w⟩
theorem wpOpIn_putIf {j : Nat} {oi oj : Oper} {v : Value} (hdj : ∀ c, oj.op ≠ .defer c) (hj : ops[j]? = some oj) (hap : oi.apart ops oj = true)
    (hsi : ∀ cs b, oi.op ≠ .select cs b) (hsj : ∀ cs b, oj.op ≠ .select cs b)
    (hQ : ∀ c a w, Q (.panic c) (a.put oi.dst v) w → Q (.panic c) a w) {K : Act → World → Prop} {a : Act} {w : World}
    (hy : YieldsIfF P ops S oi v a) (h : wpOpIn F n P ops Q j K (a.put oi.dst v) w) :
    wpOpIn F n P ops Q j (fun a' w' => YieldsIfF P ops S oi v a' ∧ K (a'.put oi.dst v) w') a w := by
  obtain ⟨h1, h2, h3⟩ := Oper.apart_spec hap
  have keep : ∀ (a : Act), YieldsIfF P ops S oi v a → ∀ u, YieldsIfF P ops S oi v (a.put oj.dst u) := fun a hy u =>
    hy.of_same (execOp_put oi hsi a oj.dst u h3) (wanted_put oi a oj.dst u h3) (fun w => about_put oi w a oj.dst u h3)
  have keepD : ∀ d, YieldsIfF P ops S oi v { a with defers := d :: a.defers } := fun d => hy.of_same rfl rfl (fun _ => rfl)
  unfold wpOpIn at *
  simp only [hj] at *
  rw [wanted_put oj a oi.dst v h1, about_put oj w a oi.dst v h1] at h
  split
  · rename_i hw
    simp only [hw, if_true] at h
    unfold Oper.wpIn at *
    rw [about_put oj w a oi.dst v h1] at h
    refine ⟨h.1, ?_⟩
    have h := h.2
    rw [Oper.semAt_eq _ _ _ hdj, execOp_put oj hsj a oi.dst v h1] at h
    rw [Oper.semAt_eq _ _ _ hdj]
    generalize (execOp a.eval oj).run P w = r at *
    cases r with
    | ok x w' =>
      cases x <;> simp only [Oper.uponIn] at h ⊢
      case value u => exact ⟨keep a hy u, by rw [← Act.put_comm a v u h2]; exact h⟩
      case skip => exact ⟨keep a hy _, by rw [← Act.put_comm a v undef h2]; exact h⟩
      case defer d =>
        refine ⟨keep _ (keepD d) _, ?_⟩
        rw [← Act.put_comm _ v undef h2, ← Act.put_defers]
        exact h
      case enter f args =>
        refine ⟨h.1, CallsIn.mono h.2 fun e w'' he => ?_⟩
        cases e with
        | returned u => exact ⟨keep a hy u, by rw [← Act.put_comm a v u h2]; exact he⟩
        | panicked c => exact hQ _ _ _ he
        | outgrown => exact he
      case row row args => exact ⟨h.1, RowsIn.mono h.2 fun u w'' he => ⟨keep a hy u, by rw [← Act.put_comm a v u h2]; exact he⟩⟩
      case round l f tmps assign body =>
        refine ⟨h.1, RoundIn.mono h.2 fun e w'' he => ?_⟩
        cases e with
        | returned u => exact ⟨keep a hy u, by rw [← Act.put_comm a v u h2]; exact he⟩
        | panicked c => exact hQ _ _ _ he
        | outgrown => exact he
    | halt x w' =>
      cases x <;> simp only [Oper.uponIn] at h ⊢
      case panic u => exact hQ _ _ _ h
  · rename_i hw
    simp only [hw] at h
    exact ⟨h.1, keep a hy _, by rw [← Act.put_comm a v undef h2]; exact h.2⟩
def wpAnyHI (F : Fence) (n : Nat) (P : Program) (md : Region.Mode) (ops : Array Oper) (Q : Exit → Act → World → Prop) (S : World → Prop) : Nat → Array Bool → Act → World → Prop
  | 0, listed, a, w => Region.ready md ops listed = [] ∧ Q .normal a w
  | fuel + 1, listed, a, w =>
    (Region.ready md ops listed = [] → Q .normal a w) ∧
    ∀ i ∈ Region.ready md ops listed, wpOpIn F n P ops Q i (fun a' w' => S w' ∧ wpAnyHI F n P md ops Q S fuel (listed.setIfInBounds i true) a' w') a w
theorem wpAnyIn_of_held : ∀ (fuel : Nat) (listed : Array Bool) (a : Act) (w : World), wpAnyHI F n P md ops Q S fuel listed a w → wpAnyIn F n P md ops Q fuel listed a w
  | 0, _, _, _, h => h
  | fuel + 1, _, _, _, h => ⟨h.1, fun i hi => wpOpIn_mono (fun a' w' h' => wpAnyIn_of_held fuel _ a' w' h'.2) (h.2 i hi)⟩
theorem wpAnyHI_first {i : Nat} {oi : Oper} {v : Value} (hdf : noDefer ops = true) (hi : ops[i]? = some oi) (hsel : ∀ (j : Nat) (o : Oper) cs b, ops[j]? = some o → o.op ≠ .select cs b)
    (hQ : ∀ c a w, Q (.panic c) (a.put oi.dst v) w → Q (.panic c) a w) :
    ∀ (fuel : Nat) (listed : Array Bool) (a : Act) (w : World),
      (∀ j oj, ops[j]? = some oj → j ≠ i → listed.getD j true = false → (∀ e ∈ oj.after, Region.binds md e = true → e.on ≠ i) → oi.apart ops oj = true) →
      i ∈ Region.ready md ops listed → YieldsIfF P ops S oi v a → S w →
      wpAnyHI F n P md ops Q S fuel (listed.setIfInBounds i true) (a.put oi.dst v) w → wpAnyHI F n P md ops Q S (fuel + 1) listed a w := by
  intro fuel
  induction fuel with
  | zero =>
    intro listed a w _ hr hy hS H
    refine ⟨fun h => (by rw [h] at hr; cases hr), fun j hj => ?_⟩
    by_cases hji : j = i
    · subst hji; exact hy.wpOpIn (noDefer_spec hdf _ _ hi) hi hS ⟨hS, H⟩
    · have := ready_mono hj hji
      rw [H.1] at this
      cases this
  | succ fuel ih =>
    intro listed a w hfree hr hy hS H
    refine ⟨fun h => (by rw [h] at hr; cases hr), fun j hj => ?_⟩
    by_cases hji : j = i
    · subst hji; exact hy.wpOpIn (noDefer_spec hdf _ _ hi) hi hS ⟨hS, H⟩
    · have h1 := H.2 j (ready_mono hj hji)
      obtain ⟨hjun, oj, hoj, hall⟩ := mem_ready.1 hj
      have hnot : ∀ e ∈ oj.after, Region.binds md e = true → e.on ≠ i := fun e he hb heq => by
        have h1 := hall e he hb
        have h0 := (mem_ready.1 hr).1
        rw [heq] at h1
        rcases Nat.lt_or_ge i listed.size with h' | h'
        · simp [h'] at h0 h1; rw [h0] at h1; cases h1
        · simp [Array.getElem?_eq_none h'] at h1
      have h2 := wpOpIn_putIf (noDefer_spec hdf _ _ hoj) hoj (hfree j oj hoj hji hjun hnot) (fun cs b => hsel i oi cs b hi) (fun cs b => hsel j oj cs b hoj) hQ hy h1
      have hfree' : ∀ k ok, ops[k]? = some ok → k ≠ i → (listed.setIfInBounds j true).getD k true = false →
          (∀ e ∈ ok.after, Region.binds md e = true → e.on ≠ i) → oi.apart ops ok = true := fun k ok hk hki hun hno => by
        refine hfree k ok hk hki ?_ hno
        by_cases hjk : j = k
        · subst hjk; exact hjun
        · rw [getD_set_ne true hjk] at hun; exact hun
      refine wpOpIn_mono (fun a' w' h3 => ⟨h3.2.1, ih (listed.setIfInBounds j true) a' w' hfree' (ready_mono hr (Ne.symm hji)) h3.1 h3.2.1 ?_⟩) h2
      rw [Array.setIfInBounds_comm _ _ hji]
      exact h3.2.2
theorem wpAnyHI_take (i : Nat) {oi : Oper} (v : Value) {fuel : Nat} {listed : Array Bool} {a : Act} {w : World} (hi : ops[i]? = some oi) (hdf : noDefer ops = true)
    (hs : Region.noSelect ops = true) (hf : Region.free md ops listed i = true) (hr : (Region.ready md ops listed).contains i = true)
    (hQ : ∀ c a w, Q (.panic c) (a.put oi.dst v) w → Q (.panic c) a w) (hy : YieldsIfF P ops S oi v a) (hS : S w)
    (h : wpAnyHI F n P md ops Q S fuel (listed.setIfInBounds i true) (a.put oi.dst v) w) : wpAnyHI F n P md ops Q S (fuel + 1) listed a w :=
  wpAnyHI_first hdf hi (Region.noSelect_spec hs) hQ fuel listed a w (Region.free_spec hi hf) (by simpa using hr) hy hS h
theorem wpAnyHI_all {rs : List Nat} {fuel : Nat} {listed : Array Bool} {a : Act} {w : World} (hr : Region.ready md ops listed = rs) (hne : rs ≠ [])
    (h : ∀ i ∈ rs, wpOpIn F n P ops Q i (fun a' w' => S w' ∧ wpAnyHI F n P md ops Q S fuel (listed.setIfInBounds i true) a' w') a w) : wpAnyHI F n P md ops Q S (fuel + 1) listed a w :=
  ⟨fun h0 => absurd (hr ▸ h0) hne, hr ▸ h⟩
theorem wpAnyHI_done {listed : Array Bool} {a : Act} {w : World} (hr : Region.ready md ops listed = []) (h : Q .normal a w) :
    ∀ fuel, wpAnyHI F n P md ops Q S fuel listed a w
  | 0 => ⟨hr, h⟩
  | _ + 1 => ⟨fun _ => h, by rw [hr]; simp⟩
theorem wpOpIn_value {i : Nat} {o : Oper} {K : Act → World → Prop} {a : Act} {w w' : World} (v : Value) (hi : ops[i]? = some o) (hd : ∀ c, o.op ≠ .defer c) (hw : Region.wanted o (yielded ops a.tmps) = true)
    (hab : o.about P w a.eval = none) (h : (execOp a.eval o).run P w = .ok (.value v) w') (hK : K (a.put o.dst v) w') : wpOpIn F n P ops Q i K a w := by
  unfold wpOpIn
  rw [hi]
  simp only
  rw [if_pos hw]
  unfold Oper.wpIn
  rw [Oper.semAt_eq _ _ _ hd, h]
  exact ⟨fun f hf => (by rw [hab] at hf; cases hf), hK⟩
theorem wpOpIn_skip {i : Nat} {o : Oper} {K : Act → World → Prop} {a : Act} {w w' : World} (hi : ops[i]? = some o) (hd : ∀ c, o.op ≠ .defer c) (hw : Region.wanted o (yielded ops a.tmps) = true)
    (hab : o.about P w a.eval = none) (h : (execOp a.eval o).run P w = .ok .skip w') (hK : K (a.put o.dst undef) w') : wpOpIn F n P ops Q i K a w := by
  unfold wpOpIn
  rw [hi]
  simp only
  rw [if_pos hw]
  unfold Oper.wpIn
  rw [Oper.semAt_eq _ _ _ hd, h]
  exact ⟨fun f hf => (by rw [hab] at hf; cases hf), hK⟩
theorem wpIn_region_heldI {id : Nat} {a : Act} {w : World} (S : World → Prop) (hm : P.follows .mixedOrders = true)
    (h : wpAnyHI F n P .any ops Q S ops.size (Array.replicate ops.size false) a w.drew) : (Code.region id ops true).wpIn F n P Q a w :=
  wpIn_region_any hm (wpAnyIn_of_held _ _ _ _ h)
end
end Go
