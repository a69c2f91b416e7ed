import Derived.Test.YtijemcbcchnnjaaDoorQTxE
import Derived.Shelf.Pu.Lays
import Derived.Shelf.Pu.Lower
import Derived.Shelf.Pu.ToError
import Derived.Lib.Strings
import Derived.Lib.Walk
import Derived.Lib.ConvBytes
import Derived.Lib.ParseIntBMem
import Derived.Lib.Hide
import Derived.Laws.Strings3
import Derived.Laws.Closers25
import Derived.Laws.Closers25b
import Derived.WalkKit
import Derived.BigCall
import Derived.BigGuard
import Derived.Shelf.Strings.Split
import Derived.Shelf.Strconv.AtoiAll
set_option linter.unusedVariables false
namespace Go.Proofs
open Go.Shelf Go.RowKit
variable {P : Program} {ρ : Ren}
def hexEnd (t : TypeId) : Option Nat → Value
  | some n => .tuple #[.int .u64 ((n : Nat) : Int), .nilIface]
  | none => .tuple #[.int .u64 0, .iface t (.int .i64 2)]
theorem or32 : ∀ c < 256, bits .or .u8 ((c : Nat) : Int) 32 = ((c ||| 32 : Nat) : Int) := by decide +kernel
set_option maxHeartbeats 32000000 in
set_option maxRecDepth 100000 in
theorem hex_inner (L : LaysPu.n16 P ρ) (t : ByteArray) (h2 : t.size = 2) (w : World) :
    Calls P (ρ.f 16) #[.string t, .int .i64 16, .int .i64 8] w fun e w' => e = .returned (hexEnd (ρ.t 34) (Go.V.G.hexGo 0 t.data.toList)) ∧ w' = Lib.bytesWorld w (ρ.t 5) t := by
  have mixed := L.mixed
  have t9 := L.t9; have a9 := L.a9; have z9 := L.z9; have v9 := L.v9
  have t3 := L.t3; have a3 := L.a3; have z3 := L.z3; have v3 := L.v3
  have t22 := L.t22; have a22 := L.a22; have z22 := L.z22; have v22 := L.v22
  have t24 := L.t24; have a24 := L.a24; have z24 := L.z24; have v24 := L.v24
  have t4 := L.t4; have a4 := L.a4; have z4 := L.z4; have v4 := L.v4
  have t34 := L.t34; have a34 := L.a34; have z34 := L.z34; have v34 := L.v34
  have t5 := L.t5; have a5 := L.a5; have z5 := L.z5; have v5 := L.v5
  have t36 := L.t36; have a36 := L.a36; have z36 := L.z36; have v36 := L.v36
  have t37 := L.t37; have a37 := L.a37; have z37 := L.z37; have v37 := L.v37
  have t0 := L.t0; have a0 := L.a0; have z0 := L.z0; have v0 := L.v0
  have e19 : ∀ args w, (callFunc (ρ.f 19) args).run P w = .ok (.enter (ρ.f 19) args) w := enters_of L.f19 (by kernel_rfl) rfl
  have hemp : t.toList.isEmpty = false := by
    rw [← decide_eq_emptyBytes]
    exact decide_eq_false (fun h => by rw [h] at h2; exact absurd h2 (by decide))
  have hcv := Lib.run_convert_string_bytes (P := P) w (ρ.t 9) (ρ.t 37) (ρ.t 5) t (u := .string) L.t9 L.t37 L.t5
  have hB : ∀ j, j < t.size → (Lib.bytesWorld w (ρ.t 5) t).cell? ⟨w.heap.size, j, none⟩ = some (.int .u8 (t.data.toList.getD j 0).toNat) := fun j hj => Lib.bytesWorld_cell w (ρ.t 5) t j hj
  obtain ⟨W1, hW1⟩ : ∃ W1, W1 = Lib.bytesWorld w (ρ.t 5) t := ⟨_, rfl⟩
  rw [← hW1] at hcv hB ⊢
  clear hW1
  obtain ⟨bs, hL⟩ : ∃ bs, bs = t.data.toList := ⟨_, rfl⟩
  have hLn : bs.length = t.size := by rw [hL, Lib.size_eq]
  rw [← hL] at hB ⊢
  clear hL
  have hmv : IntKind.u64.wrap (IntKind.u64.wrap 256 - 1) = 255 := by
    rw [IntKind.wrap_u64, IntKind.wrap_u64]
    decide
  have H2 : Hid (t.size = 2) := Lib.hid h2
  have hmax : t.size ≤ 9223372036854775806 := by omega
  have hne : t.size ≠ 0 := by omega
  clear h2
  go_enter L.f16, BodyPu.n16_ntmps ρ
  go_wp2
  go_loop [12, 13, 101] (fun vu vn vi => ∃ (k acc : Nat) (a : Int), vu = .bool false ∧ vn = .int .u64 a ∧ vi = .int .i64 k ∧ k ≤ t.size ∧ Hid (a = (acc : Int) ∧ (k = 0 → acc = 0) ∧ (k ≤ 1 → acc ≤ 15) ∧ acc ≤ 255 ∧ Go.V.G.hexGo 0 bs = Go.V.G.hexGo acc (bs.drop k)))
    (fun _ _ vi => t.size - (intOf vi).toNat)
  case atStart => exact ⟨0, 0, 0, rfl, rfl, rfl, by omega, rfl, by omega, by omega, by omega, rfl⟩
  case round =>
    obtain ⟨k, acc, a, rfl, rfl, rfl, hk, hh⟩ := hrel
    obtain ⟨ha, hk0, hk1, hacc, hdec⟩ := hh.out
    clear hh
    by_cases hkn : k < t.size
    · have hc := hB k hkn
      have hkk : k ≤ 1 := by have := H2.out; omega
      have hac := hk1 hkk
      have hz : k = 0 → acc = 0 := hk0
      clear hk0 hk1 hacc
      have a0 : 0 ≤ a := by omega
      have a1 : a ≤ 15 := by omega
      have hdrop : bs.drop k = bs[k]'(by omega) :: bs.drop (k + 1) := List.drop_eq_getElem_cons (by omega)
      have hget : bs.getD k 0 = bs[k]'(by omega) := by simp [List.getD, List.getElem?_eq_getElem (show k < bs.length by omega)]
      rw [hdrop] at hdec
      rw [hget] at hc
      generalize bs[k]'(by omega) = c at hc hdec
      have hc256 : c.toNat < 256 := c.toNat_lt
      clear hB hdrop hget
      by_cases hdig : 48 ≤ c.toNat ∧ c.toNat ≤ 57
      · obtain ⟨hd0, hd1⟩ := hdig
        have hF : Go.V.G.hexGo acc (c :: bs.drop (k + 1)) = Go.V.G.hexGo (acc * 16 + (c.toNat - 48)) (bs.drop (k + 1)) := by simp [Go.V.G.hexGo, Go.V.G.hexV, hd0, hd1]
        have HN : Hid (a * 16 + ((c.toNat : Int) - 48) = ((acc * 16 + (c.toNat - 48) : Nat) : Int) ∧ (k + 1 = 0 → acc * 16 + (c.toNat - 48) = 0) ∧ (k + 1 ≤ 1 → acc * 16 + (c.toNat - 48) ≤ 15) ∧ acc * 16 + (c.toNat - 48) ≤ 255 ∧ Go.V.G.hexGo 0 bs = Go.V.G.hexGo (acc * 16 + (c.toNat - 48)) (bs.drop (k + 1))) := by
          exact Lib.hid ⟨by omega, by omega, fun h => by have := hz (by omega); omega, by omega, hdec.trans hF⟩
        have iov : a * 16 + ((c.toNat : Int) - 48) ≤ 255 := by omega
        clear hac hF hdec ha hz
        go_wp2
        refine ⟨⟨k + 1, acc * 16 + (c.toNat - 48), a * 16 + ((c.toNat : Int) - 48), rfl, (by first | rfl | (congr 1; omega)), (by first | rfl | (congr 1; omega)), by omega, HN⟩, by simp [intOf]; omega⟩
      · have hor := or32 c.toNat hc256
        by_cases hlet : 97 ≤ c.toNat ||| 32 ∧ c.toNat ||| 32 ≤ 102
        · have hF : Go.V.G.hexGo acc (c :: bs.drop (k + 1)) = Go.V.G.hexGo (acc * 16 + ((c.toNat ||| 32) - 87)) (bs.drop (k + 1)) := by simp [Go.V.G.hexGo, Go.V.G.hexV, hdig, hlet]
          obtain ⟨hl0, hl1⟩ := hlet
          have h95 : c.toNat ≠ 95 := by rintro h; rw [h] at hl0 hl1; revert hl0 hl1; decide
          generalize c.toNat ||| 32 = l at hor hl0 hl1 hF
          have HN : Hid (a * 16 + ((l : Int) - 97 + 10) = ((acc * 16 + (l - 87) : Nat) : Int) ∧ (k + 1 = 0 → acc * 16 + (l - 87) = 0) ∧ (k + 1 ≤ 1 → acc * 16 + (l - 87) ≤ 15) ∧ acc * 16 + (l - 87) ≤ 255 ∧ Go.V.G.hexGo 0 bs = Go.V.G.hexGo (acc * 16 + (l - 87)) (bs.drop (k + 1))) := by
            exact Lib.hid ⟨by omega, by omega, fun h => by have := hz (by omega); omega, by omega, hdec.trans hF⟩
          have iov : a * 16 + ((l : Int) - 97 + 10) ≤ 255 := by omega
          clear hac hF hdec ha hz
          go_wp2_with (go_at_fn (ρ.f 19); refine (AnyPu.internal_strconv_lower { L with } _ _).mono ?_; rintro e w' ⟨rfl, rfl⟩; rw [hor])
          all_goals refine ⟨⟨k + 1, acc * 16 + (l - 87), a * 16 + ((l : Int) - 97 + 10), rfl, (by first | rfl | (congr 1; omega)), (by first | rfl | (congr 1; omega)), by omega, HN⟩, by simp [intOf]; omega⟩
        · have hF : Go.V.G.hexGo acc (c :: bs.drop (k + 1)) = none := by simp [Go.V.G.hexGo, Go.V.G.hexV, hdig, hlet]
          rw [hF] at hdec
          clear hac hF ha hz
          by_cases hmid : 97 ≤ c.toNat ||| 32 ∧ c.toNat ||| 32 ≤ 122
          · have hl0 : 103 ≤ c.toNat ||| 32 := by omega
            obtain ⟨_, hl1⟩ := hmid
            have h95 : c.toNat ≠ 95 := by rintro h; rw [h] at hl1; revert hl1; decide
            generalize c.toNat ||| 32 = l at hor hl0 hl1 hlet
            clear hlet
            go_wp2_with (go_at_fn (ρ.f 19); refine (AnyPu.internal_strconv_lower { L with } _ _).mono ?_; rintro e w' ⟨rfl, rfl⟩; rw [hor])
            all_goals go_ret2
            all_goals first | exact ⟨rfl, rfl⟩ | exact ⟨by rw [hdec]; rfl, rfl⟩
          · have hu : bits .or .u8 95 32 = 127 := by decide +kernel
            generalize hl : c.toNat ||| 32 = l at hor hlet hmid
            have hno : ¬ (97 ≤ (l : Int) ∧ (l : Int) ≤ 122) := by omega
            clear hlet hmid
            by_cases h95 : c.toNat = 95
            · have hc' : W1.cell? ⟨w.heap.size, k, none⟩ = some (.int .u8 95) := by rw [hc, h95]; rfl
              clear hc hor hl hno h95 hdig hc256
              go_wp2_with (go_at_fn (ρ.f 19); refine (AnyPu.internal_strconv_lower { L with } _ _).mono ?_; rintro e w' ⟨rfl, rfl⟩; rw [hu])
              all_goals go_ret2
              all_goals first | exact ⟨rfl, rfl⟩ | exact ⟨by rw [hdec]; rfl, rfl⟩
            · go_wp2_with (go_at_fn (ρ.f 19); refine (AnyPu.internal_strconv_lower { L with } _ _).mono ?_; rintro e w' ⟨rfl, rfl⟩; rw [hor])
              all_goals go_ret2
              all_goals first | exact ⟨rfl, rfl⟩ | exact ⟨by rw [hdec]; rfl, rfl⟩
    · have hkk : k = t.size := by omega
      subst hkk
      have hF : Go.V.G.hexGo acc (bs.drop t.size) = some acc := by rw [List.drop_eq_nil_of_le (by omega)]; rfl
      rw [hF] at hdec
      subst ha
      clear hacc hF hk0 hk1
      go_wp2
      go_ret2
      exact ⟨rfl, rfl⟩
end Go.Proofs

set_option linter.unusedVariables false
set_option linter.unusedSimpArgs false
namespace Go.V
open Go.RowKit Go.Shelf Go.Proofs
theorem cell_of_at {w : World} {g : Nat} {v : Value} (h : cellsAt? w g = some #[v]) : w.cell? ⟨g, 0, none⟩ = some v := by
  unfold cellsAt? at h
  unfold World.cell?
  cases hc : w.heap[g]? with
  | none => rw [hc] at h; cases h
  | some o =>
    rw [hc] at h
    cases o with
    | cells cs t fr => injection h with h; subst h; rfl
    | _ => cases h
theorem pair_post {w w' : World} {Ro : Nat → Prop} {F : List Nat} {vals : List Value} {k : IntKind} {n : Int} {b : Bool} {v : Value} (hb : ErV b v) (h : Below w.heap.size w w') :
    CallPost w Ro [] F vals ⟨[.one ⟨.int k, n⟩, .one ⟨.er, b⟩], [], []⟩ (.tuple #[.int k n, v]) w' :=
  ⟨[.int k n, v], [], [], [], rfl, ⟨_, _, [], [], rfl, rfl, ⟨by dsimp only; rw [Rp]; exact ⟨rfl, rfl⟩, fun h => rfl⟩, ⟨_, [], [], [], rfl, rfl, ⟨by dsimp only; rw [Rp]; exact ⟨v, rfl, rfl, hb⟩, fun h => rfl⟩, rfl, rfl⟩⟩, ⟨rfl, rfl⟩, rfl, by simp, by simp, below_step _ h⟩
theorem strs_rpl {w : World} {K : Nat → Prop} : ∀ (xs : List (List UInt8)), RpL (Rp w K .str) xs (xs.map strV) []
  | [] => ⟨rfl, rfl⟩
  | x :: xs => ⟨[strV x], xs.map strV, [], [], rfl, rfl, by rw [Rp]; exact ⟨rfl, rfl⟩, strs_rpl xs⟩
theorem splitF_no (b : UInt8) : ∀ s : List UInt8, (∀ (k : Nat), s[k]? ≠ some b) → G.splitF b s = [s]
  | [], _ => rfl
  | c :: r, h => by
    have h0 : c ≠ b := fun e => h 0 (by simp [e])
    rw [G.splitF, if_neg h0, splitF_no b r (fun k => by simpa using h (k + 1))]
theorem splitF_at (b : UInt8) : ∀ (i : Nat) (s : List UInt8), s[i]? = some b → (∀ (k : Nat), k < i → s[k]? ≠ some b) → G.splitF b s = s.take i :: G.splitF b (s.drop (i + 1))
  | _, [], h, _ => by simp at h
  | 0, c :: r, h, _ => by
    have h0 : c = b := by simpa using h
    rw [G.splitF, if_pos h0]; rfl
  | i + 1, c :: r, h, hk => by
    have h0 : c ≠ b := fun e => hk 0 (by omega) (by simp [e])
    rw [G.splitF, if_neg h0, splitF_at b i r (by simpa using h) (fun k hlt => by simpa using hk (k + 1) (by omega))]
    rfl
theorem splitK_eq (b : UInt8) : ∀ (n : Nat) (s : List UInt8), s.length ≤ n → Lib.splitK [b] 0 (Lib.count s [b]) s = G.splitF b s := by
  intro n
  induction n with
  | zero =>
    intro s hs
    obtain rfl : s = [] := List.length_eq_zero_iff.1 (by omega)
    rfl
  | succ n ih =>
    intro s hs
    have hix := Lib.index_one s b
    by_cases hm : Lib.indexByte s b = -1
    · rw [Lib.count_miss (by rw [hix]; exact hm), splitF_no b s (Lib.indexByte_none hm)]; rfl
    · have hge := Lib.indexByte_ge s b
      obtain ⟨i, hi⟩ : ∃ i : Nat, Lib.indexByte s b = i := ⟨(Lib.indexByte s b).toNat, by omega⟩
      obtain ⟨h1, h2⟩ := Lib.indexByte_some hi
      have hlt := (List.getElem?_eq_some_iff.1 h1).1
      have hi2 : Lib.index s [b] = i := by rw [hix]; exact hi
      rw [Lib.count_hit (by simp) hi2, splitF_at b i s h1 h2, Nat.add_comm 1, Lib.splitK, if_neg (by rw [hi2]; simp), hi2]
      rw [Int.toNat_natCast, Nat.add_zero, List.length_singleton, ih _ (by rw [List.length_drop]; omega)]
variable {P : Program} {ρ : Ren}
theorem split_sound (L : Lays.n146 P ρ) (hi9 : (P.info? (ρ.t 9)).map (fun i => (i.zero, i.size, i.bytes)) = some (some (.string ByteArray.empty), 1, 16)) (hg1 : ρ.g 1 = 0) (xs : List UInt8) (b : UInt8) (hlen : xs.length < 4294967281) :
    CallSound P (ρ.f 146) [.one ⟨.str, xs⟩, .one ⟨.str, [b]⟩] [] ⟨[.one ⟨.sl true (ρ.t 9) .str, G.splitF b xs⟩], [], []⟩ := by
  refine ⟨⟨_, L.f146, rfl, rfl⟩, ?_⟩
  rintro w _ Ro ms _ F2 ⟨v0, _, G0, _, rfl, rfl, ⟨h0, _⟩, ⟨v1, _, G1, _, rfl, rfl, ⟨h1, _⟩, rfl, rfl⟩⟩ hR hnd hlt hg
  dsimp only at h0 h1
  cases ms with
  | cons g gs => obtain ⟨_, _, _, _, _, _, _, h, _⟩ := hR; cases h
  | nil =>
  obtain ⟨_, rfl⟩ := hR
  rw [Rp] at h0 h1
  obtain ⟨h0, rfl⟩ := h0
  obtain ⟨h1, rfl⟩ := h1
  injection h0 with h0
  injection h1 with h1
  subst h0 h1
  obtain ⟨m, hm⟩ := hg.1.len
  have hm' : w.cell? ⟨ρ.g 1, 0, none⟩ = some (.int .i64 m) := by rw [hg1]; exact hm
  have hk := Any.strings_Split L hi9 ⟨xs.toArray⟩ ⟨#[b]⟩ m w (by simpa [ByteArray.size] using hlen) hm' (by simp [ByteArray.size])
  refine hk.mono ?_
  rintro _ _ ⟨rfl, rfl⟩
  have hd := Lib.splitB_data ⟨#[b]⟩ 0 (Lib.countB ⟨xs.toArray⟩ ⟨#[b]⟩) ⟨xs.toArray⟩
  have hn := Lib.splitB_all ⟨#[b]⟩ (by simp [ByteArray.size]) 0 _ ⟨xs.toArray⟩ rfl
  generalize Lib.splitB ⟨#[b]⟩ 0 (Lib.countB ⟨xs.toArray⟩ ⟨#[b]⟩) ⟨xs.toArray⟩ = D at hd hn
  have he : Lib.splitK [b] 0 (Lib.count xs [b]) xs = G.splitF b xs := splitK_eq b _ xs (Nat.le_refl _)
  have hd : D.map (·.data.toList) = G.splitF b xs := by rw [hd]; simpa using he
  have hl : (G.splitF b xs).length = Lib.countB ⟨xs.toArray⟩ ⟨#[b]⟩ + 1 := by rw [← hd, List.length_map, hn]
  have hD : D.map Value.string = (G.splitF b xs).map strV := by
    rw [← hd, List.map_map]
    exact List.map_congr_left fun s _ => by cases s; simp [strV]
  rw [hD, ← hl]
  have hsz : ((G.splitF b xs).map strV).toArray.size = (G.splitF b xs).length := by simp
  refine ⟨_, rfl, [.slice (some ⟨w.heap.size, 0, none⟩) (G.splitF b xs).length (G.splitF b xs).length], [w.heap.size], [], [], rfl, ?_, ⟨rfl, rfl⟩, rfl, by simp, ?_, ?_⟩
  · refine ⟨_, [], [w.heap.size], [], rfl, rfl, ⟨?_, fun h => by cases h⟩, rfl, rfl⟩
    dsimp only
    rw [Rp]
    refine .inr ⟨w.heap.size, 0, _, _, (0, 0), [], rfl, rfl, push_new w _, NFt.zero _ (fun h => by cases h), ?_, Nat.le_refl _, ?_⟩
    · simp [Ty.size]
    · rw [show List.length (G.splitF b xs) * Ty.str.size = (G.splitF b xs).length by simp [Ty.size]]
      have e : ((((G.splitF b xs).map strV).toArray.toList.drop 0).take (G.splitF b xs).length) = (G.splitF b xs).map strV := by
        rw [List.drop_zero]
        exact List.take_of_length_le (by simp)
      rw [e]
      exact strs_rpl _
  · intro x hx
    simp only [List.append_nil, List.mem_singleton] at hx
    subst hx
    refine ⟨?_, .inr (Nat.le_refl _)⟩
    show _ < (w.heap.push _).size
    simp
  · refine ⟨rfl, rfl, rfl, ?_, fun g hlt2 _ => ?_⟩
    · show w.heap.size ≤ (w.heap.push _).size
      simp
    · show (w.heap.push _)[g]? = _
      rw [Array.getElem?_push, if_neg (by omega)]
theorem atoi_sound (L : LaysC.n172 P ρ) (h15 : ρ.g 15 = 1) (h16 : ρ.g 16 = 2) (xs : List UInt8) (hlim : xs.length ≤ 281474976710656) :
    CallSound P (ρ.f 172) [.one ⟨.str, xs⟩] [] ⟨[.one ⟨.int .i64, (G.atoiF xs).1⟩, .one ⟨.er, (G.atoiF xs).2⟩], [], []⟩ := by
  refine ⟨⟨_, L.f172, rfl, rfl⟩, ?_⟩
  rintro w _ Ro ms _ F2 ⟨v0, _, G0, _, rfl, rfl, ⟨h0, _⟩, rfl, rfl⟩ hR hnd hlt hg
  dsimp only at h0
  cases ms with
  | cons g gs => obtain ⟨_, _, _, _, _, _, _, h, _⟩ := hR; cases h
  | nil =>
  obtain ⟨_, rfl⟩ := hR
  rw [Rp] at h0
  obtain ⟨h0, rfl⟩ := h0
  injection h0 with h0
  subst h0
  obtain ⟨te, pe, hs⟩ := hg.1.syn
  obtain ⟨tr, pr, hr⟩ := hg.1.ran
  have hs' : w.cell? ⟨ρ.g 15, 0, none⟩ = some (.iface te pe) := by rw [h15]; exact cell_of_at hs
  have hr' : w.cell? ⟨ρ.g 16, 0, none⟩ = some (.iface tr pr) := by rw [h16]; exact cell_of_at hr
  have hz : (⟨xs.toArray⟩ : ByteArray).size = xs.length := by simp [ByteArray.size]
  cases hq : Lib.atoiAll xs with
  | ok v =>
    refine (Any.strconv_Atoi_ok L ⟨xs.toArray⟩ (by omega) v hq w).mono ?_
    rintro _ w' ⟨rfl, hw⟩
    have he : G.atoiF xs = (v, false) := by unfold G.atoiF; rw [hq]
    rw [he]
    refine ⟨_, rfl, pair_post rfl ?_⟩
    rcases hw with rfl | ⟨t, rfl⟩
    · exact Below.refl _ _
    · exact Lib.bytesWorld_below _ _ _
  | «syntax» =>
    refine (Any.strconv_Atoi_syntax L ⟨xs.toArray⟩ (by omega) hq _ w hs' (.inr ⟨te, pe, rfl⟩)).mono ?_
    rintro _ w' ⟨N, rfl, _, _, hb⟩
    have he : G.atoiF xs = (0, true) := by unfold G.atoiF; rw [hq]
    rw [he]
    exact ⟨_, rfl, pair_post ⟨_, _, rfl⟩ hb⟩
  | range =>
    refine (Any.strconv_Atoi_range L ⟨xs.toArray⟩ (by omega) hq _ w hr' (.inr ⟨tr, pr, rfl⟩)).mono ?_
    rintro _ w' ⟨N, rfl, _, _, hb⟩
    have he : G.atoiF xs = (Lib.atoiSat xs, true) := by unfold G.atoiF; rw [hq]
    rw [he]
    exact ⟨_, rfl, pair_post ⟨_, _, rfl⟩ hb⟩
set_option maxHeartbeats 4000000 in
set_option maxRecDepth 100000 in
theorem hex_public (L : LaysPu.n14 P ρ) (s : ByteArray) (h2 : s.size = 2) (ev : Value) (w : World) (hv : w.cell? ⟨(ρ.g 0), 0, none⟩ = some ev) (hev : ev = .nilIface ∨ ∃ te pe, ev = .iface te pe) :
    Calls P (ρ.f 14) #[.string s, .int .i64 16, .int .i64 8] w fun e w' => (∃ v, e = .returned (.tuple #[.int .u64 (G.hexF s.data.toList).1, v]) ∧ ErV (G.hexF s.data.toList).2 v) ∧ Below w.heap.size w w' := by
  have mixed := L.mixed
  have t9 := L.t9; have a9 := L.a9; have z9 := L.z9; have v9 := L.v9
  have t3 := L.t3; have a3 := L.a3; have z3 := L.z3; have v3 := L.v3
  have t22 := L.t22; have a22 := L.a22; have z22 := L.z22; have v22 := L.v22
  have t24 := L.t24; have a24 := L.a24; have z24 := L.z24; have v24 := L.v24
  have t25 := L.t25; have a25 := L.a25; have z25 := L.z25; have v25 := L.v25
  have t4 := L.t4; have a4 := L.a4; have z4 := L.z4; have v4 := L.v4
  have e16 : ∀ args w, (callFunc (ρ.f 16) args).run P w = .ok (.enter (ρ.f 16) args) w := enters_of L.f16 (by kernel_rfl) rfl
  have e17 : ∀ args w, (callFunc (ρ.f 17) args).run P w = .ok (.enter (ρ.f 17) args) w := enters_of L.f17 (by kernel_rfl) rfl
  have hG : (ρ.g 0) < w.heap.size := Lib.lt_of_cell hv
  have hI := hex_inner { L with } s h2 w
  have hlim : s.size ≤ 281474976710656 := by omega
  clear h2
  cases hq : G.hexGo 0 s.data.toList with
  | some n =>
    have he : G.hexF s.data.toList = (((n : Nat) : Int), false) := by unfold G.hexF; rw [hq]
    rw [he]
    rw [hq] at hI
    have hI : Calls P (ρ.f 16) #[.string s, .int .i64 16, .int .i64 8] w fun e w' => e = .returned (.tuple #[.int .u64 ((n : Nat) : Int), .nilIface]) ∧ w' = Lib.bytesWorld w (ρ.t 5) s := hI
    clear hq he
    go_enter L.f14, BodyPu.n14_ntmps ρ
    go_wp2_with (go_at_fn (ρ.f 16); refine hI.mono ?_; rintro e W1 ⟨rfl, hW⟩)
    go_wp2
    go_ret2
    exact ⟨⟨_, rfl, rfl⟩, Lib.bytesWorld_below _ _ _⟩
  | none =>
    have he : G.hexF s.data.toList = (0, true) := by unfold G.hexF; rw [hq]
    rw [he]
    rw [hq] at hI
    have hI : Calls P (ρ.f 16) #[.string s, .int .i64 16, .int .i64 8] w fun e w' => e = .returned (.tuple #[.int .u64 0, .iface (ρ.t 34) (.int .i64 2)]) ∧ w' = Lib.bytesWorld w (ρ.t 5) s := hI
    clear hq he
    go_enter L.f14, BodyPu.n14_ntmps ρ
    go_wp2_with (go_at_fn (ρ.f 16); refine hI.mono ?_)
    rintro e W1 ⟨rfl, hW⟩
    have hb1 : Below w.heap.size w W1 := by rw [hW]; exact Lib.bytesWorld_below _ _ _
    have hv1 : W1.cell? ⟨(ρ.g 0), 0, none⟩ = some ev := (hb1.cell (show (⟨(ρ.g 0), 0, none⟩ : Addr).block < w.heap.size from hG)).trans hv
    clear hW
    go_wp2_with (go_at_fn (ρ.f 17); refine (AnyPu.strconv_toError_syntax { L with } ⟨#[80, 97, 114, 115, 101, 85, 105, 110, 116]⟩ s 16 8 ev _ hlim ?_ hev).mono ?_)
    · exact hv1
    rintro e W2 ⟨N, rfl, h1, h3, h4⟩
    go_wp2
    go_ret2
    exact ⟨⟨_, rfl, _, _, rfl⟩, hb1.trans (h4.mono hb1.size)⟩
theorem parse_sound (L : LaysPu.n14 P ρ) (h0 : ρ.g 0 = 1) (xs : List UInt8) (h2 : xs.length = 2) :
    CallSound P (ρ.f 14) [.one ⟨.str, xs⟩, .one ⟨.int .i64, (16 : Int)⟩, .one ⟨.int .i64, (8 : Int)⟩] [] ⟨[.one ⟨.int .u64, (G.hexF xs).1⟩, .one ⟨.er, (G.hexF xs).2⟩], [], []⟩ := by
  refine ⟨⟨_, L.f14, rfl, rfl⟩, ?_⟩
  rintro w _ Ro ms _ F2 ⟨v0, _, G0, _, rfl, rfl, ⟨k0, _⟩, ⟨v1, _, G1, _, rfl, rfl, ⟨k1, _⟩, ⟨v2, _, G2, _, rfl, rfl, ⟨k2, _⟩, rfl, rfl⟩⟩⟩ hR hnd hlt hg
  dsimp only at k0 k1 k2
  cases ms with
  | cons g gs => obtain ⟨_, _, _, _, _, _, _, h, _⟩ := hR; cases h
  | nil =>
  obtain ⟨_, rfl⟩ := hR
  simp only [Rp] at k0 k1 k2
  obtain ⟨k0, rfl⟩ := k0
  obtain ⟨k1, rfl⟩ := k1
  obtain ⟨k2, rfl⟩ := k2
  injection k0 with k0
  injection k1 with k1
  injection k2 with k2
  subst k0 k1 k2
  obtain ⟨te, pe, hs⟩ := hg.1.syn
  have hs' : w.cell? ⟨ρ.g 0, 0, none⟩ = some (.iface te pe) := by rw [h0]; exact cell_of_at hs
  refine (hex_public L ⟨xs.toArray⟩ (by simpa [ByteArray.size] using h2) _ w hs' (.inr ⟨te, pe, rfl⟩)).mono ?_
  rintro _ w' ⟨⟨v, rfl, hv⟩, hb⟩
  exact ⟨_, rfl, pair_post hv hb⟩
end Go.V
