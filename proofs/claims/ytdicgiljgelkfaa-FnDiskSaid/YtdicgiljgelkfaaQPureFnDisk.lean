/-
  The pure law of FnDisk.
-/
import Derived.Test.YtdicgiljgelkfaaQP0
import Derived.Test.YtdicgiljgelkfaaQP2
set_option linter.unusedVariables false
set_option linter.unusedSimpArgs false
set_option maxRecDepth 100000
namespace Go.V.G
open Go.V
theorem putR_good {a : Int} {data : List Int} {bl : Bls} {wr lf : Int} (hd : data.length = 128) (hw : ¬ wr = 1000000000) (hg : gd bl wr lf = true) (hp : (putR a data bl wr true lf).1 = true) :
    (putR a data bl wr true lf).2.1 = bl.set a.toNat data ∧ (putR a data bl wr true lf).2.2.2.1 = true ∧ gd (putR a data bl wr true lf).2.1 (putR a data bl wr true lf).2.2.1 (putR a data bl wr true lf).2.2.2.2 = true := by
  unfold putR at hp ⊢
  simp only [reduceCtorEq, if_false] at hp ⊢
  by_cases hl : lf = 0
  · rw [if_pos hl] at hp; cases hp
  · rw [if_neg hl] at hp ⊢
    refine ⟨rfl, rfl, ?_⟩
    unfold gd at hg ⊢
    simp only [Bool.and_eq_true, decide_eq_true_eq, List.all_eq_true] at hg ⊢
    obtain ⟨h1, h2, h3, h4⟩ := hg
    refine ⟨by rw [List.length_set]; exact h1, ?_, ?_, ?_⟩
    · intro x hx
      rcases List.mem_or_eq_of_mem_set hx with hx | rfl
      · exact h2 x hx
      · simp [hd]
    · rw [w64 (by omega) (by omega)]; omega
    · split
      · rw [w64 (by omega) (by omega)]; omega
      · exact h4

theorem read_eq {bl : Bls} (h : Bd bl) {wr lf a : Int} (hg : gd bl wr lf = true) (h0 : 0 ≤ a) (h1 : a < bl.length) {x : List Int} (hx : bl[a.toNat]? = some x) : i_ReadBlock bl wr true lf a = some (x, 0) := by
  unfold i_ReadBlock
  refine Ok.eq (Ok.bind_eq (i_good_eq h wr true lf) (Ok.no (by simp [hg]) (Ok.no (by simp) (Ok.bind_eq (has_eq h wr true lf a) (Ok.no (by simp [h0, h1]) (Ok.yes (by simpa using h0) (Ok.bind_eq hx (Ok.bind_eq (clone_eq (h.b x (List.mem_of_getElem? hx))) (Ok.mk rfl)))))))))

theorem disk (code : List Int) (hb : Bytes code) : l_FnDisk code = some true := by
  unfold l_FnDisk
  refine Ok.eq (Ok.ite (fun _ => Ok.mk rfl) fun _ => ?_)
  refine (drawWrite_ok hb).bind ?_
  rintro ⟨a, d, bl, wr, on, lf⟩ ⟨hd, hB, hl⟩
  dsimp only at hd hB hl ⊢
  refine Ok.bind_eq (i_wb_eq hB wr on lf a hd) (Ok.bind_eq (s_wb_eq hB wr on lf a hd) ?_)
  have hBw : Bd (wbR bl wr on lf a d).2.1 := by
    unfold wbR
    split
    · exact ⟨by simp, fun x hx => by cases hx⟩
    · split
      · exact hB
      · split
        · exact hB
        · have : (putR a d bl wr on lf).2.1 = bl ∨ (putR a d bl wr on lf).2.1 = bl.set a.toNat d := by
            unfold putR
            split
            · exact .inl rfl
            · split
              · exact .inl rfl
              · exact .inr rfl
          dsimp only
          rcases this with h | h <;> rw [h]
          · exact hB
          · exact hB.set hd _
  generalize hW : wbR bl wr on lf a d = W at hBw ⊢
  obtain ⟨cd, bl2, wr2, on2, lf2⟩ := W
  dsimp only at hBw ⊢
  refine Ok.bind (Q := fun v => v = (a, d, cd, false, bl, wr, on, lf, bl2, wr2, on2, lf2)) ?_ ?_
  · exact Ok.no (by simp) (Ok.bind_eq (same_self hBw) (Ok.mk rfl))
  rintro _ rfl
  dsimp only
  refine Ok.no (by simp) ?_
  unfold wbR at hW
  split at hW
  · injection hW with e1 e2
    injection e2 with e2 _
    subst e1 e2
    exact Ok.yes (by simp) (Ok.mk (by simp))
  rename_i hbad
  simp only [not_or, Bool.not_eq_false, Decidable.not_not] at hbad
  obtain ⟨hg, hwr, hdl⟩ := hbad
  have quiet : ∀ {k : Int}, k ≠ 1 → k ≠ 0 → cd = k → bl2 = bl → wr2 = wr → Ok (if decide (cd = 1) = true then some (decide (((bl2.length : Nat) : Int) = 0)) else if decide (¬ cd = 0) = true then
      (Option.bind (α := Bool) ((l_sameBlocks bl2 bl).bind fun c6 => if c6 = true then some (decide (wr2 = wr)) else some false) fun v7 => some v7) else
      ((i_ReadBlock bl2 wr2 on2 lf2 a).bind fun c8 => some true)) (fun x => x = true) := by
    rintro k h1 h0 rfl rfl rfl
    refine Ok.no (by simpa using h1) (Ok.yes (by simpa using h0) ?_)
    exact Ok.bind (Q := fun x => x = true) (Ok.bind_eq (same_self hB) (Ok.yes rfl (Ok.mk (by simp)))) (fun x hx => Ok.mk hx)
  have calm : ∀ {k : Int} {R : Option Bool}, k ≠ 1 → k ≠ 0 → cd = k → bl2 = bl → wr2 = wr → Ok (if decide (cd = 1) = true then some (decide (((bl2.length : Nat) : Int) = 0)) else if decide (¬ cd = 0) = true then
      (Option.bind (α := Bool) ((l_sameBlocks bl2 bl).bind fun c6 => if c6 = true then some (decide (wr2 = wr)) else some false) fun v7 => some v7) else R) (fun x => x = true) := by
    rintro k R h1 h0 rfl rfl rfl
    refine Ok.no (by simpa using h1) (Ok.yes (by simpa using h0) ?_)
    exact Ok.bind (Q := fun x => x = true) (Ok.bind_eq (same_self hB) (Ok.yes rfl (Ok.mk (by simp)))) (fun x hx => Ok.mk hx)
  split at hW
  · injection hW with e1 e2
    injection e2 with e2 e3
    injection e3 with e3 _
    exact calm (by omega) (by omega) e1.symm e2.symm e3.symm
  rename_i hon
  have hon' : on = true := by simpa using hon
  subst hon'
  split at hW
  · injection hW with e1 e2
    injection e2 with e2 e3
    injection e3 with e3 _
    exact calm (by omega) (by omega) e1.symm e2.symm e3.symm
  rename_i hin
  obtain ⟨h0, h1⟩ := Decidable.not_not.1 hin
  injection hW with e1 e2
  cases hp : (putR a d bl wr true lf).1 with
  | false =>
    have hlf : lf = 0 := by
      unfold putR at hp
      simp only [reduceCtorEq, if_false] at hp
      by_cases h : lf = 0
      · exact h
      · rw [if_neg h] at hp; cases hp
    rw [hp] at e1
    simp only [Bool.false_eq_true, if_false] at e1
    have e3 : (putR a d bl wr true lf).2 = (bl, wr, false, lf) := by unfold putR; simp [hlf]
    rw [e3] at e2
    injection e2 with e2 e4
    injection e4 with e4 _
    exact calm (k := 2) (by omega) (by omega) e1.symm e2.symm e4.symm
  | true =>
    obtain ⟨p1, p2, p3⟩ := putR_good (a := a) hdl hwr hg hp
    rw [hp] at e1
    simp only [if_true] at e1
    subst e1
    rw [e2] at p1 p2 p3
    dsimp only at p1 p2 p3
    subst p1 p2
    refine Ok.no (by simp) (Ok.no (by simp) ?_)
    have hlen : a.toNat < bl.length := by omega
    have hx : (bl.set a.toNat d)[a.toNat]? = some d := List.getElem?_set_self hlen
    refine Ok.bind_eq (read_eq hBw p3 h0 (by rw [List.length_set]; exact h1) hx) ?_
    refine Ok.bind (Q := fun v => v = (a, false, bl, wr, true, lf, bl.set a.toNat d, wr2, true, lf2)) (Ok.no (by simp) (Ok.mk (by simp))) ?_
    rintro _ rfl
    dsimp only
    have hn := hB.n
    refine Ok.no (by simp) (Ok.bind (Q := fun r => r = .inl ()) ?_ (fun r hr => by subst hr; exact Ok.mk rfl))
    refine Ok.loop (fun y => ∃ k : Nat, k ≤ bl.length ∧ y = (a, ((bl.length : Nat) : Int), ((k : Nat) : Int), bl, wr, true, lf, bl.set a.toNat d, wr2, true, lf2)) (fun y => (((bl.length : Nat) : Int) - y.2.2.1).toNat) ⟨0, by omega, rfl⟩ ?_
    rintro _ ⟨k, hk, rfl⟩
    unfold l_FnDisk_L1
    dsimp only
    refine Ok.ite (fun hc => ?_) fun hc => Ok.mk rfl
    have hlt : k < bl.length := by simpa using hc
    have e9 : IntKind.wrap .i64 (((k : Nat) : Int) + 1) = (((k + 1 : Nat)) : Int) := by rw [w64 (by omega) (by omega)]; omega
    refine Ok.bind (Q := fun v => v = (a, ((bl.length : Nat) : Int), ((k : Nat) : Int), false, bl, wr, true, lf, bl.set a.toNat d, wr2, true, lf2)) ?_ ?_
    · refine Ok.ite (fun hne => ?_) fun _ => Ok.mk rfl
      have hne' : ¬ ((k : Nat) : Int) = a := by simpa using hne
      have hg1 : bl[0 + Int.toNat ((k : Nat) : Int)]? = some bl[k] := by simp [hlt]
      have hg2 : (bl.set a.toNat d)[0 + Int.toNat ((k : Nat) : Int)]? = some bl[k] := by
        rw [Nat.zero_add, Int.toNat_natCast, List.getElem?_set_ne (by omega)]; exact List.getElem?_eq_getElem hlt
      refine Ok.yes (by simp) (Ok.yes (by simpa using hlt) (Ok.bind_eq hg1 (Ok.bind_eq hg1 (Ok.yes (by simp) (Ok.yes (by rw [List.length_set]; simpa using hlt) (Ok.bind_eq hg2 (Ok.bind_eq hg2 (Ok.mk (by simp)))))))))
    rintro _ rfl
    dsimp only
    refine Ok.no (by simp) (Ok.mk ⟨⟨k + 1, by omega, by rw [e9]⟩, ?_⟩)
    dsimp only; rw [e9]; omega
end Go.V.G
namespace Go.Proofs.Ytdicgiljgelkfaa
open Go.V
theorem pure_FnDisk (x0 : List Int) (g0 : Fits (.sl false 5 (.int .u8)) x0) : G.l_FnDisk x0 = some true := G.disk x0 (G.bytes_of g0)
end Go.Proofs.Ytdicgiljgelkfaa
