import Derived.Test.YtdicgiljgelkfaaQA
/-! The pure functions: printed by wip/gen. -/
set_option linter.unusedVariables false
set_option maxRecDepth 100000
namespace Go.V.G
noncomputable section
def l_szPart (x0 : Int) (x1 : Int) (x2 : List UInt8) (x3 : Int) : Option (Int) :=
  if (decide ((IntKind.wrap .i64 (x3 - ((List.length x2 : Nat) : Int)) : Int) < 0)) = true then
    some (-1)
  else
    some (IntKind.wrap .i64 (x3 - ((List.length x2 : Nat) : Int)))

def l_szPartS_L1 (y : (List (Int × (Int × List UInt8)) × (Int × Int))) : Option ((List (Int × (Int × List UInt8)) × (Int × Int)) ⊕ (Int ⊕ Int)) :=
  if (decide ((y.2.2 : Int) < ((List.length y.1 : Nat) : Int))) = true then
    if (decide ((0 : Int) ≤ y.2.2)) = true then
    Option.bind (y.1[Int.toNat y.2.2]?) fun r1 =>
    Option.bind (l_szPart r1.1 r1.2.1 r1.2.2 y.2.1) fun c2 =>
    if (decide ((c2 : Int) < 0)) = true then
      some (.inr (.inr (-1)))
    else
      some (.inl (y.1, c2, IntKind.wrap .i64 (y.2.2 + 1)))
    else none
  else
    some (.inr (.inl y.2.1))
def l_szPartS (x0 : List (Int × (Int × List UInt8))) (x1 : Int) : Option (Int) :=
  if (decide ((IntKind.wrap .i64 (x1 - ((List.length x0 : Nat) : Int)) : Int) < 0)) = true then
    some (-1)
  else
    Option.bind (loopG l_szPartS_L1 (x0, IntKind.wrap .i64 (x1 - ((List.length x0 : Nat) : Int)), 0)) fun v3 =>
    match v3 with
    | .inl y4 =>
      some y4
    | .inr s5 =>
      some s5

def l_szCall (x0 : Int) (x1 : Int) (x2 : List (Int × (Int × List UInt8))) (x3 : Int) : Option (Int) :=
  Option.bind (l_szPartS x2 x3) fun c1 =>
  if (decide ((c1 : Int) < 0)) = true then
    some (-1)
  else
    some c1

def l_toPart (x0 : Int) (x1 : Int) (x2 : List UInt8) : Option ((Int × (Int × List UInt8))) :=
  some (x0, x1, x2)

def l_toPartS_L1 (y : (List (Int × (Int × List UInt8)) × (List (Int × (Int × List UInt8)) × Int))) : Option ((List (Int × (Int × List UInt8)) × (List (Int × (Int × List UInt8)) × Int)) ⊕ (List (Int × (Int × List UInt8)))) :=
  if (decide ((y.2.2 : Int) < ((List.length y.1 : Nat) : Int))) = true then
    if (decide ((0 : Int) ≤ y.2.2)) = true then
    Option.bind (y.1[Int.toNat y.2.2]?) fun r1 =>
    Option.bind (l_toPart r1.1 r1.2.1 r1.2.2) fun c2 =>
    if (decide ((0 : Int) ≤ y.2.2)) = true then
    if (decide ((y.2.2 : Int) < ((List.length y.2.1 : Nat) : Int))) = true then
    Option.bind (y.2.1[0 + Int.toNat y.2.2]?) fun r3 =>
    Option.bind (y.2.1[0 + Int.toNat y.2.2]?) fun r4 =>
    Option.bind ((y.2.1.set (0 + Int.toNat y.2.2) (c2.1, r4.2))[0 + Int.toNat y.2.2]?) fun r5 =>
    Option.bind ((y.2.1.set (0 + Int.toNat y.2.2) (c2.1, r4.2))[0 + Int.toNat y.2.2]?) fun r6 =>
    Option.bind (((y.2.1.set (0 + Int.toNat y.2.2) (c2.1, r4.2)).set (0 + Int.toNat y.2.2) (r6.1, (c2.2.1, r6.2.2)))[0 + Int.toNat y.2.2]?) fun r7 =>
    Option.bind (((y.2.1.set (0 + Int.toNat y.2.2) (c2.1, r4.2)).set (0 + Int.toNat y.2.2) (r6.1, (c2.2.1, r6.2.2)))[0 + Int.toNat y.2.2]?) fun r8 =>
    some (.inl (y.1, ((y.2.1.set (0 + Int.toNat y.2.2) (c2.1, r4.2)).set (0 + Int.toNat y.2.2) (r6.1, (c2.2.1, r6.2.2))).set (0 + Int.toNat y.2.2) (r8.1, (r8.2.1, c2.2.2)), IntKind.wrap .i64 (y.2.2 + 1)))
    else none
    else none
    else none
  else
    some (.inr y.2.1)
def l_toPartS (x0 : List (Int × (Int × List UInt8))) : Option (List (Int × (Int × List UInt8))) :=
  if (decide ((0 : Int) ≤ ((List.length x0 : Nat) : Int))) = true then
  if (decide ((((List.length x0 : Nat) : Int) : Int) ≤ ((List.length x0 : Nat) : Int))) = true then
  if (roomFor (Int.toNat ((List.length x0 : Nat) : Int)) 32) = true then
  Option.bind (loopG l_toPartS_L1 (x0, List.replicate (Int.toNat ((List.length x0 : Nat) : Int)) ((0, (0, [])) : (Int × (Int × List UInt8))), 0)) fun v9 =>
  some v9
  else none
  else none
  else none

def l_toCall (x0 : Int) (x1 : Int) (x2 : List (Int × (Int × List UInt8))) : Option ((Int × (Int × List (Int × (Int × List UInt8))))) :=
  Option.bind (l_toPartS x2) fun c1 =>
  some (x0, x1, c1)

def s_GoodCall (x0 : Int) (x1 : Int) (x2 : List (Int × (Int × List UInt8))) : Option (Bool) :=
  Option.bind (α := Bool) (
      if (decide ((x0 : Int) = 1)) = true then
        some true
      else
      if (decide ((x0 : Int) = 2)) = true then
        some (decide ((((List.length x2 : Nat) : Int) : Int) = 0))
      else
      some false) fun v1 =>
  some v1

def i_GoodCall (x0 : Int) (x1 : Int) (x2 : List (Int × (Int × List UInt8))) : Option (Bool) :=
  Option.bind (α := Bool) (
      if (decide ((x0 : Int) = 1)) = true then
        some true
      else
      if (decide ((x0 : Int) = 2)) = true then
        some (decide ((((List.length x2 : Nat) : Int) : Int) = 0))
      else
      some false) fun v1 =>
  some v1

def l_eqPart (x0 : Int) (x1 : Int) (x2 : List UInt8) (x3 : Int) (x4 : Int) (x5 : List UInt8) : Option (Bool) :=
  if (decide (¬ (x0 : Int) = x3)) = true then
    some false
  else
  if (decide (¬ (x1 : Int) = x4)) = true then
    some false
  else
  if (!((x2 : List UInt8) == x5)) = true then
    some false
  else
    some true

def l_eqPartS_L1 (y : (List (Int × (Int × List UInt8)) × (List (Int × (Int × List UInt8)) × Int))) : Option ((List (Int × (Int × List UInt8)) × (List (Int × (Int × List UInt8)) × Int)) ⊕ (Unit ⊕ Bool)) :=
  if (decide ((y.2.2 : Int) < ((List.length y.1 : Nat) : Int))) = true then
    if (decide ((0 : Int) ≤ y.2.2)) = true then
    Option.bind (y.1[Int.toNat y.2.2]?) fun r1 =>
    if (decide ((0 : Int) ≤ y.2.2)) = true then
    Option.bind (y.2.1[Int.toNat y.2.2]?) fun r2 =>
    Option.bind (l_eqPart r1.1 r1.2.1 r1.2.2 r2.1 r2.2.1 r2.2.2) fun c3 =>
    if (!c3) = true then
      some (.inr (.inr false))
    else
      some (.inl (y.1, y.2.1, IntKind.wrap .i64 (y.2.2 + 1)))
    else none
    else none
  else
    some (.inr (.inl ()))
def l_eqPartS (x0 : List (Int × (Int × List UInt8))) (x1 : List (Int × (Int × List UInt8))) : Option (Bool) :=
  if (decide (¬ (((List.length x0 : Nat) : Int) : Int) = ((List.length x1 : Nat) : Int))) = true then
    some false
  else
    Option.bind (loopG l_eqPartS_L1 (x0, x1, 0)) fun v4 =>
    match v4 with
    | .inl y5 =>
      some true
    | .inr s6 =>
      some s6

def l_eqCall (x0 : Int) (x1 : Int) (x2 : List (Int × (Int × List UInt8))) (x3 : Int) (x4 : Int) (x5 : List (Int × (Int × List UInt8))) : Option (Bool) :=
  if (decide (¬ (x0 : Int) = x3)) = true then
    some false
  else
  if (decide (¬ (x1 : Int) = x4)) = true then
    some false
  else
    Option.bind (l_eqPartS x2 x5) fun c1 =>
    if (!c1) = true then
      some false
    else
      some true

def l_FnExactGoodCall (x0 : Int) (x1 : Int) (x2 : List (Int × (Int × List UInt8))) : Option (Bool) :=
  Option.bind (l_szCall x0 x1 x2 1048576) fun c1 =>
  if (decide ((c1 : Int) < 0)) = true then
    some true
  else
    Option.bind (l_toCall x0 x1 x2) fun c2 =>
    Option.bind (s_GoodCall c2.1 c2.2.1 c2.2.2) fun c3 =>
    Option.bind (l_toCall x0 x1 x2) fun c4 =>
    Option.bind (i_GoodCall c4.1 c4.2.1 c4.2.2) fun c5 =>
    if (c5 != c3) = true then
      some false
    else
      Option.bind (l_toCall x0 x1 x2) fun c6 =>
      Option.bind (l_eqCall c4.1 c4.2.1 c4.2.2 c6.1 c6.2.1 c6.2.2) fun c7 =>
      if (!c7) = true then
        some false
      else
        some true

def s_l1Cur_next_f (x0 : List Int) (x1 : Int) (x2 : Int) : Option ((Int × (List Int × (Int × Int)))) :=
  Option.bind (α := (Int × (List Int × (Int × Int)))) (
      if (decide ((x1 : Int) < ((List.length x0 : Nat) : Int))) = true then
        if (decide ((0 : Int) ≤ x1)) = true then
        Option.bind (x0[Int.toNat x1]?) fun r1 =>
        some (IntKind.wrap .i64 r1, x0, x1, x2)
        else none
      else
        some (0, x0, x1, x2)) fun v2 =>
  if (decide ((IntKind.wrap .i64 (v2.2.2.1 + 1) : Int) ≤ ((List.length v2.2.1 : Nat) : Int))) = true then
    some (v2.1, v2.2.1, IntKind.wrap .i64 (v2.2.2.1 + 1), IntKind.wrap .u64 ((IntKind.wrap .u64 ((IntKind.wrap .u64 (v2.2.2.2 * 6364136223846793005)) + (IntKind.wrap .u64 v2.1))) + 1442695040888963407))
  else
  if (decide ((0 : Int) ≤ 40)) = true then
  some (IntKind.wrap .i64 (IntKind.wrap .u64 (((BitVec.ofInt (IntKind.bits .u64) (Int.fdiv (IntKind.wrap .u64 ((IntKind.wrap .u64 ((IntKind.wrap .u64 (v2.2.2.2 * 6364136223846793005)) + (IntKind.wrap .u64 v2.1))) + 1442695040888963407)) (2 ^ (min (Int.toNat 40) (IntKind.bits .u64)))) &&& BitVec.ofInt (IntKind.bits .u64) 255).toNat : Int))), v2.2.1, IntKind.wrap .i64 (v2.2.2.1 + 1), IntKind.wrap .u64 ((IntKind.wrap .u64 ((IntKind.wrap .u64 (v2.2.2.2 * 6364136223846793005)) + (IntKind.wrap .u64 v2.1))) + 1442695040888963407))
  else none

def s_l1Cur_pick_f (x0 : Int) (x1 : List Int) (x2 : Int) (x3 : Int) : Option ((Int × (List Int × (Int × Int)))) :=
  if (decide ((x0 : Int) ≤ 1)) = true then
    some (0, x1, x2, x3)
  else
    Option.bind (s_l1Cur_next_f x1 x2 x3) fun c1 =>
    Option.bind (α := (Int × (Int × (List Int × (Int × Int))))) (
        if (decide ((200 : Int) < x0)) = true then
          Option.bind (s_l1Cur_next_f c1.2.1 c1.2.2.1 c1.2.2.2) fun c2 =>
          some (x0, IntKind.wrap .i64 ((IntKind.wrap .i64 (c1.1 * 256)) + c2.1), c2.2.1, c2.2.2.1, c2.2.2.2)
        else
          some (x0, c1.1, c1.2.1, c1.2.2.1, c1.2.2.2)) fun v3 =>
    if (decide (¬ (v3.1 : Int) = 0)) = true then
    some (Int.tmod v3.2.1 v3.1, v3.2.2.1, v3.2.2.2.1, v3.2.2.2.2)
    else none

def s_l1In (x0 : Int) (x1 : Int) (x2 : Int) : Option (Bool) :=
  Option.bind (α := Bool) (
      if (decide ((x1 : Int) ≤ x0)) = true then
        some (decide ((x0 : Int) ≤ x2))
      else
      some false) fun v1 =>
  some v1

def s_NewDisk_L1 (y : (Int × (Int × (Bool × (Int × (List (List Int) × (Int × (Bool × Int)))))))) : Option ((Int × (Int × (Bool × (Int × (List (List Int) × (Int × (Bool × Int))))))) ⊕ (Int × (Bool × (Int × (List (List Int) × (Int × (Bool × Int))))))) :=
  if (decide ((0 : Int) < y.1)) = true then
    if (decide ((0 : Int) ≤ 128)) = true then
    if (decide ((128 : Int) ≤ 128)) = true then
    if (roomFor (Int.toNat 128) 1) = true then
    if (roomFor (List.length y.2.2.2.2.1 + List.length ([List.replicate (Int.toNat 128) (0 : Int)] : List (List Int))) 24) = true then
    some (.inl (IntKind.wrap .i64 (y.1 - 1), y.2.1, y.2.2.1, y.2.2.2.1, y.2.2.2.2.1 ++ ([List.replicate (Int.toNat 128) (0 : Int)] : List (List Int)), y.2.2.2.2.2.1, y.2.2.2.2.2.2.1, y.2.2.2.2.2.2.2))
    else none
    else none
    else none
    else none
  else
    some (.inr (y.2.1, y.2.2.1, y.2.2.2.1, y.2.2.2.2.1, y.2.2.2.2.2.1, y.2.2.2.2.2.2.1, y.2.2.2.2.2.2.2))
def s_NewDisk (x0 : Int) : Option ((Bool × (List (List Int) × (Int × (Bool × Int))))) :=
  Option.bind (s_l1In x0 40 160) fun c1 =>
  if (!c1) = true then
    some (false, [], 0, false, 0)
  else
    Option.bind (loopG s_NewDisk_L1 (x0, 0, false, 0, [], 0, true, (-1))) fun v2 =>
    some (true, v2.2.2.2.1, v2.2.2.2.2.1, v2.2.2.2.2.2.1, v2.2.2.2.2.2.2)

def s_l1Cur_block_f_L1 (y : (List Int × (Int × (List Int × (Int × Int))))) : Option ((List Int × (Int × (List Int × (Int × Int)))) ⊕ (List Int × (List Int × (Int × Int)))) :=
  if (decide ((0 : Int) < y.2.1)) = true then
    Option.bind (s_l1Cur_pick_f 128 y.2.2.1 y.2.2.2.1 y.2.2.2.2) fun c2 =>
    Option.bind (s_l1Cur_next_f c2.2.1 c2.2.2.1 c2.2.2.2) fun c3 =>
    if (decide ((0 : Int) ≤ c2.1)) = true then
    if (decide ((c2.1 : Int) < ((List.length y.1 : Nat) : Int))) = true then
    Option.bind (y.1[0 + Int.toNat c2.1]?) fun r4 =>
    Option.bind (y.1[0 + Int.toNat c2.1]?) fun r5 =>
    some (.inl (y.1.set (0 + Int.toNat c2.1) (IntKind.wrap .u8 c3.1), IntKind.wrap .i64 (y.2.1 - 1), c3.2.1, c3.2.2.1, c3.2.2.2))
    else none
    else none
  else
    some (.inr (y.1, y.2.2.1, y.2.2.2.1, y.2.2.2.2))
def s_l1Cur_block_f (x0 : List Int) (x1 : Int) (x2 : Int) : Option ((List Int × (List Int × (Int × Int)))) :=
  if (decide ((0 : Int) ≤ 128)) = true then
  if (decide ((128 : Int) ≤ 128)) = true then
  if (roomFor (Int.toNat 128) 1) = true then
  Option.bind (s_l1Cur_pick_f 5 x0 x1 x2) fun c1 =>
  Option.bind (loopG s_l1Cur_block_f_L1 (List.replicate (Int.toNat 128) (0 : Int), c1.1, c1.2.1, c1.2.2.1, c1.2.2.2)) fun v6 =>
  some (v6.1, v6.2.1, v6.2.2.1, v6.2.2.2)
  else none
  else none
  else none

def s_l2Put_o (x0 : Int) (x1 : List Int) (x2 : List (List Int)) (x3 : Int) (x4 : Bool) (x5 : Int) : Option ((Bool × (List (List Int) × (Int × (Bool × Int))))) :=
  if (!x4) = true then
    some (false, x2, x3, x4, x5)
  else
  if (decide ((x5 : Int) = 0)) = true then
    some (false, x2, x3, false, x5)
  else
    Option.bind (α := (Int × (List Int × (List (List Int) × (Int × (Bool × Int)))))) (
        if (decide ((0 : Int) < x5)) = true then
          some (x0, x1, x2, x3, x4, IntKind.wrap .i64 (x5 - 1))
        else
          some (x0, x1, x2, x3, x4, x5)) fun v1 =>
    if (roomFor (List.length ([] : List Int) + List.length v1.2.1) 1) = true then
    if (decide ((0 : Int) ≤ v1.1)) = true then
    if (decide ((v1.1 : Int) < ((List.length v1.2.2.1 : Nat) : Int))) = true then
    Option.bind (v1.2.2.1[0 + Int.toNat v1.1]?) fun r2 =>
    Option.bind (v1.2.2.1[0 + Int.toNat v1.1]?) fun r3 =>
    some (true, v1.2.2.1.set (0 + Int.toNat v1.1) (([] : List Int) ++ v1.2.1), IntKind.wrap .i64 (v1.2.2.2.1 + 1), v1.2.2.2.2.1, v1.2.2.2.2.2)
    else none
    else none
    else none

def s_l1Cur_one_f (x0 : Int) (x1 : List Int) (x2 : Int) (x3 : Int) : Option ((Bool × (List Int × (Int × Int)))) :=
  Option.bind (s_l1Cur_pick_f x0 x1 x2 x3) fun c1 =>
  some (decide ((c1.1 : Int) = 0), c1.2.1, c1.2.2.1, c1.2.2.2)

def s_l1Cur_among_f (x0 : List Int) (x1 : List Int) (x2 : Int) (x3 : Int) : Option ((Int × (List Int × (Int × Int)))) :=
  Option.bind (s_l1Cur_pick_f ((List.length x0 : Nat) : Int) x1 x2 x3) fun c1 =>
  if (decide ((0 : Int) ≤ c1.1)) = true then
  if (decide ((c1.1 : Int) < ((List.length x0 : Nat) : Int))) = true then
  Option.bind (x0[0 + Int.toNat c1.1]?) fun r2 =>
  some (r2, c1.2.1, c1.2.2.1, c1.2.2.2)
  else none
  else none

def s_l1Cur_disk_f_L1 (y : (Int × (Int × (Bool × (Int × (List (List Int) × (Int × (Bool × (Int × (List Int × (Int × Int))))))))))) : Option ((Int × (Int × (Bool × (Int × (List (List Int) × (Int × (Bool × (Int × (List Int × (Int × Int)))))))))) ⊕ (Int × (Bool × (Int × (List (List Int) × (Int × (Bool × (Int × (List Int × (Int × Int)))))))))) :=
  if (decide ((0 : Int) < y.1)) = true then
    Option.bind (s_l1Cur_pick_f ((List.length y.2.2.2.2.1 : Nat) : Int) y.2.2.2.2.2.2.2.2.1 y.2.2.2.2.2.2.2.2.2.1 y.2.2.2.2.2.2.2.2.2.2) fun c4 =>
    Option.bind (s_l1Cur_block_f c4.2.1 c4.2.2.1 c4.2.2.2) fun c5 =>
    Option.bind (s_l2Put_o c4.1 c5.1 y.2.2.2.2.1 y.2.2.2.2.2.1 y.2.2.2.2.2.2.1 y.2.2.2.2.2.2.2.1) fun c6 =>
    some (.inl (IntKind.wrap .i64 (y.1 - 1), y.2.1, y.2.2.1, y.2.2.2.1, c6.2.1, c6.2.2.1, c6.2.2.2.1, c6.2.2.2.2, c5.2.1, c5.2.2.1, c5.2.2.2))
  else
    some (.inr (y.2.1, y.2.2.1, y.2.2.2.1, y.2.2.2.2.1, y.2.2.2.2.2.1, y.2.2.2.2.2.2.1, y.2.2.2.2.2.2.2.1, y.2.2.2.2.2.2.2.2.1, y.2.2.2.2.2.2.2.2.2.1, y.2.2.2.2.2.2.2.2.2.2))
def s_l1Cur_disk_f (x0 : List Int) (x1 : Int) (x2 : Int) : Option ((List (List Int) × (Int × (Bool × (Int × (List Int × (Int × Int))))))) :=
  Option.bind (s_l1Cur_pick_f 4 x0 x1 x2) fun c1 =>
  Option.bind (s_NewDisk (IntKind.wrap .i64 (40 + c1.1))) fun c2 =>
  Option.bind (s_l1Cur_pick_f 4 c1.2.1 c1.2.2.1 c1.2.2.2) fun c3 =>
  Option.bind (loopG s_l1Cur_disk_f_L1 (c3.1, 0, false, 0, c2.2.1, c2.2.2.1, c2.2.2.2.1, c2.2.2.2.2, c3.2.1, c3.2.2.1, c3.2.2.2)) fun v7 =>
  Option.bind (s_l1Cur_one_f 4 v7.2.2.2.2.2.2.2.1 v7.2.2.2.2.2.2.2.2.1 v7.2.2.2.2.2.2.2.2.2) fun c8 =>
  Option.bind (α := (Int × (Bool × (Int × (List (List Int) × (Int × (Bool × (Int × (List Int × (Int × Int)))))))))) (
      if c8.1 = true then
        Option.bind (s_l1Cur_pick_f 3 c8.2.1 c8.2.2.1 c8.2.2.2) fun c9 =>
        some (v7.1, v7.2.1, v7.2.2.1, v7.2.2.2.1, v7.2.2.2.2.1, v7.2.2.2.2.2.1, c9.1, c9.2.1, c9.2.2.1, c9.2.2.2)
      else
        some (v7.1, v7.2.1, v7.2.2.1, v7.2.2.2.1, v7.2.2.2.2.1, v7.2.2.2.2.2.1, v7.2.2.2.2.2.2.1, c8.2.1, c8.2.2.1, c8.2.2.2)) fun v10 =>
  Option.bind (s_l1Cur_pick_f 24 v10.2.2.2.2.2.2.2.1 v10.2.2.2.2.2.2.2.2.1 v10.2.2.2.2.2.2.2.2.2) fun c11 =>
  Option.bind (α := (Int × (Bool × (Int × (List (List Int) × (Int × (Bool × (Int × (List Int × (Int × Int)))))))))) (
      if (decide ((c11.1 : Int) = 0)) = true then
        some (v10.1, v10.2.1, v10.2.2.1, v10.2.2.2.1, v10.2.2.2.2.1, false, v10.2.2.2.2.2.2.1, c11.2.1, c11.2.2.1, c11.2.2.2)
      else
        Option.bind (α := (Int × (Bool × (Int × (List (List Int) × (Int × (Bool × (Int × (List Int × (Int × Int)))))))))) (
            if (decide ((c11.1 : Int) = 1)) = true then
              Option.bind (s_l1Cur_among_f [(-1), 1000000000, 1000000001] c11.2.1 c11.2.2.1 c11.2.2.2) fun c12 =>
              some (v10.1, v10.2.1, v10.2.2.1, v10.2.2.2.1, c12.1, v10.2.2.2.2.2.1, v10.2.2.2.2.2.2.1, c12.2.1, c12.2.2.1, c12.2.2.2)
            else
              Option.bind (α := (Int × (Bool × (Int × (List (List Int) × (Int × (Bool × (Int × (List Int × (Int × Int)))))))))) (
                  if (decide ((c11.1 : Int) = 2)) = true then
                    Option.bind (s_l1Cur_among_f [(-2), 1000000, 1000001] c11.2.1 c11.2.2.1 c11.2.2.2) fun c13 =>
                    some (v10.1, v10.2.1, v10.2.2.1, v10.2.2.2.1, v10.2.2.2.2.1, v10.2.2.2.2.2.1, c13.1, c13.2.1, c13.2.2.1, c13.2.2.2)
                  else
                    Option.bind (α := (Int × (Bool × (Int × (List (List Int) × (Int × (Bool × (Int × (List Int × (Int × Int)))))))))) (
                        if (decide ((c11.1 : Int) = 3)) = true then
                          if (decide ((0 : Int) ≤ 3)) = true then
                          if (decide ((3 : Int) < ((List.length v10.2.2.2.1 : Nat) : Int))) = true then
                          Option.bind (v10.2.2.2.1[0 + Int.toNat 3]?) fun r14 =>
                          Option.bind (v10.2.2.2.1[0 + Int.toNat 3]?) fun r15 =>
                          if (decide ((0 : Int) ≤ 0)) = true then
                          if (decide ((0 : Int) ≤ 127)) = true then
                          if (decide ((127 : Int) ≤ ((List.length r15 : Nat) : Int))) = true then
                          if (decide ((((List.length r15 : Nat) : Int) : Int) ≤ ((List.length r15 : Nat) : Int))) = true then
                          if (decide ((0 : Int) ≤ 3)) = true then
                          if (decide ((3 : Int) < ((List.length v10.2.2.2.1 : Nat) : Int))) = true then
                          Option.bind (v10.2.2.2.1[0 + Int.toNat 3]?) fun r16 =>
                          Option.bind (v10.2.2.2.1[0 + Int.toNat 3]?) fun r17 =>
                          some (v10.1, v10.2.1, v10.2.2.1, v10.2.2.2.1.set (0 + Int.toNat 3) ((r16.drop (Int.toNat 0)).take (Int.toNat 127 - Int.toNat 0)), v10.2.2.2.2.1, v10.2.2.2.2.2.1, v10.2.2.2.2.2.2.1, c11.2.1, c11.2.2.1, c11.2.2.2)
                          else none
                          else none
                          else none
                          else none
                          else none
                          else none
                          else none
                          else none
                        else
                          Option.bind (α := (Int × (Bool × (Int × (List (List Int) × (Int × (Bool × (Int × (List Int × (Int × Int)))))))))) (
                              if (decide ((c11.1 : Int) = 4)) = true then
                                if (decide ((0 : Int) ≤ 0)) = true then
                                if (decide ((0 : Int) ≤ 39)) = true then
                                if (decide ((39 : Int) ≤ ((List.length v10.2.2.2.1 : Nat) : Int))) = true then
                                if (decide ((((List.length v10.2.2.2.1 : Nat) : Int) : Int) ≤ ((List.length v10.2.2.2.1 : Nat) : Int))) = true then
                                some (v10.1, v10.2.1, v10.2.2.1, (v10.2.2.2.1.drop (Int.toNat 0)).take (Int.toNat 39 - Int.toNat 0), v10.2.2.2.2.1, v10.2.2.2.2.2.1, v10.2.2.2.2.2.2.1, c11.2.1, c11.2.2.1, c11.2.2.2)
                                else none
                                else none
                                else none
                                else none
                              else
                                some (v10.1, v10.2.1, v10.2.2.1, v10.2.2.2.1, v10.2.2.2.2.1, v10.2.2.2.2.2.1, v10.2.2.2.2.2.2.1, c11.2.1, c11.2.2.1, c11.2.2.2)) fun v18 =>
                          some (v18.1, v18.2.1, v18.2.2.1, v18.2.2.2.1, v18.2.2.2.2.1, v18.2.2.2.2.2.1, v18.2.2.2.2.2.2.1, v18.2.2.2.2.2.2.2.1, v18.2.2.2.2.2.2.2.2.1, v18.2.2.2.2.2.2.2.2.2)) fun v19 =>
                    some (v19.1, v19.2.1, v19.2.2.1, v19.2.2.2.1, v19.2.2.2.2.1, v19.2.2.2.2.2.1, v19.2.2.2.2.2.2.1, v19.2.2.2.2.2.2.2.1, v19.2.2.2.2.2.2.2.2.1, v19.2.2.2.2.2.2.2.2.2)) fun v20 =>
              some (v20.1, v20.2.1, v20.2.2.1, v20.2.2.2.1, v20.2.2.2.2.1, v20.2.2.2.2.2.1, v20.2.2.2.2.2.2.1, v20.2.2.2.2.2.2.2.1, v20.2.2.2.2.2.2.2.2.1, v20.2.2.2.2.2.2.2.2.2)) fun v21 =>
        some (v21.1, v21.2.1, v21.2.2.1, v21.2.2.2.1, v21.2.2.2.2.1, v21.2.2.2.2.2.1, v21.2.2.2.2.2.2.1, v21.2.2.2.2.2.2.2.1, v21.2.2.2.2.2.2.2.2.1, v21.2.2.2.2.2.2.2.2.2)) fun v22 =>
  some (v22.2.2.2.1, v22.2.2.2.2.1, v22.2.2.2.2.2.1, v22.2.2.2.2.2.2.1, v22.2.2.2.2.2.2.2.1, v22.2.2.2.2.2.2.2.2.1, v22.2.2.2.2.2.2.2.2.2)

def s_l1Cur_place_f (x0 : List (List Int)) (x1 : Int) (x2 : Bool) (x3 : Int) (x4 : List Int) (x5 : Int) (x6 : Int) : Option ((Int × (List Int × (Int × Int)))) :=
  Option.bind (s_l1Cur_one_f 12 x4 x5 x6) fun c1 =>
  if c1.1 = true then
    Option.bind (s_l1Cur_among_f [(-1), ((List.length x0 : Nat) : Int), 9223372036854775807] c1.2.1 c1.2.2.1 c1.2.2.2) fun c2 =>
    some (c2.1, c2.2.1, c2.2.2.1, c2.2.2.2)
  else
    Option.bind (s_l1Cur_pick_f ((List.length x0 : Nat) : Int) c1.2.1 c1.2.2.1 c1.2.2.2) fun c3 =>
    some (c3.1, c3.2.1, c3.2.2.1, c3.2.2.2)

def s_l1Cur_place_l_f (x0 : List (List Int)) (x1 : Int) (x2 : Bool) (x3 : Int) (x4 : List Int) (x5 : Int) (x6 : Int) : Option ((List (List Int) × (Int × (Bool × (Int × (Int × (List Int × (Int × Int)))))))) :=
  Option.bind (s_l1Cur_one_f 12 x4 x5 x6) fun c1 =>
  if c1.1 = true then
    Option.bind (s_l1Cur_among_f [(-1), ((List.length x0 : Nat) : Int), 9223372036854775807] c1.2.1 c1.2.2.1 c1.2.2.2) fun c2 =>
    some (x0, x1, x2, x3, c2.1, c2.2.1, c2.2.2.1, c2.2.2.2)
  else
    Option.bind (s_l1Cur_pick_f ((List.length x0 : Nat) : Int) c1.2.1 c1.2.2.1 c1.2.2.2) fun c3 =>
    some (x0, x1, x2, x3, c3.1, c3.2.1, c3.2.2.1, c3.2.2.2)

def s_DrawWriteBlock (x0 : List Int) : Option ((Int × (List Int × (List (List Int) × (Int × (Bool × Int)))))) :=
  Option.bind (s_l1Cur_disk_f x0 0 0) fun c1 =>
  Option.bind (s_l1Cur_block_f c1.2.2.2.2.1 c1.2.2.2.2.2.1 c1.2.2.2.2.2.2) fun c2 =>
  Option.bind (s_l1Cur_one_f 20 c2.2.1 c2.2.2.1 c2.2.2.2) fun c3 =>
  Option.bind (α := (List Int × (Int × (Bool × (Int × (List (List Int) × (Int × (Bool × (Int × (List Int × (Int × Int))))))))))) (
      if c3.1 = true then
        if (decide ((0 : Int) ≤ 0)) = true then
        if (decide ((0 : Int) ≤ 127)) = true then
        if (decide ((127 : Int) ≤ ((List.length c2.1 : Nat) : Int))) = true then
        if (decide ((((List.length c2.1 : Nat) : Int) : Int) ≤ ((List.length c2.1 : Nat) : Int))) = true then
        some ((c2.1.drop (Int.toNat 0)).take (Int.toNat 127 - Int.toNat 0), 0, false, 0, c1.1, c1.2.1, c1.2.2.1, c1.2.2.2.1, c3.2.1, c3.2.2.1, c3.2.2.2)
        else none
        else none
        else none
        else none
      else
        some (c2.1, 0, false, 0, c1.1, c1.2.1, c1.2.2.1, c1.2.2.2.1, c3.2.1, c3.2.2.1, c3.2.2.2)) fun v4 =>
  Option.bind (s_l1Cur_place_l_f v4.2.2.2.2.1 v4.2.2.2.2.2.1 v4.2.2.2.2.2.2.1 v4.2.2.2.2.2.2.2.1 v4.2.2.2.2.2.2.2.2.1 v4.2.2.2.2.2.2.2.2.2.1 v4.2.2.2.2.2.2.2.2.2.2) fun c5 =>
  some (c5.2.2.2.2.1, v4.1, c5.1, v4.2.2.2.2.2.1, v4.2.2.2.2.2.2.1, v4.2.2.2.2.2.2.2.1)

def i_within (x0 : Int) (x1 : Int) (x2 : Int) : Option (Bool) :=
  Option.bind (α := Bool) (
      if (decide ((x1 : Int) ≤ x0)) = true then
        some (decide ((x0 : Int) ≤ x2))
      else
      some false) fun v1 =>
  some v1

def i_areBlocks_1 (x0 : List Int) : Option (Bool) :=
  some (decide (¬ (((List.length x0 : Nat) : Int) : Int) = 128))

def slices_IndexFunc_byte_byte_i_areBlocks_1_L1 (y : (List (List Int) × (Int × Int))) : Option ((List (List Int) × (Int × Int)) ⊕ (Unit ⊕ Int)) :=
  if (decide ((y.2.2 : Int) < y.2.1)) = true then
    if (decide ((0 : Int) ≤ y.2.2)) = true then
    Option.bind (y.1[Int.toNat y.2.2]?) fun r1 =>
    Option.bind (i_areBlocks_1 r1) fun c2 =>
    if c2 = true then
      some (.inr (.inr y.2.2))
    else
      some (.inl (y.1, y.2.1, IntKind.wrap .i64 (y.2.2 + 1)))
    else none
  else
    some (.inr (.inl ()))
def slices_IndexFunc_byte_byte_i_areBlocks_1 (x0 : List (List Int)) : Option (Int) :=
  Option.bind (loopG slices_IndexFunc_byte_byte_i_areBlocks_1_L1 (x0, ((List.length x0 : Nat) : Int), 0)) fun v3 =>
  match v3 with
  | .inl y4 =>
    some (-1)
  | .inr s5 =>
    some s5

def slices_ContainsFunc_byte_byte_i_areBlocks_1 (x0 : List (List Int)) : Option (Bool) :=
  Option.bind (slices_IndexFunc_byte_byte_i_areBlocks_1 x0) fun c1 =>
  some (decide ((0 : Int) ≤ c1))

def i_areBlocks (x0 : List (List Int)) : Option (Bool) :=
  Option.bind (α := Bool) (
      Option.bind (i_within ((List.length x0 : Nat) : Int) 40 160) fun c1 =>
      if c1 = true then
        Option.bind (slices_ContainsFunc_byte_byte_i_areBlocks_1 x0) fun c2 =>
        some (!c2)
      else
      some false) fun v3 =>
  some v3

def i_GoodDisk (x0 : List (List Int)) (x1 : Int) (x2 : Bool) (x3 : Int) : Option (Bool) :=
  Option.bind (α := Bool) (
      Option.bind (i_areBlocks x0) fun c1 =>
      if c1 = true then
        Option.bind (i_within x1 0 1000000000) fun c2 =>
        if c2 = true then
          Option.bind (i_within x3 (-1) 1000000) fun c3 =>
          some c3
        else
        some false
      else
      some false) fun v4 =>
  some v4

def slices_Clone_byte_byte (x0 : List Int) : Option (List Int) :=
  Option.bind (α := List Int ⊕ Unit) (bothQ (List.isEmpty x0) (
      some (.inr ())) (
      some (.inl x0))) fun v1 =>
  match v1 with
  | .inl y2 =>
    if (roomFor (List.length ([] : List Int) + List.length y2) 1) = true then
    some (([] : List Int) ++ y2)
    else none
  | .inr s3 =>
    some []

def i_copyBlocks_L1 (y : (List (List Int) × (List (List Int) × (Int × Int)))) : Option ((List (List Int) × (List (List Int) × (Int × Int))) ⊕ (List (List Int))) :=
  if (decide ((y.2.2.2 : Int) < y.2.2.1)) = true then
    if (decide ((0 : Int) ≤ y.2.2.2)) = true then
    Option.bind (y.2.1[Int.toNat y.2.2.2]?) fun r1 =>
    Option.bind (slices_Clone_byte_byte r1) fun c2 =>
    if (roomFor (List.length y.1 + List.length ([c2] : List (List Int))) 24) = true then
    some (.inl (y.1 ++ ([c2] : List (List Int)), y.2.1, y.2.2.1, IntKind.wrap .i64 (y.2.2.2 + 1)))
    else none
    else none
  else
    some (.inr y.1)
def i_copyBlocks (x0 : List (List Int)) : Option (List (List Int)) :=
  Option.bind (loopG i_copyBlocks_L1 ([], x0, ((List.length x0 : Nat) : Int), 0)) fun v3 =>
  some v3

def i_Disk_copied (x0 : List (List Int)) (x1 : Int) (x2 : Bool) (x3 : Int) : Option ((List (List Int) × (Int × (Bool × Int)))) :=
  Option.bind (i_copyBlocks x0) fun c1 =>
  some (c1, x1, x2, x3)

def i_Disk_has (x0 : List (List Int)) (x1 : Int) (x2 : Bool) (x3 : Int) (x4 : Int) : Option (Bool) :=
  Option.bind (i_within x4 0 (IntKind.wrap .i64 (((List.length x0 : Nat) : Int) - 1))) fun c1 =>
  some c1

def i_Disk_write_o (x0 : Int) (x1 : List Int) (x2 : List (List Int)) (x3 : Int) (x4 : Bool) (x5 : Int) : Option ((Bool × (List (List Int) × (Int × (Bool × Int))))) :=
  if (decide ((x5 : Int) = 0)) = true then
    some (false, x2, x3, false, x5)
  else
    Option.bind (slices_Clone_byte_byte x1) fun c1 =>
    if (decide ((0 : Int) ≤ x0)) = true then
    if (decide ((x0 : Int) < ((List.length x2 : Nat) : Int))) = true then
    Option.bind (x2[0 + Int.toNat x0]?) fun r2 =>
    Option.bind (x2[0 + Int.toNat x0]?) fun r3 =>
    Option.bind (α := (List (List Int) × (Int × (Bool × Int)))) (
        if (decide ((0 : Int) < x5)) = true then
          some (x2.set (0 + Int.toNat x0) c1, IntKind.wrap .i64 (x3 + 1), x4, IntKind.wrap .i64 (x5 - 1))
        else
          some (x2.set (0 + Int.toNat x0) c1, IntKind.wrap .i64 (x3 + 1), x4, x5)) fun v4 =>
    some (true, v4.1, v4.2.1, v4.2.2.1, v4.2.2.2)
    else none
    else none

def i_WriteBlock (x0 : List (List Int)) (x1 : Int) (x2 : Bool) (x3 : Int) (x4 : Int) (x5 : List Int) : Option ((Int × (List (List Int) × (Int × (Bool × Int))))) :=
  Option.bind (α := (Int × (List Int × (Bool × (List (List Int) × (Int × (Bool × (Int × (Int × (Bool × Int)))))))))) (
      Option.bind (i_GoodDisk x0 x1 x2 x3) fun c1 =>
      if (!c1) = true then
        some (x4, x5, true, x0, x1, x2, x3, 0, false, 0)
      else
      if (decide ((x1 : Int) = 1000000000)) = true then
        some (x4, x5, true, x0, x1, x2, x3, 0, false, 0)
      else
      some (x4, x5, decide (¬ (((List.length x5 : Nat) : Int) : Int) = 128), x0, x1, x2, x3, 0, false, 0)) fun v2 =>
  if v2.2.2.1 = true then
    some (1, [], 0, false, 0)
  else
  if (!v2.2.2.2.2.2.1) = true then
    Option.bind (i_Disk_copied v2.2.2.2.1 v2.2.2.2.2.1 v2.2.2.2.2.2.1 v2.2.2.2.2.2.2.1) fun c3 =>
    some (2, c3.1, c3.2.1, c3.2.2.1, c3.2.2.2)
  else
    Option.bind (i_Disk_has v2.2.2.2.1 v2.2.2.2.2.1 v2.2.2.2.2.2.1 v2.2.2.2.2.2.2.1 v2.1) fun c4 =>
    if (!c4) = true then
      Option.bind (i_Disk_copied v2.2.2.2.1 v2.2.2.2.2.1 v2.2.2.2.2.2.1 v2.2.2.2.2.2.2.1) fun c5 =>
      some (3, c5.1, c5.2.1, c5.2.2.1, c5.2.2.2)
    else
      Option.bind (i_Disk_copied v2.2.2.2.1 v2.2.2.2.2.1 v2.2.2.2.2.2.1 v2.2.2.2.2.2.2.1) fun c6 =>
      Option.bind (i_Disk_write_o v2.1 v2.2.1 c6.1 c6.2.1 c6.2.2.1 c6.2.2.2) fun c7 =>
      if (!c7.1) = true then
        some (2, c7.2.1, c7.2.2.1, c7.2.2.2.1, c7.2.2.2.2)
      else
        some (0, c7.2.1, c7.2.2.1, c7.2.2.2.1, c7.2.2.2.2)

def s_GoodDisk_L1 (y : (List (List Int) × (Int × Int))) : Option ((List (List Int) × (Int × Int)) ⊕ (Unit ⊕ Bool)) :=
  if (decide ((y.2.2 : Int) < y.2.1)) = true then
    if (decide ((0 : Int) ≤ y.2.2)) = true then
    Option.bind (y.1[Int.toNat y.2.2]?) fun r5 =>
    if (decide (¬ (((List.length r5 : Nat) : Int) : Int) = 128)) = true then
      some (.inr (.inr false))
    else
      some (.inl (y.1, y.2.1, IntKind.wrap .i64 (y.2.2 + 1)))
    else none
  else
    some (.inr (.inl ()))
def s_GoodDisk (x0 : List (List Int)) (x1 : Int) (x2 : Bool) (x3 : Int) : Option (Bool) :=
  Option.bind (α := (Bool × (List (List Int) × (Int × (Bool × Int))))) (
      Option.bind (s_l1In ((List.length x0 : Nat) : Int) 40 160) fun c1 =>
      if (!c1) = true then
        some (true, x0, x1, x2, x3)
      else
        Option.bind (s_l1In x1 0 1000000000) fun c2 =>
        if (!c2) = true then
          some (true, x0, x1, x2, x3)
        else
          Option.bind (s_l1In x3 (-1) 1000000) fun c3 =>
          some ((!c3), x0, x1, x2, x3)) fun v4 =>
  if v4.1 = true then
    some false
  else
    Option.bind (loopG s_GoodDisk_L1 (v4.2.1, ((List.length v4.2.1 : Nat) : Int), 0)) fun v6 =>
    match v6 with
    | .inl y7 =>
      some true
    | .inr s8 =>
      some s8

def s_l2Own_L1 (y : (List (List Int) × (List (List Int) × (Int × (Int × (List (List Int) × (Int × (Bool × (Int × (Int × (Bool × Int))))))))))) : Option ((List (List Int) × (List (List Int) × (Int × (Int × (List (List Int) × (Int × (Bool × (Int × (Int × (Bool × Int)))))))))) ⊕ (List (List Int) × (List (List Int) × (Int × (Bool × (Int × (Int × (Bool × Int)))))))) :=
  if (decide ((y.2.2.2.1 : Int) < y.2.2.1)) = true then
    if (decide ((0 : Int) ≤ y.2.2.2.1)) = true then
    Option.bind (y.2.1[Int.toNat y.2.2.2.1]?) fun r2 =>
    if (roomFor (List.length ([] : List Int) + List.length r2) 1) = true then
    if (roomFor (List.length y.1 + List.length ([([] : List Int) ++ r2] : List (List Int))) 24) = true then
    some (.inl (y.1 ++ ([([] : List Int) ++ r2] : List (List Int)), y.2.1, y.2.2.1, IntKind.wrap .i64 (y.2.2.2.1 + 1), y.2.2.2.2.1, y.2.2.2.2.2.1, y.2.2.2.2.2.2.1, y.2.2.2.2.2.2.2.1, y.2.2.2.2.2.2.2.2.1, y.2.2.2.2.2.2.2.2.2.1, y.2.2.2.2.2.2.2.2.2.2))
    else none
    else none
    else none
  else
    some (.inr (y.1, y.2.2.2.2.1, y.2.2.2.2.2.1, y.2.2.2.2.2.2.1, y.2.2.2.2.2.2.2.1, y.2.2.2.2.2.2.2.2.1, y.2.2.2.2.2.2.2.2.2.1, y.2.2.2.2.2.2.2.2.2.2))
def s_l2Own (x0 : List (List Int)) (x1 : Int) (x2 : Bool) (x3 : Int) : Option ((List (List Int) × (Int × (Bool × Int)))) :=
  Option.bind (loopG s_l2Own_L1 ([], x0, ((List.length x0 : Nat) : Int), 0, x0, x1, x2, x3, 0, false, 0)) fun v3 =>
  some (v3.1, v3.2.2.1, v3.2.2.2.1, v3.2.2.2.2.1)

def s_WriteBlock (x0 : List (List Int)) (x1 : Int) (x2 : Bool) (x3 : Int) (x4 : Int) (x5 : List Int) : Option ((Int × (List (List Int) × (Int × (Bool × Int))))) :=
  Option.bind (α := (Int × (List Int × (Bool × (List (List Int) × (Int × (Bool × (Int × (Int × (Bool × Int)))))))))) (
      Option.bind (s_GoodDisk x0 x1 x2 x3) fun c1 =>
      if (!c1) = true then
        some (x4, x5, true, x0, x1, x2, x3, 0, false, 0)
      else
      if (decide ((x1 : Int) = 1000000000)) = true then
        some (x4, x5, true, x0, x1, x2, x3, 0, false, 0)
      else
      some (x4, x5, decide (¬ (((List.length x5 : Nat) : Int) : Int) = 128), x0, x1, x2, x3, 0, false, 0)) fun v2 =>
  if v2.2.2.1 = true then
    some (1, [], 0, false, 0)
  else
    Option.bind (s_l2Own v2.2.2.2.1 v2.2.2.2.2.1 v2.2.2.2.2.2.1 v2.2.2.2.2.2.2.1) fun c3 =>
    if (!c3.2.2.1) = true then
      some (2, c3.1, c3.2.1, c3.2.2.1, c3.2.2.2)
    else
      Option.bind (s_l1In v2.1 0 (IntKind.wrap .i64 (((List.length c3.1 : Nat) : Int) - 1))) fun c4 =>
      if (!c4) = true then
        some (3, c3.1, c3.2.1, c3.2.2.1, c3.2.2.2)
      else
        Option.bind (s_l2Put_o v2.1 v2.2.1 c3.1 c3.2.1 c3.2.2.1 c3.2.2.2) fun c5 =>
        if (!c5.1) = true then
          some (2, c5.2.1, c5.2.2.1, c5.2.2.2.1, c5.2.2.2.2)
        else
          some (0, c5.2.1, c5.2.2.1, c5.2.2.2.1, c5.2.2.2.2)

def l_sameBlocks_L1 (y : (List (List Int) × (List (List Int) × (Int × Int)))) : Option ((List (List Int) × (List (List Int) × (Int × Int))) ⊕ (Unit ⊕ Bool)) :=
  if (decide ((y.2.2.2 : Int) < y.2.2.1)) = true then
    if (decide ((0 : Int) ≤ y.2.2.2)) = true then
    Option.bind (y.1[Int.toNat y.2.2.2]?) fun r1 =>
    if (decide ((0 : Int) ≤ y.2.2.2)) = true then
    Option.bind (y.2.1[Int.toNat y.2.2.2]?) fun r2 =>
    if (!((textOf r1 : List UInt8) == (textOf r2))) = true then
      some (.inr (.inr false))
    else
      some (.inl (y.1, y.2.1, y.2.2.1, IntKind.wrap .i64 (y.2.2.2 + 1)))
    else none
    else none
  else
    some (.inr (.inl ()))
def l_sameBlocks (x0 : List (List Int)) (x1 : List (List Int)) : Option (Bool) :=
  if (decide (¬ (((List.length x0 : Nat) : Int) : Int) = ((List.length x1 : Nat) : Int))) = true then
    some false
  else
    Option.bind (loopG l_sameBlocks_L1 (x0, x1, ((List.length x0 : Nat) : Int), 0)) fun v3 =>
    match v3 with
    | .inl y4 =>
      some true
    | .inr s5 =>
      some s5

def i_ReadBlock (x0 : List (List Int)) (x1 : Int) (x2 : Bool) (x3 : Int) (x4 : Int) : Option ((List Int × Int)) :=
  Option.bind (i_GoodDisk x0 x1 x2 x3) fun c1 =>
  if (!c1) = true then
    some ([], 1)
  else
  if (!x2) = true then
    some ([], 2)
  else
    Option.bind (i_Disk_has x0 x1 x2 x3 x4) fun c2 =>
    if (!c2) = true then
      some ([], 3)
    else
    if (decide ((0 : Int) ≤ x4)) = true then
    Option.bind (x0[Int.toNat x4]?) fun r3 =>
    Option.bind (slices_Clone_byte_byte r3) fun c4 =>
    some (c4, 0)
    else none

def l_FnDisk_L1 (y : (Int × (Int × (Int × (List (List Int) × (Int × (Bool × (Int × (List (List Int) × (Int × (Bool × Int))))))))))) : Option ((Int × (Int × (Int × (List (List Int) × (Int × (Bool × (Int × (List (List Int) × (Int × (Bool × Int)))))))))) ⊕ (Unit ⊕ Bool)) :=
  if (decide ((y.2.2.1 : Int) < y.2.1)) = true then
    Option.bind (α := (Int × (Int × (Int × (Bool × (List (List Int) × (Int × (Bool × (Int × (List (List Int) × (Int × (Bool × Int)))))))))))) (
        if (decide (¬ (y.2.2.1 : Int) = y.1)) = true then
          if (decide ((0 : Int) ≤ y.2.2.1)) = true then
          if (decide ((y.2.2.1 : Int) < ((List.length y.2.2.2.1 : Nat) : Int))) = true then
          Option.bind (y.2.2.2.1[0 + Int.toNat y.2.2.1]?) fun r10 =>
          Option.bind (y.2.2.2.1[0 + Int.toNat y.2.2.1]?) fun r11 =>
          if (decide ((0 : Int) ≤ y.2.2.1)) = true then
          if (decide ((y.2.2.1 : Int) < ((List.length y.2.2.2.2.2.2.2.1 : Nat) : Int))) = true then
          Option.bind (y.2.2.2.2.2.2.2.1[0 + Int.toNat y.2.2.1]?) fun r12 =>
          Option.bind (y.2.2.2.2.2.2.2.1[0 + Int.toNat y.2.2.1]?) fun r13 =>
          some (y.1, y.2.1, y.2.2.1, (!((textOf r11 : List UInt8) == (textOf r13))), y.2.2.2.1, y.2.2.2.2.1, y.2.2.2.2.2.1, y.2.2.2.2.2.2.1, y.2.2.2.2.2.2.2.1, y.2.2.2.2.2.2.2.2.1, y.2.2.2.2.2.2.2.2.2.1, y.2.2.2.2.2.2.2.2.2.2)
          else none
          else none
          else none
          else none
        else
        some (y.1, y.2.1, y.2.2.1, false, y.2.2.2.1, y.2.2.2.2.1, y.2.2.2.2.2.1, y.2.2.2.2.2.2.1, y.2.2.2.2.2.2.2.1, y.2.2.2.2.2.2.2.2.1, y.2.2.2.2.2.2.2.2.2.1, y.2.2.2.2.2.2.2.2.2.2)) fun v14 =>
    if v14.2.2.2.1 = true then
      some (.inr (.inr false))
    else
      some (.inl (v14.1, v14.2.1, IntKind.wrap .i64 (v14.2.2.1 + 1), v14.2.2.2.2.1, v14.2.2.2.2.2.1, v14.2.2.2.2.2.2.1, v14.2.2.2.2.2.2.2.1, v14.2.2.2.2.2.2.2.2.1, v14.2.2.2.2.2.2.2.2.2.1, v14.2.2.2.2.2.2.2.2.2.2.1, v14.2.2.2.2.2.2.2.2.2.2.2))
  else
    some (.inr (.inl ()))
def l_FnDisk (x0 : List Int) : Option (Bool) :=
  if (decide ((1048576 : Int) < ((List.length x0 : Nat) : Int))) = true then
    some true
  else
    Option.bind (s_DrawWriteBlock x0) fun c1 =>
    Option.bind (i_WriteBlock c1.2.2.1 c1.2.2.2.1 c1.2.2.2.2.1 c1.2.2.2.2.2 c1.1 c1.2.1) fun c2 =>
    Option.bind (s_WriteBlock c1.2.2.1 c1.2.2.2.1 c1.2.2.2.2.1 c1.2.2.2.2.2 c1.1 c1.2.1) fun c3 =>
    Option.bind (α := (Int × (List Int × (Int × (Bool × (List (List Int) × (Int × (Bool × (Int × (List (List Int) × (Int × (Bool × Int)))))))))))) (
        if (decide (¬ (c2.1 : Int) = c3.1)) = true then
          some (c1.1, c1.2.1, c2.1, true, c1.2.2.1, c1.2.2.2.1, c1.2.2.2.2.1, c1.2.2.2.2.2, c2.2.1, c2.2.2.1, c2.2.2.2.1, c2.2.2.2.2)
        else
          Option.bind (l_sameBlocks c2.2.1 c3.2.1) fun c4 =>
          some (c1.1, c1.2.1, c2.1, (!c4), c1.2.2.1, c1.2.2.2.1, c1.2.2.2.2.1, c1.2.2.2.2.2, c2.2.1, c2.2.2.1, c2.2.2.2.1, c2.2.2.2.2)) fun v5 =>
    if v5.2.2.2.1 = true then
      some false
    else
    if (decide ((v5.2.2.1 : Int) = 1)) = true then
      some (decide ((((List.length v5.2.2.2.2.2.2.2.2.1 : Nat) : Int) : Int) = 0))
    else
    if (decide (¬ (v5.2.2.1 : Int) = 0)) = true then
      Option.bind (α := Bool) (
          Option.bind (l_sameBlocks v5.2.2.2.2.2.2.2.2.1 v5.2.2.2.2.1) fun c6 =>
          if c6 = true then
            some (decide ((v5.2.2.2.2.2.2.2.2.2.1 : Int) = v5.2.2.2.2.2.1))
          else
          some false) fun v7 =>
      some v7
    else
      Option.bind (i_ReadBlock v5.2.2.2.2.2.2.2.2.1 v5.2.2.2.2.2.2.2.2.2.1 v5.2.2.2.2.2.2.2.2.2.2.1 v5.2.2.2.2.2.2.2.2.2.2.2 v5.1) fun c8 =>
      Option.bind (α := (Int × (Bool × (List (List Int) × (Int × (Bool × (Int × (List (List Int) × (Int × (Bool × Int)))))))))) (
          if (decide (¬ (c8.2 : Int) = 0)) = true then
            some (v5.1, true, v5.2.2.2.2.1, v5.2.2.2.2.2.1, v5.2.2.2.2.2.2.1, v5.2.2.2.2.2.2.2.1, v5.2.2.2.2.2.2.2.2.1, v5.2.2.2.2.2.2.2.2.2.1, v5.2.2.2.2.2.2.2.2.2.2.1, v5.2.2.2.2.2.2.2.2.2.2.2)
          else
          some (v5.1, (!((textOf c8.1 : List UInt8) == (textOf v5.2.1))), v5.2.2.2.2.1, v5.2.2.2.2.2.1, v5.2.2.2.2.2.2.1, v5.2.2.2.2.2.2.2.1, v5.2.2.2.2.2.2.2.2.1, v5.2.2.2.2.2.2.2.2.2.1, v5.2.2.2.2.2.2.2.2.2.2.1, v5.2.2.2.2.2.2.2.2.2.2.2)) fun v9 =>
      if v9.2.1 = true then
        some false
      else
        Option.bind (loopG l_FnDisk_L1 (v9.1, ((List.length v9.2.2.1 : Nat) : Int), 0, v9.2.2.1, v9.2.2.2.1, v9.2.2.2.2.1, v9.2.2.2.2.2.1, v9.2.2.2.2.2.2.1, v9.2.2.2.2.2.2.2.1, v9.2.2.2.2.2.2.2.2.1, v9.2.2.2.2.2.2.2.2.2)) fun v15 =>
        match v15 with
        | .inl y16 =>
          some true
        | .inr s17 =>
          some s17

def s_l1Cur_size_f (x0 : List Int) (x1 : Int) (x2 : Int) : Option ((Int × (List Int × (Int × Int)))) :=
  Option.bind (s_l1Cur_one_f 10 x0 x1 x2) fun c1 =>
  if c1.1 = true then
    Option.bind (s_l1Cur_pick_f 3 c1.2.1 c1.2.2.1 c1.2.2.2) fun c2 =>
    some (IntKind.wrap .i64 (120 - c2.1), c2.2.1, c2.2.2.1, c2.2.2.2)
  else
    Option.bind (s_l1Cur_pick_f 14 c1.2.1 c1.2.2.1 c1.2.2.2) fun c3 =>
    some (c3.1, c3.2.1, c3.2.2.1, c3.2.2.2)

def s_l1Cur_of_f (x0 : List (List UInt8)) (x1 : List Int) (x2 : Int) (x3 : Int) : Option ((List UInt8 × (List Int × (Int × Int)))) :=
  Option.bind (s_l1Cur_pick_f ((List.length x0 : Nat) : Int) x1 x2 x3) fun c1 =>
  if (decide ((0 : Int) ≤ c1.1)) = true then
  if (decide ((c1.1 : Int) < ((List.length x0 : Nat) : Int))) = true then
  Option.bind (x0[0 + Int.toNat c1.1]?) fun r2 =>
  some (r2, c1.2.1, c1.2.2.1, c1.2.2.2)
  else none
  else none

def s_l1Cur_put_f (x0 : List Int) (x1 : Int) (x2 : Int) : Option ((List UInt8 × (List Int × (Int × Int)))) :=
  Option.bind (s_l1Cur_of_f [([97] : List UInt8), ([120, 121] : List UInt8), ([90, 122, 57] : List UInt8), ([0] : List UInt8), ([255, 254] : List UInt8), ([119, 111, 114, 100, 32] : List UInt8)] x0 x1 x2) fun c1 =>
  some (c1.1, c1.2.1, c1.2.2.1, c1.2.2.2)

def s_l1Kind (x0 : Int) (x1 : Int) (x2 : List UInt8) : Option (Int) :=
  Option.bind (α := (Bool × (Int × (Int × List UInt8)))) (
      if (decide ((0 : Int) < x0)) = true then
        if (decide ((x1 : Int) = 0)) = true then
          some (((x2 : List UInt8) == ([] : List UInt8)), x0, x1, x2)
        else
        some (false, x0, x1, x2)
      else
      some (false, x0, x1, x2)) fun v1 =>
  if v1.1 = true then
    some 1
  else
    Option.bind (α := (Bool × (Int × (Int × List UInt8)))) (
        if (decide ((v1.2.1 : Int) = 0)) = true then
          if (decide ((0 : Int) < v1.2.2.1)) = true then
            some (((v1.2.2.2 : List UInt8) == ([] : List UInt8)), v1.2.1, v1.2.2.1, v1.2.2.2)
          else
          some (false, v1.2.1, v1.2.2.1, v1.2.2.2)
        else
        some (false, v1.2.1, v1.2.2.1, v1.2.2.2)) fun v2 =>
    if v2.1 = true then
      some 2
    else
      Option.bind (α := Bool) (
          if (decide ((v2.2.1 : Int) = 0)) = true then
            if (decide ((v2.2.2.1 : Int) = 0)) = true then
              some (!((v2.2.2.2 : List UInt8) == ([] : List UInt8)))
            else
            some false
          else
          some false) fun v3 =>
      if v3 = true then
        some 3
      else
        some 0

def s_l1Add (x0 : List (Int × (Int × List UInt8))) (x1 : Int) (x2 : Int) (x3 : List UInt8) : Option (List (Int × (Int × List UInt8))) :=
  if (decide ((x1 : Int) = 0) && (decide ((x2 : Int) = 0) && (((x3 : List UInt8) == []) && true))) = true then
    some x0
  else
    Option.bind (α := (List (Int × (Int × List UInt8)) × (Int × (Bool × (Int × (Int × List UInt8)))))) (
        if (decide ((0 : Int) < ((List.length x0 : Nat) : Int))) = true then
          if (decide ((0 : Int) ≤ IntKind.wrap .i64 (((List.length x0 : Nat) : Int) - 1))) = true then
          if (decide ((IntKind.wrap .i64 (((List.length x0 : Nat) : Int) - 1) : Int) < ((List.length x0 : Nat) : Int))) = true then
          Option.bind (x0[0 + Int.toNat (IntKind.wrap .i64 (((List.length x0 : Nat) : Int) - 1))]?) fun r1 =>
          Option.bind (x0[0 + Int.toNat (IntKind.wrap .i64 (((List.length x0 : Nat) : Int) - 1))]?) fun r2 =>
          Option.bind (x0[0 + Int.toNat (IntKind.wrap .i64 (((List.length x0 : Nat) : Int) - 1))]?) fun r3 =>
          Option.bind (s_l1Kind r1.1 r2.2.1 r3.2.2) fun c4 =>
          Option.bind (s_l1Kind x1 x2 x3) fun c5 =>
          some (x0, ((List.length x0 : Nat) : Int), decide ((c4 : Int) = c5), x1, x2, x3)
          else none
          else none
        else
        some (x0, ((List.length x0 : Nat) : Int), false, x1, x2, x3)) fun v6 =>
    if v6.2.2.1 = true then
      if (decide ((0 : Int) ≤ IntKind.wrap .i64 (v6.2.1 - 1))) = true then
      if (decide ((IntKind.wrap .i64 (v6.2.1 - 1) : Int) < ((List.length v6.1 : Nat) : Int))) = true then
      Option.bind (v6.1[0 + Int.toNat (IntKind.wrap .i64 (v6.2.1 - 1))]?) fun r7 =>
      if (decide ((0 : Int) ≤ IntKind.wrap .i64 (v6.2.1 - 1))) = true then
      if (decide ((IntKind.wrap .i64 (v6.2.1 - 1) : Int) < ((List.length v6.1 : Nat) : Int))) = true then
      Option.bind (v6.1[0 + Int.toNat (IntKind.wrap .i64 (v6.2.1 - 1))]?) fun r8 =>
      if (decide ((0 : Int) ≤ IntKind.wrap .i64 (v6.2.1 - 1))) = true then
      if (decide ((IntKind.wrap .i64 (v6.2.1 - 1) : Int) < ((List.length v6.1 : Nat) : Int))) = true then
      Option.bind (v6.1[0 + Int.toNat (IntKind.wrap .i64 (v6.2.1 - 1))]?) fun r9 =>
      if (decide ((List.length r9.2.2 + List.length v6.2.2.2.2.2 : Nat) ≤ 9223372036854775807)) = true then
      if (decide ((0 : Int) ≤ IntKind.wrap .i64 (v6.2.1 - 1))) = true then
      if (decide ((IntKind.wrap .i64 (v6.2.1 - 1) : Int) < ((List.length v6.1 : Nat) : Int))) = true then
      Option.bind (v6.1[0 + Int.toNat (IntKind.wrap .i64 (v6.2.1 - 1))]?) fun r10 =>
      Option.bind (v6.1[0 + Int.toNat (IntKind.wrap .i64 (v6.2.1 - 1))]?) fun r11 =>
      Option.bind ((v6.1.set (0 + Int.toNat (IntKind.wrap .i64 (v6.2.1 - 1))) (IntKind.wrap .i64 (r7.1 + v6.2.2.2.1), r11.2))[0 + Int.toNat (IntKind.wrap .i64 (v6.2.1 - 1))]?) fun r12 =>
      Option.bind ((v6.1.set (0 + Int.toNat (IntKind.wrap .i64 (v6.2.1 - 1))) (IntKind.wrap .i64 (r7.1 + v6.2.2.2.1), r11.2))[0 + Int.toNat (IntKind.wrap .i64 (v6.2.1 - 1))]?) fun r13 =>
      Option.bind (((v6.1.set (0 + Int.toNat (IntKind.wrap .i64 (v6.2.1 - 1))) (IntKind.wrap .i64 (r7.1 + v6.2.2.2.1), r11.2)).set (0 + Int.toNat (IntKind.wrap .i64 (v6.2.1 - 1))) (r13.1, (IntKind.wrap .i64 (r8.2.1 + v6.2.2.2.2.1), r13.2.2)))[0 + Int.toNat (IntKind.wrap .i64 (v6.2.1 - 1))]?) fun r14 =>
      Option.bind (((v6.1.set (0 + Int.toNat (IntKind.wrap .i64 (v6.2.1 - 1))) (IntKind.wrap .i64 (r7.1 + v6.2.2.2.1), r11.2)).set (0 + Int.toNat (IntKind.wrap .i64 (v6.2.1 - 1))) (r13.1, (IntKind.wrap .i64 (r8.2.1 + v6.2.2.2.2.1), r13.2.2)))[0 + Int.toNat (IntKind.wrap .i64 (v6.2.1 - 1))]?) fun r15 =>
      some (((v6.1.set (0 + Int.toNat (IntKind.wrap .i64 (v6.2.1 - 1))) (IntKind.wrap .i64 (r7.1 + v6.2.2.2.1), r11.2)).set (0 + Int.toNat (IntKind.wrap .i64 (v6.2.1 - 1))) (r13.1, (IntKind.wrap .i64 (r8.2.1 + v6.2.2.2.2.1), r13.2.2))).set (0 + Int.toNat (IntKind.wrap .i64 (v6.2.1 - 1))) (r15.1, (r15.2.1, (r9.2.2 : List UInt8) ++ v6.2.2.2.2.2)))
      else none
      else none
      else none
      else none
      else none
      else none
      else none
      else none
      else none
    else
    if (roomFor (List.length v6.1 + List.length ([(v6.2.2.2.1, (v6.2.2.2.2.1, v6.2.2.2.2.2))] : List (Int × (Int × List UInt8)))) 32) = true then
    some (v6.1 ++ ([(v6.2.2.2.1, (v6.2.2.2.2.1, v6.2.2.2.2.2))] : List (Int × (Int × List UInt8))))
    else none

def s_l1Cur_wide_f_L1 (y : (Int × (Int × (List Int × (Int × Int))))) : Option ((Int × (Int × (List Int × (Int × Int)))) ⊕ (Int × (List Int × (Int × Int)))) :=
  if (decide ((y.2.1 : Int) < 8)) = true then
    if (decide ((0 : Int) ≤ 8)) = true then
    Option.bind (s_l1Cur_next_f y.2.2.1 y.2.2.2.1 y.2.2.2.2) fun c1 =>
    some (.inl (IntKind.wrap .i64 (((BitVec.ofInt (IntKind.bits .i64) (IntKind.wrap .i64 (y.1 * 2 ^ (min (Int.toNat 8) (IntKind.bits .i64)))) ||| BitVec.ofInt (IntKind.bits .i64) c1.1).toNat : Int)), IntKind.wrap .i64 (y.2.1 + 1), c1.2.1, c1.2.2.1, c1.2.2.2))
    else none
  else
    some (.inr (y.1, y.2.2.1, y.2.2.2.1, y.2.2.2.2))
def s_l1Cur_wide_f (x0 : List Int) (x1 : Int) (x2 : Int) : Option ((Int × (List Int × (Int × Int)))) :=
  Option.bind (loopG s_l1Cur_wide_f_L1 (0, 0, x0, x1, x2)) fun v2 =>
  some (v2.1, v2.2.1, v2.2.2.1, v2.2.2.2)

def s_l1Cur_sized_f (x0 : List Int) (x1 : Int) (x2 : Int) : Option ((Int × (List Int × (Int × Int)))) :=
  Option.bind (s_l1Cur_pick_f 5 x0 x1 x2) fun c1 =>
  Option.bind (s_l1Cur_pick_f 8 c1.2.1 c1.2.2.1 c1.2.2.2) fun c2 =>
  Option.bind (α := (Int × (List Int × (Int × Int)))) (
      if (decide ((c2.1 : Int) = 0)) = true then
        Option.bind (s_l1Cur_pick_f 300 c2.2.1 c2.2.2.1 c2.2.2.2) fun c3 =>
        some (c3.1, c3.2.1, c3.2.2.1, c3.2.2.2)
      else
        Option.bind (α := (Int × (List Int × (Int × Int)))) (
            if (decide ((c2.1 : Int) = 1)) = true then
              Option.bind (s_l1Cur_wide_f c2.2.1 c2.2.2.1 c2.2.2.2) fun c4 =>
              Option.bind (s_l1Cur_pick_f 64 c4.2.1 c4.2.2.1 c4.2.2.2) fun c5 =>
              if (decide ((0 : Int) ≤ IntKind.wrap .u64 c5.1)) = true then
              some (Int.fdiv c4.1 (2 ^ (min (Int.toNat (IntKind.wrap .u64 c5.1)) (IntKind.bits .i64))), c5.2.1, c5.2.2.1, c5.2.2.2)
              else none
            else
              Option.bind (α := (Int × (List Int × (Int × Int)))) (
                  if (decide ((c2.1 : Int) = 2)) = true then
                    Option.bind (s_l1Cur_pick_f 64 c2.2.1 c2.2.2.1 c2.2.2.2) fun c6 =>
                    if (decide ((0 : Int) ≤ IntKind.wrap .u64 c6.1)) = true then
                    some (IntKind.wrap .i64 (1 * 2 ^ (min (Int.toNat (IntKind.wrap .u64 c6.1)) (IntKind.bits .i64))), c6.2.1, c6.2.2.1, c6.2.2.2)
                    else none
                  else
                    Option.bind (α := (Int × (List Int × (Int × Int)))) (
                        if (decide ((c2.1 : Int) = 3)) = true then
                          Option.bind (s_l1Cur_pick_f 64 c2.2.1 c2.2.2.1 c2.2.2.2) fun c7 =>
                          if (decide ((0 : Int) ≤ IntKind.wrap .u64 c7.1)) = true then
                          some (IntKind.wrap .i64 ((IntKind.wrap .i64 (1 * 2 ^ (min (Int.toNat (IntKind.wrap .u64 c7.1)) (IntKind.bits .i64)))) - 1), c7.2.1, c7.2.2.1, c7.2.2.2)
                          else none
                        else
                          some (c1.1, c2.2.1, c2.2.2.1, c2.2.2.2)) fun v8 =>
                    some (v8.1, v8.2.1, v8.2.2.1, v8.2.2.2)) fun v9 =>
              some (v9.1, v9.2.1, v9.2.2.1, v9.2.2.2)) fun v10 =>
        some (v10.1, v10.2.1, v10.2.2.1, v10.2.2.2)) fun v11 =>
  Option.bind (s_l1Cur_one_f 3 v11.2.1 v11.2.2.1 v11.2.2.2) fun c12 =>
  Option.bind (α := (Int × (List Int × (Int × Int)))) (
      if c12.1 = true then
        some (IntKind.wrap .i64 (0 - v11.1), c12.2.1, c12.2.2.1, c12.2.2.2)
      else
        some (v11.1, c12.2.1, c12.2.2.1, c12.2.2.2)) fun v13 =>
  some (v13.1, v13.2.1, v13.2.2.1, v13.2.2.2)

def s_l1Cur_part_f (x0 : List Int) (x1 : Int) (x2 : Int) : Option ((Int × (Int × (List UInt8 × (List Int × (Int × Int)))))) :=
  Option.bind (s_l1Cur_pick_f 5 x0 x1 x2) fun c1 =>
  if (decide ((c1.1 : Int) = 0)) = true then
    some (0, 0, [], c1.2.1, c1.2.2.1, c1.2.2.2)
  else
  if (decide ((c1.1 : Int) = 1)) = true then
    Option.bind (s_l1Cur_sized_f c1.2.1 c1.2.2.1 c1.2.2.2) fun c2 =>
    some (c2.1, 0, [], c2.2.1, c2.2.2.1, c2.2.2.2)
  else
  if (decide ((c1.1 : Int) = 2)) = true then
    Option.bind (s_l1Cur_sized_f c1.2.1 c1.2.2.1 c1.2.2.2) fun c3 =>
    some (0, c3.1, [], c3.2.1, c3.2.2.1, c3.2.2.2)
  else
  if (decide ((c1.1 : Int) = 3)) = true then
    some (1, 0, ([97] : List UInt8), c1.2.1, c1.2.2.1, c1.2.2.2)
  else
    Option.bind (s_l1Cur_pick_f 2 c1.2.1 c1.2.2.1 c1.2.2.2) fun c4 =>
    if (decide ((0 : Int) ≤ IntKind.wrap .i64 (120 + c4.1))) = true then
    if (decide ((IntKind.wrap .i64 (120 + c4.1) : Int) ≤ IntKind.wrap .i64 (120 + c4.1))) = true then
    if (roomFor (Int.toNat (IntKind.wrap .i64 (120 + c4.1))) 1) = true then
    some (0, 0, textOf (List.replicate (Int.toNat (IntKind.wrap .i64 (120 + c4.1))) (0 : Int)), c4.2.1, c4.2.2.1, c4.2.2.2)
    else none
    else none
    else none

def s_l1Cur_changeOf_f_L1 (y : (Int × (List (Int × (Int × List UInt8)) × (Int × (List Int × (Int × Int)))))) : Option ((Int × (List (Int × (Int × List UInt8)) × (Int × (List Int × (Int × Int))))) ⊕ (List (Int × (Int × List UInt8)) × (Int × (List Int × (Int × Int))))) :=
  if (decide ((0 : Int) < y.1)) = true then
    Option.bind (s_l1Cur_put_f y.2.2.2.1 y.2.2.2.2.1 y.2.2.2.2.2) fun c14 =>
    Option.bind (α := (Int × (List (Int × (Int × List UInt8)) × (Int × (List UInt8 × (Bool × (List Int × (Int × Int)))))))) (
        Option.bind (s_l1Cur_one_f 3 c14.2.1 c14.2.2.1 c14.2.2.2) fun c15 =>
        if c15.1 = true then
          some (y.1, y.2.1, y.2.2.1, c14.1, decide ((((List.length c14.1 : Nat) : Int) : Int) ≤ y.2.2.1), c15.2.1, c15.2.2.1, c15.2.2.2)
        else
        some (y.1, y.2.1, y.2.2.1, c14.1, false, c15.2.1, c15.2.2.1, c15.2.2.2)) fun v16 =>
    Option.bind (α := (Int × (List (Int × (Int × List UInt8)) × (Int × (List Int × (Int × Int)))))) (
        if v16.2.2.2.2.1 = true then
          Option.bind (s_l1Add v16.2.1 0 0 v16.2.2.2.1) fun c17 =>
          some (v16.1, c17, IntKind.wrap .i64 (v16.2.2.1 - ((List.length v16.2.2.2.1 : Nat) : Int)), v16.2.2.2.2.2.1, v16.2.2.2.2.2.2.1, v16.2.2.2.2.2.2.2)
        else
          some (v16.1, v16.2.1, v16.2.2.1, v16.2.2.2.2.2.1, v16.2.2.2.2.2.2.1, v16.2.2.2.2.2.2.2)) fun v18 =>
    Option.bind (s_l1Cur_pick_f 6 v18.2.2.2.1 v18.2.2.2.2.1 v18.2.2.2.2.2) fun c19 =>
    Option.bind (s_l1Cur_one_f 6 c19.2.1 c19.2.2.1 c19.2.2.2) fun c20 =>
    Option.bind (α := (Int × (List (Int × (Int × List UInt8)) × (Int × (Int × (List Int × (Int × Int))))))) (
        if c20.1 = true then
          some (v18.1, v18.2.1, v18.2.2.1, v18.1, c20.2.1, c20.2.2.1, c20.2.2.2)
        else
          some (v18.1, v18.2.1, v18.2.2.1, IntKind.wrap .i64 (1 + c19.1), c20.2.1, c20.2.2.1, c20.2.2.2)) fun v21 =>
    Option.bind (α := (Int × (List (Int × (Int × List UInt8)) × (Int × (Int × (List Int × (Int × Int))))))) (
        if (decide ((v21.1 : Int) < v21.2.2.2.1)) = true then
          some (v21.1, v21.2.1, v21.2.2.1, v21.1, v21.2.2.2.2.1, v21.2.2.2.2.2.1, v21.2.2.2.2.2.2)
        else
          some (v21.1, v21.2.1, v21.2.2.1, v21.2.2.2.1, v21.2.2.2.2.1, v21.2.2.2.2.2.1, v21.2.2.2.2.2.2)) fun v22 =>
    Option.bind (s_l1Cur_one_f 3 v22.2.2.2.2.1 v22.2.2.2.2.2.1 v22.2.2.2.2.2.2) fun c23 =>
    Option.bind (α := (Int × (List (Int × (Int × List UInt8)) × (Int × (Int × (List Int × (Int × Int))))))) (
        if c23.1 = true then
          Option.bind (s_l1Add v22.2.1 0 v22.2.2.2.1 []) fun c24 =>
          some (v22.1, c24, IntKind.wrap .i64 (v22.2.2.1 + v22.2.2.2.1), v22.2.2.2.1, c23.2.1, c23.2.2.1, c23.2.2.2)
        else
          Option.bind (s_l1Add v22.2.1 v22.2.2.2.1 0 []) fun c25 =>
          some (v22.1, c25, v22.2.2.1, v22.2.2.2.1, c23.2.1, c23.2.2.1, c23.2.2.2)) fun v26 =>
    some (.inl (IntKind.wrap .i64 (v26.1 - v26.2.2.2.1), v26.2.1, v26.2.2.1, v26.2.2.2.2.1, v26.2.2.2.2.2.1, v26.2.2.2.2.2.2))
  else
    some (.inr (y.2.1, y.2.2.1, y.2.2.2.1, y.2.2.2.2.1, y.2.2.2.2.2))
def s_l1Cur_changeOf_f (x0 : Int) (x1 : List Int) (x2 : Int) (x3 : Int) : Option ((List (Int × (Int × List UInt8)) × (List Int × (Int × Int)))) :=
  Option.bind (loopG s_l1Cur_changeOf_f_L1 (x0, [], IntKind.wrap .i64 (120 - x0), x1, x2, x3)) fun v27 =>
  Option.bind (s_l1Cur_put_f v27.2.2.1 v27.2.2.2.1 v27.2.2.2.2) fun c28 =>
  Option.bind (α := (List (Int × (Int × List UInt8)) × (List UInt8 × (Bool × (List Int × (Int × Int)))))) (
      Option.bind (s_l1Cur_one_f 2 c28.2.1 c28.2.2.1 c28.2.2.2) fun c29 =>
      if c29.1 = true then
        some (v27.1, c28.1, decide ((((List.length c28.1 : Nat) : Int) : Int) ≤ v27.2.1), c29.2.1, c29.2.2.1, c29.2.2.2)
      else
      some (v27.1, c28.1, false, c29.2.1, c29.2.2.1, c29.2.2.2)) fun v30 =>
  Option.bind (α := (List (Int × (Int × List UInt8)) × (List Int × (Int × Int)))) (
      if v30.2.2.1 = true then
        Option.bind (s_l1Add v30.1 0 0 v30.2.1) fun c31 =>
        some (c31, v30.2.2.2.1, v30.2.2.2.2.1, v30.2.2.2.2.2)
      else
        some (v30.1, v30.2.2.2.1, v30.2.2.2.2.1, v30.2.2.2.2.2)) fun v32 =>
  Option.bind (s_l1Cur_one_f 60 v32.2.1 v32.2.2.1 v32.2.2.2) fun c33 =>
  Option.bind (α := (List (Int × (Int × List UInt8)) × (List Int × (Int × Int)))) (
      if c33.1 = true then
        Option.bind (s_l1Cur_part_f c33.2.1 c33.2.2.1 c33.2.2.2) fun c34 =>
        if (roomFor (List.length v32.1 + List.length ([(c34.1, (c34.2.1, c34.2.2.1))] : List (Int × (Int × List UInt8)))) 32) = true then
        some (v32.1 ++ ([(c34.1, (c34.2.1, c34.2.2.1))] : List (Int × (Int × List UInt8))), c34.2.2.2.1, c34.2.2.2.2.1, c34.2.2.2.2.2)
        else none
      else
        some (v32.1, c33.2.1, c33.2.2.1, c33.2.2.2)) fun v35 =>
  some (v35.1, v35.2.1, v35.2.2.1, v35.2.2.2)

def s_DrawImageOf (x0 : List Int) : Option ((List (Int × (Int × List UInt8)) × (Int × Bool))) :=
  Option.bind (s_l1Cur_size_f x0 0 0) fun c1 =>
  Option.bind (s_l1Cur_changeOf_f c1.1 c1.2.1 c1.2.2.1 c1.2.2.2) fun c2 =>
  Option.bind (s_l1Cur_pick_f (IntKind.wrap .i64 (c1.1 + 1)) c2.2.1 c2.2.2.1 c2.2.2.2) fun c3 =>
  Option.bind (s_l1Cur_one_f 16 c3.2.1 c3.2.2.1 c3.2.2.2) fun c4 =>
  Option.bind (α := (List (Int × (Int × List UInt8)) × (Int × (List Int × (Int × Int))))) (
      if c4.1 = true then
        Option.bind (s_l1Cur_among_f [(-1), IntKind.wrap .i64 (c1.1 + 1), 9223372036854775807] c4.2.1 c4.2.2.1 c4.2.2.2) fun c5 =>
        some (c2.1, c5.1, c5.2.1, c5.2.2.1, c5.2.2.2)
      else
        some (c2.1, c3.1, c4.2.1, c4.2.2.1, c4.2.2.2)) fun v6 =>
  Option.bind (s_l1Cur_one_f 2 v6.2.2.1 v6.2.2.2.1 v6.2.2.2.2) fun c7 =>
  some (v6.1, v6.2.1, c7.1)

def i_Part_kind (x0 : Int) (x1 : Int) (x2 : List UInt8) : Option (Int) :=
  Option.bind (α := (Bool × (Int × (Int × List UInt8)))) (
      if (decide ((0 : Int) < x0)) = true then
        if (decide ((x1 : Int) = 0)) = true then
          some (((x2 : List UInt8) == ([] : List UInt8)), x0, x1, x2)
        else
        some (false, x0, x1, x2)
      else
      some (false, x0, x1, x2)) fun v1 =>
  if v1.1 = true then
    some 1
  else
    Option.bind (α := (Bool × (Int × (Int × List UInt8)))) (
        if (decide ((0 : Int) < v1.2.2.1)) = true then
          if (decide ((v1.2.1 : Int) = 0)) = true then
            some (((v1.2.2.2 : List UInt8) == ([] : List UInt8)), v1.2.1, v1.2.2.1, v1.2.2.2)
          else
          some (false, v1.2.1, v1.2.2.1, v1.2.2.2)
        else
        some (false, v1.2.1, v1.2.2.1, v1.2.2.2)) fun v2 =>
    if v2.1 = true then
      some 2
    else
      Option.bind (α := Bool) (
          if (!((v2.2.2.2 : List UInt8) == ([] : List UInt8))) = true then
            if (decide ((v2.2.1 : Int) = 0)) = true then
              some (decide ((v2.2.2.1 : Int) = 0))
            else
            some false
          else
          some false) fun v3 =>
      if v3 = true then
        some 3
      else
        some 0

def i_lengths_L1 (y : (Int × (Int × (List (Int × (Int × List UInt8)) × (Int × Int))))) : Option ((Int × (Int × (List (Int × (Int × List UInt8)) × (Int × Int)))) ⊕ ((Int × Int) ⊕ (Int × (Int × Bool)))) :=
  if (decide ((y.2.2.2.2 : Int) < y.2.2.2.1)) = true then
    if (decide ((0 : Int) ≤ y.2.2.2.2)) = true then
    Option.bind (y.2.2.1[Int.toNat y.2.2.2.2]?) fun r1 =>
    Option.bind (α := (Int × (Int × (List (Int × (Int × List UInt8)) × (Int × (Int × (Bool × (Int × (Int × List UInt8))))))))) (
        if (decide ((120 : Int) < r1.1)) = true then
          some (y.1, y.2.1, y.2.2.1, y.2.2.2.1, y.2.2.2.2, true, r1.1, r1.2.1, r1.2.2)
        else
        some (y.1, y.2.1, y.2.2.1, y.2.2.2.1, y.2.2.2.2, decide ((120 : Int) < r1.2.1), r1.1, r1.2.1, r1.2.2)) fun v2 =>
    if v2.2.2.2.2.2.1 = true then
      some (.inr (.inr (0, 0, false)))
    else
      Option.bind (α := (Int × (Int × (List (Int × (Int × List UInt8)) × (Int × (Int × Bool)))))) (
          if (decide ((120 : Int) < (IntKind.wrap .i64 (v2.1 + (IntKind.wrap .i64 (v2.2.2.2.2.2.2.1 + v2.2.2.2.2.2.2.2.1)))))) = true then
            some (IntKind.wrap .i64 (v2.1 + (IntKind.wrap .i64 (v2.2.2.2.2.2.2.1 + v2.2.2.2.2.2.2.2.1))), IntKind.wrap .i64 (v2.2.1 + (IntKind.wrap .i64 (v2.2.2.2.2.2.2.1 + ((List.length v2.2.2.2.2.2.2.2.2 : Nat) : Int)))), v2.2.2.1, v2.2.2.2.1, v2.2.2.2.2.1, true)
          else
          some (IntKind.wrap .i64 (v2.1 + (IntKind.wrap .i64 (v2.2.2.2.2.2.2.1 + v2.2.2.2.2.2.2.2.1))), IntKind.wrap .i64 (v2.2.1 + (IntKind.wrap .i64 (v2.2.2.2.2.2.2.1 + ((List.length v2.2.2.2.2.2.2.2.2 : Nat) : Int)))), v2.2.2.1, v2.2.2.2.1, v2.2.2.2.2.1, decide ((120 : Int) < (IntKind.wrap .i64 (v2.2.1 + (IntKind.wrap .i64 (v2.2.2.2.2.2.2.1 + ((List.length v2.2.2.2.2.2.2.2.2 : Nat) : Int)))))))) fun v3 =>
      if v3.2.2.2.2.2 = true then
        some (.inr (.inr (0, 0, false)))
      else
        some (.inl (v3.1, v3.2.1, v3.2.2.1, v3.2.2.2.1, IntKind.wrap .i64 (v3.2.2.2.2.1 + 1)))
    else none
  else
    some (.inr (.inl (y.1, y.2.1)))
def i_lengths (x0 : List (Int × (Int × List UInt8))) : Option ((Int × (Int × Bool))) :=
  Option.bind (loopG i_lengths_L1 (0, 0, x0, ((List.length x0 : Nat) : Int), 0)) fun v4 =>
  match v4 with
  | .inl y5 =>
    some (y5.1, y5.2, true)
  | .inr s6 =>
    some (s6.1, s6.2.1, s6.2.2)

def i_GoodChange_L1 (y : (List (Int × (Int × List UInt8)) × (List (Int × (Int × List UInt8)) × (Int × Int)))) : Option ((List (Int × (Int × List UInt8)) × (List (Int × (Int × List UInt8)) × (Int × Int))) ⊕ (List (Int × (Int × List UInt8)) ⊕ Bool)) :=
  if (decide ((y.2.2.2 : Int) < y.2.2.1)) = true then
    if (decide ((0 : Int) ≤ y.2.2.2)) = true then
    Option.bind (y.2.1[Int.toNat y.2.2.2]?) fun r1 =>
    Option.bind (i_Part_kind r1.1 r1.2.1 r1.2.2) fun c2 =>
    Option.bind (α := (List (Int × (Int × List UInt8)) × (List (Int × (Int × List UInt8)) × (Int × (Int × Bool))))) (
        if (decide ((c2 : Int) = 0)) = true then
          some (y.1, y.2.1, y.2.2.1, y.2.2.2, true)
        else
        if (decide ((0 : Int) < y.2.2.2)) = true then
          if (decide ((0 : Int) ≤ IntKind.wrap .i64 (y.2.2.2 - 1))) = true then
          Option.bind (y.1[Int.toNat (IntKind.wrap .i64 (y.2.2.2 - 1))]?) fun r3 =>
          Option.bind (i_Part_kind r3.1 r3.2.1 r3.2.2) fun c4 =>
          some (y.1, y.2.1, y.2.2.1, y.2.2.2, decide ((c4 : Int) = c2))
          else none
        else
        some (y.1, y.2.1, y.2.2.1, y.2.2.2, false)) fun v5 =>
    if v5.2.2.2.2 = true then
      some (.inr (.inr false))
    else
      some (.inl (v5.1, v5.2.1, v5.2.2.1, IntKind.wrap .i64 (v5.2.2.2.1 + 1)))
    else none
  else
    some (.inr (.inl y.1))
def i_GoodChange (x0 : List (Int × (Int × List UInt8))) : Option (Bool) :=
  Option.bind (loopG i_GoodChange_L1 (x0, x0, ((List.length x0 : Nat) : Int), 0)) fun v6 =>
  match v6 with
  | .inl y7 =>
    Option.bind (i_lengths y7) fun c9 =>
    some c9.2.2
  | .inr s8 =>
    some s8

def i_LengthsOf (x0 : List (Int × (Int × List UInt8))) : Option ((Int × (Int × Bool))) :=
  Option.bind (i_GoodChange x0) fun c1 =>
  if (!c1) = true then
    some (0, 0, false)
  else
    Option.bind (i_lengths x0) fun c2 =>
    some (c2.1, c2.2.1, c2.2.2)

def i_tell_L1 (y : (List (Int × (Int × List UInt8)) × (Int × (Int × (Int × (Int × (List Bool × (List (List UInt8) × (Int × (Int × List UInt8)))))))))) : Option ((List (Int × (Int × List UInt8)) × (Int × (Int × (Int × (Int × (List Bool × (List (List UInt8) × (Int × (Int × List UInt8))))))))) ⊕ (List (Int × (Int × List UInt8)) × (Int × (Int × (List Bool × List (List UInt8)))))) :=
  if (decide ((y.2.2.2.2.1 : Int) < y.2.2.2.1)) = true then
    if (roomFor (List.length y.2.2.2.2.2.1 + List.length ([decide ((0 : Int) < y.2.2.2.2.2.2.2.1)] : List Bool)) 1) = true then
    if (roomFor (List.length y.2.2.2.2.2.2.1 + List.length ([([] : List UInt8)] : List (List UInt8))) 16) = true then
    some (.inl (y.1, y.2.1, y.2.2.1, y.2.2.2.1, IntKind.wrap .i64 (y.2.2.2.2.1 + 1), y.2.2.2.2.2.1 ++ ([decide ((0 : Int) < y.2.2.2.2.2.2.2.1)] : List Bool), y.2.2.2.2.2.2.1 ++ ([([] : List UInt8)] : List (List UInt8)), y.2.2.2.2.2.2.2.1, y.2.2.2.2.2.2.2.2.1, y.2.2.2.2.2.2.2.2.2))
    else none
    else none
  else
    some (.inr (y.1, y.2.1, y.2.2.1, y.2.2.2.2.2.1, y.2.2.2.2.2.2.1))
def i_tell_L2 (y : (List (Int × (Int × List UInt8)) × (Int × (Int × (List Bool × List (List UInt8)))))) : Option ((List (Int × (Int × List UInt8)) × (Int × (Int × (List Bool × List (List UInt8))))) ⊕ (List Bool × List (List UInt8))) :=
  if (decide ((y.2.2.1 : Int) < y.2.1)) = true then
    if (decide ((0 : Int) ≤ y.2.2.1)) = true then
    Option.bind (y.1[Int.toNat y.2.2.1]?) fun r6 =>
    if (decide ((0 : Int) ≤ IntKind.wrap .i64 (((List.length y.2.2.2.2 : Nat) : Int) - 1))) = true then
    if (decide ((IntKind.wrap .i64 (((List.length y.2.2.2.2 : Nat) : Int) - 1) : Int) < ((List.length y.2.2.2.2 : Nat) : Int))) = true then
    Option.bind (y.2.2.2.2[0 + Int.toNat (IntKind.wrap .i64 (((List.length y.2.2.2.2 : Nat) : Int) - 1))]?) fun r7 =>
    if (decide ((List.length r7 + List.length r6.2.2 : Nat) ≤ 9223372036854775807)) = true then
    if (decide ((0 : Int) ≤ IntKind.wrap .i64 (((List.length y.2.2.2.2 : Nat) : Int) - 1))) = true then
    if (decide ((IntKind.wrap .i64 (((List.length y.2.2.2.2 : Nat) : Int) - 1) : Int) < ((List.length y.2.2.2.2 : Nat) : Int))) = true then
    Option.bind (y.2.2.2.2[0 + Int.toNat (IntKind.wrap .i64 (((List.length y.2.2.2.2 : Nat) : Int) - 1))]?) fun r8 =>
    Option.bind (y.2.2.2.2[0 + Int.toNat (IntKind.wrap .i64 (((List.length y.2.2.2.2 : Nat) : Int) - 1))]?) fun r9 =>
    Option.bind (loopG i_tell_L1 (y.1, y.2.1, y.2.2.1, IntKind.wrap .i64 (r6.1 + r6.2.1), 0, y.2.2.2.1, y.2.2.2.2.set (0 + Int.toNat (IntKind.wrap .i64 (((List.length y.2.2.2.2 : Nat) : Int) - 1))) ((r7 : List UInt8) ++ r6.2.2), r6.1, r6.2.1, r6.2.2)) fun v10 =>
    some (.inl (v10.1, v10.2.1, IntKind.wrap .i64 (v10.2.2.1 + 1), v10.2.2.2.1, v10.2.2.2.2))
    else none
    else none
    else none
    else none
    else none
    else none
  else
    some (.inr (y.2.2.2.1, y.2.2.2.2))
def i_tell (x0 : List (Int × (Int × List UInt8))) : Option ((List Bool × List (List UInt8))) :=
  Option.bind (loopG i_tell_L2 (x0, ((List.length x0 : Nat) : Int), 0, [], [([] : List UInt8)])) fun v11 =>
  some (v11.1, v11.2)

def i_ImageOf_L1 (y : (Int × (Bool × (Int × (Int × (Int × (List Bool × List (List UInt8)))))))) : Option ((Int × (Bool × (Int × (Int × (Int × (List Bool × List (List UInt8))))))) ⊕ (Int × (Bool × (Int × (List Bool × List (List UInt8)))))) :=
  if (decide ((y.2.2.2.2.1 : Int) < y.2.2.2.1)) = true then
    if (decide ((0 : Int) ≤ y.2.2.2.2.1)) = true then
    if (decide ((y.2.2.2.2.1 : Int) < ((List.length y.2.2.2.2.2.2 : Nat) : Int))) = true then
    Option.bind (y.2.2.2.2.2.2[0 + Int.toNat y.2.2.2.2.1]?) fun r5 =>
    if (decide ((0 : Int) ≤ y.2.2.2.2.1)) = true then
    if (decide ((y.2.2.2.2.1 : Int) < ((List.length y.2.2.2.2.2.1 : Nat) : Int))) = true then
    Option.bind (y.2.2.2.2.2.1[0 + Int.toNat y.2.2.2.2.1]?) fun r6 =>
    Option.bind (α := (Int × (Bool × (Int × (Int × (Int × (List Bool × List (List UInt8)))))))) (
        if r6 = true then
          some (y.1, y.2.1, IntKind.wrap .i64 ((IntKind.wrap .i64 (y.2.2.1 + ((List.length r5 : Nat) : Int))) + 1), y.2.2.2.1, y.2.2.2.2.1, y.2.2.2.2.2.1, y.2.2.2.2.2.2)
        else
          some (y.1, y.2.1, IntKind.wrap .i64 (y.2.2.1 + ((List.length r5 : Nat) : Int)), y.2.2.2.1, y.2.2.2.2.1, y.2.2.2.2.2.1, y.2.2.2.2.2.2)) fun v7 =>
    some (.inl (v7.1, v7.2.1, v7.2.2.1, v7.2.2.2.1, IntKind.wrap .i64 (v7.2.2.2.2.1 + 1), v7.2.2.2.2.2.1, v7.2.2.2.2.2.2))
    else none
    else none
    else none
    else none
  else
    some (.inr (y.1, y.2.1, y.2.2.1, y.2.2.2.2.2.1, y.2.2.2.2.2.2))
def i_ImageOf (x0 : List (Int × (Int × List UInt8))) (x1 : Int) (x2 : Bool) : Option (Int) :=
  Option.bind (i_LengthsOf x0) fun c1 =>
  Option.bind (α := (List (Int × (Int × List UInt8)) × (Int × (Bool × Bool)))) (
      if (!c1.2.2) = true then
        some (x0, x1, x2, true)
      else
        Option.bind (i_within x1 0 c1.1) fun c2 =>
        some (x0, x1, x2, (!c2))) fun v3 =>
  if v3.2.2.2 = true then
    some (-1)
  else
    Option.bind (i_tell v3.1) fun c4 =>
    Option.bind (loopG i_ImageOf_L1 (v3.2.1, v3.2.2.1, 0, v3.2.1, 0, c4.1, c4.2)) fun v8 =>
    Option.bind (α := Int) (
        if v8.2.1 = true then
          if (decide ((0 : Int) ≤ v8.1)) = true then
          if (decide ((v8.1 : Int) < ((List.length v8.2.2.2.2 : Nat) : Int))) = true then
          Option.bind (v8.2.2.2.2[0 + Int.toNat v8.1]?) fun r9 =>
          some (IntKind.wrap .i64 (v8.2.2.1 + ((List.length r9 : Nat) : Int)))
          else none
          else none
        else
          some v8.2.2.1) fun v10 =>
    some v10

def s_GoodChange_L1 (y : (List (Int × (Int × List UInt8)) × (Int × (Int × (List (Int × (Int × List UInt8)) × (Int × Int)))))) : Option ((List (Int × (Int × List UInt8)) × (Int × (Int × (List (Int × (Int × List UInt8)) × (Int × Int))))) ⊕ (Unit ⊕ Bool)) :=
  if (decide ((y.2.2.2.2.2 : Int) < y.2.2.2.2.1)) = true then
    if (decide ((0 : Int) ≤ y.2.2.2.2.2)) = true then
    Option.bind (y.2.2.2.1[Int.toNat y.2.2.2.2.2]?) fun r1 =>
    Option.bind (s_l1Kind r1.1 r1.2.1 r1.2.2) fun c2 =>
    Option.bind (α := (List (Int × (Int × List UInt8)) × (Int × (Int × (List (Int × (Int × List UInt8)) × (Int × (Int × (Bool × (Int × (Int × List UInt8)))))))))) (
        if (decide ((c2 : Int) = 0)) = true then
          some (y.1, y.2.1, y.2.2.1, y.2.2.2.1, y.2.2.2.2.1, y.2.2.2.2.2, true, r1.1, r1.2.1, r1.2.2)
        else
        if (decide ((0 : Int) < y.2.2.2.2.2)) = true then
          if (decide ((0 : Int) ≤ IntKind.wrap .i64 (y.2.2.2.2.2 - 1))) = true then
          Option.bind (y.1[Int.toNat (IntKind.wrap .i64 (y.2.2.2.2.2 - 1))]?) fun r3 =>
          Option.bind (s_l1Kind r3.1 r3.2.1 r3.2.2) fun c4 =>
          if (decide ((c4 : Int) = c2)) = true then
            some (y.1, y.2.1, y.2.2.1, y.2.2.2.1, y.2.2.2.2.1, y.2.2.2.2.2, true, r1.1, r1.2.1, r1.2.2)
          else
          if (decide ((120 : Int) < r1.1)) = true then
            some (y.1, y.2.1, y.2.2.1, y.2.2.2.1, y.2.2.2.2.1, y.2.2.2.2.2, true, r1.1, r1.2.1, r1.2.2)
          else
          if (decide ((120 : Int) < r1.2.1)) = true then
            some (y.1, y.2.1, y.2.2.1, y.2.2.2.1, y.2.2.2.2.1, y.2.2.2.2.2, true, r1.1, r1.2.1, r1.2.2)
          else
          some (y.1, y.2.1, y.2.2.1, y.2.2.2.1, y.2.2.2.2.1, y.2.2.2.2.2, decide ((120 : Int) < ((List.length r1.2.2 : Nat) : Int)), r1.1, r1.2.1, r1.2.2)
          else none
        else
        if (decide ((120 : Int) < r1.1)) = true then
          some (y.1, y.2.1, y.2.2.1, y.2.2.2.1, y.2.2.2.2.1, y.2.2.2.2.2, true, r1.1, r1.2.1, r1.2.2)
        else
        if (decide ((120 : Int) < r1.2.1)) = true then
          some (y.1, y.2.1, y.2.2.1, y.2.2.2.1, y.2.2.2.2.1, y.2.2.2.2.2, true, r1.1, r1.2.1, r1.2.2)
        else
        some (y.1, y.2.1, y.2.2.1, y.2.2.2.1, y.2.2.2.2.1, y.2.2.2.2.2, decide ((120 : Int) < ((List.length r1.2.2 : Nat) : Int)), r1.1, r1.2.1, r1.2.2)) fun v5 =>
    if v5.2.2.2.2.2.2.1 = true then
      some (.inr (.inr false))
    else
      Option.bind (α := (List (Int × (Int × List UInt8)) × (Int × (Int × (List (Int × (Int × List UInt8)) × (Int × (Int × Bool))))))) (
          if (decide ((120 : Int) < (IntKind.wrap .i64 (v5.2.1 + (IntKind.wrap .i64 (v5.2.2.2.2.2.2.2.1 + v5.2.2.2.2.2.2.2.2.1)))))) = true then
            some (v5.1, IntKind.wrap .i64 (v5.2.1 + (IntKind.wrap .i64 (v5.2.2.2.2.2.2.2.1 + v5.2.2.2.2.2.2.2.2.1))), IntKind.wrap .i64 (v5.2.2.1 + (IntKind.wrap .i64 (v5.2.2.2.2.2.2.2.1 + ((List.length v5.2.2.2.2.2.2.2.2.2 : Nat) : Int)))), v5.2.2.2.1, v5.2.2.2.2.1, v5.2.2.2.2.2.1, true)
          else
          some (v5.1, IntKind.wrap .i64 (v5.2.1 + (IntKind.wrap .i64 (v5.2.2.2.2.2.2.2.1 + v5.2.2.2.2.2.2.2.2.1))), IntKind.wrap .i64 (v5.2.2.1 + (IntKind.wrap .i64 (v5.2.2.2.2.2.2.2.1 + ((List.length v5.2.2.2.2.2.2.2.2.2 : Nat) : Int)))), v5.2.2.2.1, v5.2.2.2.2.1, v5.2.2.2.2.2.1, decide ((120 : Int) < (IntKind.wrap .i64 (v5.2.2.1 + (IntKind.wrap .i64 (v5.2.2.2.2.2.2.2.1 + ((List.length v5.2.2.2.2.2.2.2.2.2 : Nat) : Int)))))))) fun v6 =>
      if v6.2.2.2.2.2.2 = true then
        some (.inr (.inr false))
      else
        some (.inl (v6.1, v6.2.1, v6.2.2.1, v6.2.2.2.1, v6.2.2.2.2.1, IntKind.wrap .i64 (v6.2.2.2.2.2.1 + 1)))
    else none
  else
    some (.inr (.inl ()))
def s_GoodChange (x0 : List (Int × (Int × List UInt8))) : Option (Bool) :=
  Option.bind (loopG s_GoodChange_L1 (x0, 0, 0, x0, ((List.length x0 : Nat) : Int), 0)) fun v7 =>
  match v7 with
  | .inl y8 =>
    some true
  | .inr s9 =>
    some s9

def s_l1Source_L1 (y : (Int × (List (Int × (Int × List UInt8)) × (Int × Int)))) : Option ((Int × (List (Int × (Int × List UInt8)) × (Int × Int))) ⊕ Int) :=
  if (decide ((y.2.2.2 : Int) < y.2.2.1)) = true then
    if (decide ((0 : Int) ≤ y.2.2.2)) = true then
    Option.bind (y.2.1[Int.toNat y.2.2.2]?) fun r1 =>
    some (.inl (IntKind.wrap .i64 (y.1 + (IntKind.wrap .i64 (r1.1 + r1.2.1))), y.2.1, y.2.2.1, IntKind.wrap .i64 (y.2.2.2 + 1)))
    else none
  else
    some (.inr y.1)
def s_l1Source (x0 : List (Int × (Int × List UInt8))) : Option (Int) :=
  Option.bind (loopG s_l1Source_L1 (0, x0, ((List.length x0 : Nat) : Int), 0)) fun v2 =>
  some v2

def s_l1Open_L1 (y : (Int × (List (Int × (Int × List UInt8)) × (Int × (Int × (List Bool × (List (List UInt8) × (Int × (Int × List UInt8))))))))) : Option ((Int × (List (Int × (Int × List UInt8)) × (Int × (Int × (List Bool × (List (List UInt8) × (Int × (Int × List UInt8)))))))) ⊕ (List (Int × (Int × List UInt8)) × (Int × (Int × (List Bool × List (List UInt8)))))) :=
  if (decide ((y.1 : Int) < (IntKind.wrap .i64 (y.2.2.2.2.2.2.1 + y.2.2.2.2.2.2.2.1)))) = true then
    if (roomFor (List.length y.2.2.2.2.1 + List.length ([decide ((0 : Int) < y.2.2.2.2.2.2.1)] : List Bool)) 1) = true then
    if (roomFor (List.length y.2.2.2.2.2.1 + List.length ([([] : List UInt8)] : List (List UInt8))) 16) = true then
    some (.inl (IntKind.wrap .i64 (y.1 + 1), y.2.1, y.2.2.1, y.2.2.2.1, y.2.2.2.2.1 ++ ([decide ((0 : Int) < y.2.2.2.2.2.2.1)] : List Bool), y.2.2.2.2.2.1 ++ ([([] : List UInt8)] : List (List UInt8)), y.2.2.2.2.2.2.1, y.2.2.2.2.2.2.2.1, y.2.2.2.2.2.2.2.2))
    else none
    else none
  else
    some (.inr (y.2.1, y.2.2.1, y.2.2.2.1, y.2.2.2.2.1, y.2.2.2.2.2.1))
def s_l1Open_L2 (y : (List (Int × (Int × List UInt8)) × (Int × (Int × (List Bool × List (List UInt8)))))) : Option ((List (Int × (Int × List UInt8)) × (Int × (Int × (List Bool × List (List UInt8))))) ⊕ (List Bool × List (List UInt8))) :=
  if (decide ((y.2.2.1 : Int) < y.2.1)) = true then
    if (decide ((0 : Int) ≤ y.2.2.1)) = true then
    Option.bind (y.1[Int.toNat y.2.2.1]?) fun r6 =>
    if (decide ((0 : Int) ≤ IntKind.wrap .i64 (((List.length y.2.2.2.2 : Nat) : Int) - 1))) = true then
    if (decide ((IntKind.wrap .i64 (((List.length y.2.2.2.2 : Nat) : Int) - 1) : Int) < ((List.length y.2.2.2.2 : Nat) : Int))) = true then
    Option.bind (y.2.2.2.2[0 + Int.toNat (IntKind.wrap .i64 (((List.length y.2.2.2.2 : Nat) : Int) - 1))]?) fun r7 =>
    if (decide ((List.length r7 + List.length r6.2.2 : Nat) ≤ 9223372036854775807)) = true then
    if (decide ((0 : Int) ≤ IntKind.wrap .i64 (((List.length y.2.2.2.2 : Nat) : Int) - 1))) = true then
    if (decide ((IntKind.wrap .i64 (((List.length y.2.2.2.2 : Nat) : Int) - 1) : Int) < ((List.length y.2.2.2.2 : Nat) : Int))) = true then
    Option.bind (y.2.2.2.2[0 + Int.toNat (IntKind.wrap .i64 (((List.length y.2.2.2.2 : Nat) : Int) - 1))]?) fun r8 =>
    Option.bind (y.2.2.2.2[0 + Int.toNat (IntKind.wrap .i64 (((List.length y.2.2.2.2 : Nat) : Int) - 1))]?) fun r9 =>
    Option.bind (loopG s_l1Open_L1 (0, y.1, y.2.1, y.2.2.1, y.2.2.2.1, y.2.2.2.2.set (0 + Int.toNat (IntKind.wrap .i64 (((List.length y.2.2.2.2 : Nat) : Int) - 1))) ((r7 : List UInt8) ++ r6.2.2), r6.1, r6.2.1, r6.2.2)) fun v10 =>
    some (.inl (v10.1, v10.2.1, IntKind.wrap .i64 (v10.2.2.1 + 1), v10.2.2.2.1, v10.2.2.2.2))
    else none
    else none
    else none
    else none
    else none
    else none
  else
    some (.inr (y.2.2.2.1, y.2.2.2.2))
def s_l1Open (x0 : List (Int × (Int × List UInt8))) : Option ((List Bool × List (List UInt8))) :=
  Option.bind (loopG s_l1Open_L2 (x0, ((List.length x0 : Nat) : Int), 0, [], [([] : List UInt8)])) fun v11 =>
  some (v11.1, v11.2)

def s_l1Image_L1 (y : (Int × (Bool × (Int × (List (List UInt8) × (Int × (Int × List Bool))))))) : Option ((Int × (Bool × (Int × (List (List UInt8) × (Int × (Int × List Bool)))))) ⊕ Int) :=
  if (decide ((y.2.2.2.2.2.1 : Int) < y.2.2.2.2.1)) = true then
    if (decide ((0 : Int) ≤ y.2.2.2.2.2.1)) = true then
    if (decide ((y.2.2.2.2.2.1 : Int) < ((List.length y.2.2.2.1 : Nat) : Int))) = true then
    Option.bind (y.2.2.2.1[0 + Int.toNat y.2.2.2.2.2.1]?) fun r2 =>
    if (decide ((y.2.2.2.2.2.1 : Int) = y.1)) = true then
      Option.bind (α := Int) (
          if y.2.1 = true then
            some (IntKind.wrap .i64 (y.2.2.1 + ((List.length r2 : Nat) : Int)))
          else
            some y.2.2.1) fun v3 =>
      some (.inr v3)
    else
    if (decide ((0 : Int) ≤ y.2.2.2.2.2.1)) = true then
    if (decide ((y.2.2.2.2.2.1 : Int) < ((List.length y.2.2.2.2.2.2 : Nat) : Int))) = true then
    Option.bind (y.2.2.2.2.2.2[0 + Int.toNat y.2.2.2.2.2.1]?) fun r4 =>
    Option.bind (α := (Int × (Bool × (Int × (List (List UInt8) × (Int × (Int × List Bool))))))) (
        if r4 = true then
          some (y.1, y.2.1, IntKind.wrap .i64 ((IntKind.wrap .i64 (y.2.2.1 + ((List.length r2 : Nat) : Int))) + 1), y.2.2.2.1, y.2.2.2.2.1, y.2.2.2.2.2.1, y.2.2.2.2.2.2)
        else
          some (y.1, y.2.1, IntKind.wrap .i64 (y.2.2.1 + ((List.length r2 : Nat) : Int)), y.2.2.2.1, y.2.2.2.2.1, y.2.2.2.2.2.1, y.2.2.2.2.2.2)) fun v5 =>
    some (.inl (v5.1, v5.2.1, v5.2.2.1, v5.2.2.2.1, v5.2.2.2.2.1, IntKind.wrap .i64 (v5.2.2.2.2.2.1 + 1), v5.2.2.2.2.2.2))
    else none
    else none
    else none
    else none
  else
    some (.inr y.2.2.1)
def s_l1Image (x0 : List (Int × (Int × List UInt8))) (x1 : Int) (x2 : Bool) : Option (Int) :=
  Option.bind (s_l1Open x0) fun c1 =>
  Option.bind (loopG s_l1Image_L1 (x1, x2, 0, c1.2, ((List.length c1.2 : Nat) : Int), 0, c1.1)) fun v6 =>
  some v6

def s_ImageOf (x0 : List (Int × (Int × List UInt8))) (x1 : Int) (x2 : Bool) : Option (Int) :=
  Option.bind (α := (List (Int × (Int × List UInt8)) × (Int × (Bool × Bool)))) (
      Option.bind (s_GoodChange x0) fun c1 =>
      if (!c1) = true then
        some (x0, x1, x2, true)
      else
        Option.bind (s_l1Source x0) fun c2 =>
        Option.bind (s_l1In x1 0 c2) fun c3 =>
        some (x0, x1, x2, (!c3))) fun v4 =>
  if v4.2.2.2 = true then
    some (-1)
  else
    Option.bind (s_l1Image v4.1 v4.2.1 v4.2.2.1) fun c5 =>
    some c5

def s_l1Target_L1 (y : (Int × (List (Int × (Int × List UInt8)) × (Int × Int)))) : Option ((Int × (List (Int × (Int × List UInt8)) × (Int × Int))) ⊕ Int) :=
  if (decide ((y.2.2.2 : Int) < y.2.2.1)) = true then
    if (decide ((0 : Int) ≤ y.2.2.2)) = true then
    Option.bind (y.2.1[Int.toNat y.2.2.2]?) fun r1 =>
    some (.inl (IntKind.wrap .i64 (y.1 + (IntKind.wrap .i64 (r1.1 + ((List.length r1.2.2 : Nat) : Int)))), y.2.1, y.2.2.1, IntKind.wrap .i64 (y.2.2.2 + 1)))
    else none
  else
    some (.inr y.1)
def s_l1Target (x0 : List (Int × (Int × List UInt8))) : Option (Int) :=
  Option.bind (loopG s_l1Target_L1 (0, x0, ((List.length x0 : Nat) : Int), 0)) fun v2 =>
  some v2

def s_LengthsOf (x0 : List (Int × (Int × List UInt8))) : Option ((Int × (Int × Bool))) :=
  Option.bind (s_GoodChange x0) fun c1 =>
  if (!c1) = true then
    some (0, 0, false)
  else
    Option.bind (s_l1Source x0) fun c2 =>
    Option.bind (s_l1Target x0) fun c3 =>
    some (c2, c3, true)

def l_FnImages (x0 : List Int) : Option (Bool) :=
  if (decide ((1048576 : Int) < ((List.length x0 : Nat) : Int))) = true then
    some true
  else
    Option.bind (s_DrawImageOf x0) fun c1 =>
    Option.bind (i_ImageOf c1.1 c1.2.1 c1.2.2) fun c2 =>
    Option.bind (s_ImageOf c1.1 c1.2.1 c1.2.2) fun c3 =>
    if (decide (¬ (c2 : Int) = c3)) = true then
      some false
    else
      Option.bind (s_LengthsOf c1.1) fun c4 =>
      Option.bind (α := (List (Int × (Int × List UInt8)) × (Int × (Int × (Int × (Int × Bool)))))) (
          if (!c4.2.2) = true then
            some (c1.1, c1.2.1, c2, c4.1, c4.2.1, true)
          else
          if (decide ((c1.2.1 : Int) < 0)) = true then
            some (c1.1, c1.2.1, c2, c4.1, c4.2.1, true)
          else
          some (c1.1, c1.2.1, c2, c4.1, c4.2.1, decide ((c4.1 : Int) < c1.2.1))) fun v5 =>
      if v5.2.2.2.2.2 = true then
        some (decide ((v5.2.2.1 : Int) = (-1)))
      else
        Option.bind (α := (List (Int × (Int × List UInt8)) × (Int × (Int × Bool)))) (
            if (decide ((v5.2.2.1 : Int) < 0)) = true then
              some (v5.1, v5.2.1, v5.2.2.2.1, true)
            else
            if (decide ((v5.2.2.2.2.1 : Int) < v5.2.2.1)) = true then
              some (v5.1, v5.2.1, v5.2.2.2.1, true)
            else
              Option.bind (i_ImageOf v5.1 v5.2.1 false) fun c6 =>
              Option.bind (i_ImageOf v5.1 v5.2.1 true) fun c7 =>
              some (v5.1, v5.2.1, v5.2.2.2.1, decide ((c7 : Int) < c6))) fun v8 =>
        if v8.2.2.2 = true then
          some false
        else
          Option.bind (α := Bool) (
              if (decide ((v8.2.1 : Int) = v8.2.2.1)) = true then
                some true
              else
                Option.bind (i_ImageOf v8.1 v8.2.1 true) fun c9 =>
                Option.bind (i_ImageOf v8.1 (IntKind.wrap .i64 (v8.2.1 + 1)) false) fun c10 =>
                some (decide ((c9 : Int) ≤ c10))) fun v11 =>
          some v11

def s_DrawGoodChange_L1 (y : (List (Int × (Int × List UInt8)) × (Int × (List Int × (Int × Int))))) : Option ((List (Int × (Int × List UInt8)) × (Int × (List Int × (Int × Int)))) ⊕ (List (Int × (Int × List UInt8)))) :=
  if (decide ((0 : Int) < y.2.1)) = true then
    Option.bind (s_l1Cur_part_f y.2.2.1 y.2.2.2.1 y.2.2.2.2) fun c4 =>
    if (roomFor (List.length y.1 + List.length ([(c4.1, (c4.2.1, c4.2.2.1))] : List (Int × (Int × List UInt8)))) 32) = true then
    some (.inl (y.1 ++ ([(c4.1, (c4.2.1, c4.2.2.1))] : List (Int × (Int × List UInt8))), IntKind.wrap .i64 (y.2.1 - 1), c4.2.2.2.1, c4.2.2.2.2.1, c4.2.2.2.2.2))
    else none
  else
    some (.inr y.1)
def s_DrawGoodChange (x0 : List Int) : Option (List (Int × (Int × List UInt8))) :=
  Option.bind (s_l1Cur_one_f 4 x0 0 0) fun c1 =>
  if c1.1 = true then
    Option.bind (s_l1Cur_pick_f 5 c1.2.1 c1.2.2.1 c1.2.2.2) fun c2 =>
    Option.bind (loopG s_DrawGoodChange_L1 ([], c2.1, c2.2.1, c2.2.2.1, c2.2.2.2)) fun v5 =>
    some v5
  else
    Option.bind (s_l1Cur_size_f c1.2.1 c1.2.2.1 c1.2.2.2) fun c6 =>
    Option.bind (s_l1Cur_changeOf_f c6.1 c6.2.1 c6.2.2.1 c6.2.2.2) fun c7 =>
    some c7.1

def s_DrawWriteChange (x0 : List Int) : Option (List (Int × (Int × List UInt8))) :=
  Option.bind (s_DrawGoodChange x0) fun c1 =>
  some c1

def i_writeChange_L1 (y : (List Int × (List (Int × (Int × List UInt8)) × (Int × Int)))) : Option ((List Int × (List (Int × (Int × List UInt8)) × (Int × Int))) ⊕ (List Int)) :=
  if (decide ((y.2.2.2 : Int) < y.2.2.1)) = true then
    if (decide ((0 : Int) ≤ y.2.2.2)) = true then
    Option.bind (y.2.1[Int.toNat y.2.2.2]?) fun r1 =>
    Option.bind (i_Part_kind r1.1 r1.2.1 r1.2.2) fun c2 =>
    if (roomFor (List.length y.1 + List.length ([IntKind.wrap .u8 c2, IntKind.wrap .u8 (IntKind.wrap .i64 ((IntKind.wrap .i64 (r1.1 + r1.2.1)) + ((List.length r1.2.2 : Nat) : Int)))] : List Int)) 1) = true then
    if (roomFor (List.length (y.1 ++ ([IntKind.wrap .u8 c2, IntKind.wrap .u8 (IntKind.wrap .i64 ((IntKind.wrap .i64 (r1.1 + r1.2.1)) + ((List.length r1.2.2 : Nat) : Int)))] : List Int)) + List.length (bytesOf r1.2.2)) 1) = true then
    some (.inl ((y.1 ++ ([IntKind.wrap .u8 c2, IntKind.wrap .u8 (IntKind.wrap .i64 ((IntKind.wrap .i64 (r1.1 + r1.2.1)) + ((List.length r1.2.2 : Nat) : Int)))] : List Int)) ++ (bytesOf r1.2.2), y.2.1, y.2.2.1, IntKind.wrap .i64 (y.2.2.2 + 1)))
    else none
    else none
    else none
  else
    some (.inr y.1)
def i_writeChange (x0 : List (Int × (Int × List UInt8))) : Option (List Int) :=
  Option.bind (loopG i_writeChange_L1 ([], x0, ((List.length x0 : Nat) : Int), 0)) fun v3 =>
  some v3

def i_WriteChange (x0 : List (Int × (Int × List UInt8))) : Option ((List Int × Bool)) :=
  Option.bind (i_GoodChange x0) fun c1 =>
  if (!c1) = true then
    some ([], false)
  else
    Option.bind (i_writeChange x0) fun c2 =>
    some (c2, true)

def s_l1Write_L1 (y : (List Int × (List (Int × (Int × List UInt8)) × (Int × Int)))) : Option ((List Int × (List (Int × (Int × List UInt8)) × (Int × Int))) ⊕ (List Int)) :=
  if (decide ((y.2.2.2 : Int) < y.2.2.1)) = true then
    if (decide ((0 : Int) ≤ y.2.2.2)) = true then
    Option.bind (y.2.1[Int.toNat y.2.2.2]?) fun r3 =>
    Option.bind (s_l1Kind r3.1 r3.2.1 r3.2.2) fun c4 =>
    if (roomFor (List.length y.1 + List.length ([IntKind.wrap .u8 c4, IntKind.wrap .u8 (IntKind.wrap .i64 ((IntKind.wrap .i64 (r3.1 + r3.2.1)) + ((List.length r3.2.2 : Nat) : Int)))] : List Int)) 1) = true then
    if (roomFor (List.length (y.1 ++ ([IntKind.wrap .u8 c4, IntKind.wrap .u8 (IntKind.wrap .i64 ((IntKind.wrap .i64 (r3.1 + r3.2.1)) + ((List.length r3.2.2 : Nat) : Int)))] : List Int)) + List.length (bytesOf r3.2.2)) 1) = true then
    some (.inl ((y.1 ++ ([IntKind.wrap .u8 c4, IntKind.wrap .u8 (IntKind.wrap .i64 ((IntKind.wrap .i64 (r3.1 + r3.2.1)) + ((List.length r3.2.2 : Nat) : Int)))] : List Int)) ++ (bytesOf r3.2.2), y.2.1, y.2.2.1, IntKind.wrap .i64 (y.2.2.2 + 1)))
    else none
    else none
    else none
  else
    some (.inr y.1)
def s_l1Write (x0 : List (Int × (Int × List UInt8))) : Option (List Int) :=
  Option.bind (loopG s_l1Write_L1 ([], x0, ((List.length x0 : Nat) : Int), 0)) fun v5 =>
  some v5

def s_WriteChange (x0 : List (Int × (Int × List UInt8))) : Option ((List Int × Bool)) :=
  Option.bind (s_GoodChange x0) fun c1 =>
  if (!c1) = true then
    some ([], false)
  else
    Option.bind (s_l1Write x0) fun c2 =>
    some (c2, true)

def i_ReadChange_L1 (y : (List Int × List (Int × (Int × List UInt8)))) : Option ((List Int × List (Int × (Int × List UInt8))) ⊕ (List (Int × (Int × List UInt8)) ⊕ Bool)) :=
  if (decide ((0 : Int) < ((List.length y.1 : Nat) : Int))) = true then
    if (decide ((((List.length y.1 : Nat) : Int) : Int) < 2)) = true then
      some (.inr (.inr false))
    else
    if (decide ((0 : Int) ≤ 0)) = true then
    Option.bind (y.1[Int.toNat 0]?) fun r1 =>
    if (decide ((0 : Int) ≤ 1)) = true then
    Option.bind (y.1[Int.toNat 1]?) fun r2 =>
    if (decide ((0 : Int) ≤ 2)) = true then
    if (decide ((2 : Int) ≤ ((List.length y.1 : Nat) : Int))) = true then
    if (decide ((((List.length y.1 : Nat) : Int) : Int) ≤ ((List.length y.1 : Nat) : Int))) = true then
    if (decide ((((List.length y.1 : Nat) : Int) : Int) ≤ ((List.length y.1 : Nat) : Int))) = true then
    Option.bind (α := (List Int × List (Int × (Int × List UInt8))) ⊕ Bool) (
        if (decide ((r1 : Int) = 1)) = true then
          if (roomFor (List.length y.2 + List.length ([(IntKind.wrap .i64 r2, (0, []))] : List (Int × (Int × List UInt8)))) 32) = true then
          some (.inl ((List.drop (Int.toNat 2) y.1).take (Int.toNat ((List.length y.1 : Nat) : Int) - Int.toNat 2), y.2 ++ ([(IntKind.wrap .i64 r2, (0, []))] : List (Int × (Int × List UInt8)))))
          else none
        else
          Option.bind (α := (List Int × List (Int × (Int × List UInt8))) ⊕ Bool) (
              if (decide ((r1 : Int) = 2)) = true then
                if (roomFor (List.length y.2 + List.length ([(0, (IntKind.wrap .i64 r2, []))] : List (Int × (Int × List UInt8)))) 32) = true then
                some (.inl ((List.drop (Int.toNat 2) y.1).take (Int.toNat ((List.length y.1 : Nat) : Int) - Int.toNat 2), y.2 ++ ([(0, (IntKind.wrap .i64 r2, []))] : List (Int × (Int × List UInt8)))))
                else none
              else
                Option.bind (α := (List Int × (List (Int × (Int × List UInt8)) × (Int × Bool)))) (
                    if (decide ((r1 : Int) = 3)) = true then
                      some ((List.drop (Int.toNat 2) y.1).take (Int.toNat ((List.length y.1 : Nat) : Int) - Int.toNat 2), y.2, IntKind.wrap .i64 r2, decide ((IntKind.wrap .i64 r2 : Int) ≤ ((List.length ((List.drop (Int.toNat 2) y.1).take (Int.toNat ((List.length y.1 : Nat) : Int) - Int.toNat 2)) : Nat) : Int)))
                    else
                    some ((List.drop (Int.toNat 2) y.1).take (Int.toNat ((List.length y.1 : Nat) : Int) - Int.toNat 2), y.2, IntKind.wrap .i64 r2, false)) fun v3 =>
                if v3.2.2.2 = true then
                  if (decide ((0 : Int) ≤ 0)) = true then
                  if (decide ((0 : Int) ≤ v3.2.2.1)) = true then
                  if (decide ((v3.2.2.1 : Int) ≤ ((List.length v3.1 : Nat) : Int))) = true then
                  if (decide ((((List.length v3.1 : Nat) : Int) : Int) ≤ ((List.length v3.1 : Nat) : Int))) = true then
                  if (roomFor (List.length v3.2.1 + List.length ([(0, (0, textOf ((List.drop (Int.toNat 0) v3.1).take (Int.toNat v3.2.2.1 - Int.toNat 0))))] : List (Int × (Int × List UInt8)))) 32) = true then
                  if (decide ((0 : Int) ≤ v3.2.2.1)) = true then
                  if (decide ((v3.2.2.1 : Int) ≤ ((List.length v3.1 : Nat) : Int))) = true then
                  if (decide ((((List.length v3.1 : Nat) : Int) : Int) ≤ ((List.length v3.1 : Nat) : Int))) = true then
                  if (decide ((((List.length v3.1 : Nat) : Int) : Int) ≤ ((List.length v3.1 : Nat) : Int))) = true then
                  some (.inl ((List.drop (Int.toNat v3.2.2.1) v3.1).take (Int.toNat ((List.length v3.1 : Nat) : Int) - Int.toNat v3.2.2.1), v3.2.1 ++ ([(0, (0, textOf ((List.drop (Int.toNat 0) v3.1).take (Int.toNat v3.2.2.1 - Int.toNat 0))))] : List (Int × (Int × List UInt8)))))
                  else none
                  else none
                  else none
                  else none
                  else none
                  else none
                  else none
                  else none
                  else none
                else
                  some (.inr false)) fun v4 =>
          match v4 with
          | .inl y5 =>
            some (.inl (y5.1, y5.2))
          | .inr s6 =>
            some (.inr s6)) fun v7 =>
    match v7 with
    | .inl y8 =>
      some (.inl (y8.1, y8.2))
    | .inr s9 =>
      some (.inr (.inr s9))
    else none
    else none
    else none
    else none
    else none
    else none
  else
    some (.inr (.inl y.2))
def i_ReadChange (x0 : List Int) : Option ((List (Int × (Int × List UInt8)) × Bool)) :=
  Option.bind (loopG i_ReadChange_L1 (x0, [])) fun v10 =>
  match v10 with
  | .inl y11 =>
    Option.bind (i_GoodChange y11) fun c13 =>
    if (!c13) = true then
      some ([], false)
    else
      some (y11, true)
  | .inr s12 =>
    some ([], s12)

def l_sameParts_L1 (y : (List (Int × (Int × List UInt8)) × (List (Int × (Int × List UInt8)) × (Int × Int)))) : Option ((List (Int × (Int × List UInt8)) × (List (Int × (Int × List UInt8)) × (Int × Int))) ⊕ (Unit ⊕ Bool)) :=
  if (decide ((y.2.2.2 : Int) < y.2.2.1)) = true then
    if (decide ((0 : Int) ≤ y.2.2.2)) = true then
    Option.bind (y.1[Int.toNat y.2.2.2]?) fun r1 =>
    if (decide ((0 : Int) ≤ y.2.2.2)) = true then
    Option.bind (y.2.1[Int.toNat y.2.2.2]?) fun r2 =>
    if (!(decide ((r1.1 : Int) = r2.1) && (decide ((r1.2.1 : Int) = r2.2.1) && (((r1.2.2 : List UInt8) == r2.2.2) && true)))) = true then
      some (.inr (.inr false))
    else
      some (.inl (y.1, y.2.1, y.2.2.1, IntKind.wrap .i64 (y.2.2.2 + 1)))
    else none
    else none
  else
    some (.inr (.inl ()))
def l_sameParts (x0 : List (Int × (Int × List UInt8))) (x1 : List (Int × (Int × List UInt8))) : Option (Bool) :=
  if (decide (¬ (((List.length x0 : Nat) : Int) : Int) = ((List.length x1 : Nat) : Int))) = true then
    some false
  else
    Option.bind (loopG l_sameParts_L1 (x0, x1, ((List.length x0 : Nat) : Int), 0)) fun v3 =>
    match v3 with
    | .inl y4 =>
      some true
    | .inr s5 =>
      some s5

def s_DrawNormalOf_L1 (y : (List (Int × (Int × List UInt8)) × (Int × (List Int × (Int × Int))))) : Option ((List (Int × (Int × List UInt8)) × (Int × (List Int × (Int × Int)))) ⊕ (List (Int × (Int × List UInt8)) × (List Int × (Int × Int)))) :=
  if (decide ((0 : Int) < y.2.1)) = true then
    Option.bind (s_l1Cur_pick_f 4 y.2.2.1 y.2.2.2.1 y.2.2.2.2) fun c12 =>
    Option.bind (α := (List (Int × (Int × List UInt8)) × (Int × (List Int × (Int × Int))))) (
        if (decide ((c12.1 : Int) = 0)) = true then
          Option.bind (s_l1Cur_pick_f 5 c12.2.1 c12.2.2.1 c12.2.2.2) fun c13 =>
          if (roomFor (List.length y.1 + List.length ([(c13.1, (0, []))] : List (Int × (Int × List UInt8)))) 32) = true then
          some (y.1 ++ ([(c13.1, (0, []))] : List (Int × (Int × List UInt8))), y.2.1, c13.2.1, c13.2.2.1, c13.2.2.2)
          else none
        else
          Option.bind (α := (List (Int × (Int × List UInt8)) × (Int × (List Int × (Int × Int))))) (
              if (decide ((c12.1 : Int) = 1)) = true then
                Option.bind (s_l1Cur_pick_f 5 c12.2.1 c12.2.2.1 c12.2.2.2) fun c14 =>
                if (roomFor (List.length y.1 + List.length ([(0, (c14.1, []))] : List (Int × (Int × List UInt8)))) 32) = true then
                some (y.1 ++ ([(0, (c14.1, []))] : List (Int × (Int × List UInt8))), y.2.1, c14.2.1, c14.2.2.1, c14.2.2.2)
                else none
              else
                Option.bind (α := (List (Int × (Int × List UInt8)) × (Int × (List Int × (Int × Int))))) (
                    if (decide ((c12.1 : Int) = 2)) = true then
                      Option.bind (s_l1Cur_put_f c12.2.1 c12.2.2.1 c12.2.2.2) fun c15 =>
                      if (roomFor (List.length y.1 + List.length ([(0, (0, c15.1))] : List (Int × (Int × List UInt8)))) 32) = true then
                      some (y.1 ++ ([(0, (0, c15.1))] : List (Int × (Int × List UInt8))), y.2.1, c15.2.1, c15.2.2.1, c15.2.2.2)
                      else none
                    else
                      Option.bind (s_l1Cur_one_f 12 c12.2.1 c12.2.2.1 c12.2.2.2) fun c16 =>
                      Option.bind (α := (List (Int × (Int × List UInt8)) × (Int × (List Int × (Int × Int))))) (
                          if c16.1 = true then
                            Option.bind (s_l1Cur_part_f c16.2.1 c16.2.2.1 c16.2.2.2) fun c17 =>
                            if (roomFor (List.length y.1 + List.length ([(c17.1, (c17.2.1, c17.2.2.1))] : List (Int × (Int × List UInt8)))) 32) = true then
                            some (y.1 ++ ([(c17.1, (c17.2.1, c17.2.2.1))] : List (Int × (Int × List UInt8))), y.2.1, c17.2.2.2.1, c17.2.2.2.2.1, c17.2.2.2.2.2)
                            else none
                          else
                            some (y.1, y.2.1, c16.2.1, c16.2.2.1, c16.2.2.2)) fun v18 =>
                      some (v18.1, v18.2.1, v18.2.2.1, v18.2.2.2.1, v18.2.2.2.2)) fun v19 =>
                some (v19.1, v19.2.1, v19.2.2.1, v19.2.2.2.1, v19.2.2.2.2)) fun v20 =>
          some (v20.1, v20.2.1, v20.2.2.1, v20.2.2.2.1, v20.2.2.2.2)) fun v21 =>
    some (.inl (v21.1, IntKind.wrap .i64 (v21.2.1 - 1), v21.2.2.1, v21.2.2.2.1, v21.2.2.2.2))
  else
    some (.inr (y.1, y.2.2.1, y.2.2.2.1, y.2.2.2.2))
def s_DrawNormalOf (x0 : List Int) : Option (List (Int × (Int × List UInt8))) :=
  Option.bind (s_l1Cur_pick_f 9 x0 0 0) fun c1 =>
  Option.bind (loopG s_DrawNormalOf_L1 ([], c1.1, c1.2.1, c1.2.2.1, c1.2.2.2)) fun v22 =>
  Option.bind (s_l1Cur_one_f 60 v22.2.1 v22.2.2.1 v22.2.2.2) fun c23 =>
  Option.bind (α := List (Int × (Int × List UInt8))) (
      if c23.1 = true then
        Option.bind (s_l1Cur_pick_f 2 c23.2.1 c23.2.2.1 c23.2.2.2) fun c24 =>
        if (decide ((0 : Int) ≤ IntKind.wrap .i64 (500 + c24.1))) = true then
        if (decide ((IntKind.wrap .i64 (500 + c24.1) : Int) ≤ IntKind.wrap .i64 (500 + c24.1))) = true then
        if (roomFor (Int.toNat (IntKind.wrap .i64 (500 + c24.1))) 32) = true then
        some (List.replicate (Int.toNat (IntKind.wrap .i64 (500 + c24.1))) ((0, (0, [])) : (Int × (Int × List UInt8))))
        else none
        else none
        else none
      else
        some v22.1) fun v25 =>
  some v25

def i_builder_add_o (x0 : Int) (x1 : Int) (x2 : List UInt8) (x3 : List (Int × (Int × List UInt8))) : Option (List (Int × (Int × List UInt8))) :=
  Option.bind (α := List (Int × (Int × List UInt8))) (
      if (decide ((x0 : Int) = 0) && (decide ((x1 : Int) = 0) && (((x2 : List UInt8) == []) && true))) = true then
        some x3
      else
        Option.bind (α := (Int × (Bool × (Int × (Int × (List UInt8 × List (Int × (Int × List UInt8)))))))) (
            if (decide ((0 : Int) < ((List.length x3 : Nat) : Int))) = true then
              if (decide ((0 : Int) ≤ IntKind.wrap .i64 (((List.length x3 : Nat) : Int) - 1))) = true then
              if (decide ((IntKind.wrap .i64 (((List.length x3 : Nat) : Int) - 1) : Int) < ((List.length x3 : Nat) : Int))) = true then
              Option.bind (x3[0 + Int.toNat (IntKind.wrap .i64 (((List.length x3 : Nat) : Int) - 1))]?) fun r1 =>
              Option.bind (x3[0 + Int.toNat (IntKind.wrap .i64 (((List.length x3 : Nat) : Int) - 1))]?) fun r2 =>
              Option.bind (x3[0 + Int.toNat (IntKind.wrap .i64 (((List.length x3 : Nat) : Int) - 1))]?) fun r3 =>
              Option.bind (i_Part_kind r1.1 r2.2.1 r3.2.2) fun c4 =>
              Option.bind (i_Part_kind x0 x1 x2) fun c5 =>
              some (((List.length x3 : Nat) : Int), decide ((c4 : Int) = c5), x0, x1, x2, x3)
              else none
              else none
            else
            some (((List.length x3 : Nat) : Int), false, x0, x1, x2, x3)) fun v6 =>
        Option.bind (α := List (Int × (Int × List UInt8))) (
            if v6.2.1 = true then
              if (decide ((0 : Int) ≤ IntKind.wrap .i64 (v6.1 - 1))) = true then
              if (decide ((IntKind.wrap .i64 (v6.1 - 1) : Int) < ((List.length v6.2.2.2.2.2 : Nat) : Int))) = true then
              Option.bind (v6.2.2.2.2.2[0 + Int.toNat (IntKind.wrap .i64 (v6.1 - 1))]?) fun r7 =>
              Option.bind (v6.2.2.2.2.2[0 + Int.toNat (IntKind.wrap .i64 (v6.1 - 1))]?) fun r8 =>
              Option.bind (v6.2.2.2.2.2[0 + Int.toNat (IntKind.wrap .i64 (v6.1 - 1))]?) fun r9 =>
              if (decide ((List.length r9.2.2 + List.length v6.2.2.2.2.1 : Nat) ≤ 9223372036854775807)) = true then
              Option.bind (v6.2.2.2.2.2[0 + Int.toNat (IntKind.wrap .i64 (v6.1 - 1))]?) fun r10 =>
              Option.bind (v6.2.2.2.2.2[0 + Int.toNat (IntKind.wrap .i64 (v6.1 - 1))]?) fun r11 =>
              Option.bind ((v6.2.2.2.2.2.set (0 + Int.toNat (IntKind.wrap .i64 (v6.1 - 1))) (IntKind.wrap .i64 (r7.1 + v6.2.2.1), r11.2))[0 + Int.toNat (IntKind.wrap .i64 (v6.1 - 1))]?) fun r12 =>
              Option.bind ((v6.2.2.2.2.2.set (0 + Int.toNat (IntKind.wrap .i64 (v6.1 - 1))) (IntKind.wrap .i64 (r7.1 + v6.2.2.1), r11.2))[0 + Int.toNat (IntKind.wrap .i64 (v6.1 - 1))]?) fun r13 =>
              Option.bind (((v6.2.2.2.2.2.set (0 + Int.toNat (IntKind.wrap .i64 (v6.1 - 1))) (IntKind.wrap .i64 (r7.1 + v6.2.2.1), r11.2)).set (0 + Int.toNat (IntKind.wrap .i64 (v6.1 - 1))) (r13.1, (IntKind.wrap .i64 (r8.2.1 + v6.2.2.2.1), r13.2.2)))[0 + Int.toNat (IntKind.wrap .i64 (v6.1 - 1))]?) fun r14 =>
              Option.bind (((v6.2.2.2.2.2.set (0 + Int.toNat (IntKind.wrap .i64 (v6.1 - 1))) (IntKind.wrap .i64 (r7.1 + v6.2.2.1), r11.2)).set (0 + Int.toNat (IntKind.wrap .i64 (v6.1 - 1))) (r13.1, (IntKind.wrap .i64 (r8.2.1 + v6.2.2.2.1), r13.2.2)))[0 + Int.toNat (IntKind.wrap .i64 (v6.1 - 1))]?) fun r15 =>
              some (((v6.2.2.2.2.2.set (0 + Int.toNat (IntKind.wrap .i64 (v6.1 - 1))) (IntKind.wrap .i64 (r7.1 + v6.2.2.1), r11.2)).set (0 + Int.toNat (IntKind.wrap .i64 (v6.1 - 1))) (r13.1, (IntKind.wrap .i64 (r8.2.1 + v6.2.2.2.1), r13.2.2))).set (0 + Int.toNat (IntKind.wrap .i64 (v6.1 - 1))) (r15.1, (r15.2.1, (r9.2.2 : List UInt8) ++ v6.2.2.2.2.1)))
              else none
              else none
              else none
            else
            if (roomFor (List.length v6.2.2.2.2.2 + List.length ([(v6.2.2.1, (v6.2.2.2.1, v6.2.2.2.2.1))] : List (Int × (Int × List UInt8)))) 32) = true then
            some (v6.2.2.2.2.2 ++ ([(v6.2.2.1, (v6.2.2.2.1, v6.2.2.2.2.1))] : List (Int × (Int × List UInt8))))
            else none) fun v16 =>
        some v16) fun v17 =>
  some v17

def i_NormalOf_L1 (y : (List (Int × (Int × List UInt8)) × (Int × (Int × List (Int × (Int × List UInt8)))))) : Option ((List (Int × (Int × List UInt8)) × (Int × (Int × List (Int × (Int × List UInt8))))) ⊕ (List (Int × (Int × List UInt8)) ⊕ Bool)) :=
  if (decide ((y.2.2.1 : Int) < y.2.1)) = true then
    if (decide ((0 : Int) ≤ y.2.2.1)) = true then
    Option.bind (y.1[Int.toNat y.2.2.1]?) fun r5 =>
    Option.bind (α := (List (Int × (Int × List UInt8)) × (Int × (Int × (Bool × (List (Int × (Int × List UInt8)) × (Int × (Int × List UInt8)))))))) (
        if (!(decide ((r5.1 : Int) = 0) && (decide ((r5.2.1 : Int) = 0) && (((r5.2.2 : List UInt8) == []) && true)))) = true then
          Option.bind (i_Part_kind r5.1 r5.2.1 r5.2.2) fun c6 =>
          if (decide ((c6 : Int) = 0)) = true then
            some (y.1, y.2.1, y.2.2.1, true, y.2.2.2, r5.1, r5.2.1, r5.2.2)
          else
          if (decide ((120 : Int) < r5.1)) = true then
            some (y.1, y.2.1, y.2.2.1, true, y.2.2.2, r5.1, r5.2.1, r5.2.2)
          else
          some (y.1, y.2.1, y.2.2.1, decide ((120 : Int) < r5.2.1), y.2.2.2, r5.1, r5.2.1, r5.2.2)
        else
        if (decide ((120 : Int) < r5.1)) = true then
          some (y.1, y.2.1, y.2.2.1, true, y.2.2.2, r5.1, r5.2.1, r5.2.2)
        else
        some (y.1, y.2.1, y.2.2.1, decide ((120 : Int) < r5.2.1), y.2.2.2, r5.1, r5.2.1, r5.2.2)) fun v7 =>
    if v7.2.2.2.1 = true then
      some (.inr (.inr false))
    else
      Option.bind (i_builder_add_o v7.2.2.2.2.2.1 v7.2.2.2.2.2.2.1 v7.2.2.2.2.2.2.2 v7.2.2.2.2.1) fun c8 =>
      some (.inl (v7.1, v7.2.1, IntKind.wrap .i64 (v7.2.2.1 + 1), c8))
    else none
  else
    some (.inr (.inl y.2.2.2))
def i_NormalOf (x0 : List (Int × (Int × List UInt8))) : Option ((List (Int × (Int × List UInt8)) × Bool)) :=
  if (decide ((500 : Int) < ((List.length x0 : Nat) : Int))) = true then
    some ([], false)
  else
    Option.bind (loopG i_NormalOf_L1 (x0, ((List.length x0 : Nat) : Int), 0, [])) fun v9 =>
    match v9 with
    | .inl y10 =>
      Option.bind (i_GoodChange y10) fun c12 =>
      if (!c12) = true then
        some ([], false)
      else
        some (y10, true)
    | .inr s11 =>
      some ([], s11)

def s_NormalOf_L1 (y : (List (Int × (Int × List UInt8)) × (List (Int × (Int × List UInt8)) × (Int × Int)))) : Option ((List (Int × (Int × List UInt8)) × (List (Int × (Int × List UInt8)) × (Int × Int))) ⊕ (List (Int × (Int × List UInt8)) ⊕ Bool)) :=
  if (decide ((y.2.2.2 : Int) < y.2.2.1)) = true then
    if (decide ((0 : Int) ≤ y.2.2.2)) = true then
    Option.bind (y.2.1[Int.toNat y.2.2.2]?) fun r7 =>
    Option.bind (α := (List (Int × (Int × List UInt8)) × (List (Int × (Int × List UInt8)) × (Int × (Int × (Bool × (Int × (Int × List UInt8)))))))) (
        Option.bind (s_l1In r7.1 0 120) fun c8 =>
        if (!c8) = true then
          some (y.1, y.2.1, y.2.2.1, y.2.2.2, true, r7.1, r7.2.1, r7.2.2)
        else
          Option.bind (s_l1In r7.2.1 0 120) fun c9 =>
          if (!c9) = true then
            some (y.1, y.2.1, y.2.2.1, y.2.2.2, true, r7.1, r7.2.1, r7.2.2)
          else
            Option.bind (s_l1Kind r7.1 r7.2.1 r7.2.2) fun c10 =>
            if (decide ((c10 : Int) = 0)) = true then
              some (y.1, y.2.1, y.2.2.1, y.2.2.2, (!(decide ((r7.1 : Int) = 0) && (decide ((r7.2.1 : Int) = 0) && (((r7.2.2 : List UInt8) == []) && true)))), r7.1, r7.2.1, r7.2.2)
            else
            some (y.1, y.2.1, y.2.2.1, y.2.2.2, false, r7.1, r7.2.1, r7.2.2)) fun v11 =>
    if v11.2.2.2.2.1 = true then
      some (.inr (.inr false))
    else
      Option.bind (s_l1Add v11.1 v11.2.2.2.2.2.1 v11.2.2.2.2.2.2.1 v11.2.2.2.2.2.2.2) fun c12 =>
      some (.inl (c12, v11.2.1, v11.2.2.1, IntKind.wrap .i64 (v11.2.2.2.1 + 1)))
    else none
  else
    some (.inr (.inl y.1))
def s_NormalOf (x0 : List (Int × (Int × List UInt8))) : Option ((List (Int × (Int × List UInt8)) × Bool)) :=
  if (decide ((500 : Int) < ((List.length x0 : Nat) : Int))) = true then
    some ([], false)
  else
    Option.bind (loopG s_NormalOf_L1 ([], x0, ((List.length x0 : Nat) : Int), 0)) fun v13 =>
    match v13 with
    | .inl y14 =>
      Option.bind (s_GoodChange y14) fun c16 =>
      if (!c16) = true then
        some ([], false)
      else
        some (y14, true)
    | .inr s15 =>
      some ([], s15)

def l_FnWritten (x0 : List Int) (x1 : List Int) : Option (Bool) :=
  if (decide ((1048576 : Int) < (IntKind.wrap .i64 (((List.length x0 : Nat) : Int) + ((List.length x1 : Nat) : Int))))) = true then
    some true
  else
    Option.bind (s_DrawWriteChange x0) fun c1 =>
    Option.bind (i_WriteChange c1) fun c2 =>
    Option.bind (s_WriteChange c1) fun c3 =>
    if (c2.2 != c3.2) = true then
      some false
    else
      Option.bind (α := List Int ⊕ Bool) (
          if c2.2 = true then
            Option.bind (i_ReadChange c2.1) fun c4 =>
            Option.bind (α := (List Int × Bool)) (
                if (!c4.2) = true then
                  some (x1, true)
                else
                  Option.bind (l_sameParts c1 c4.1) fun c5 =>
                  some (x1, (!c5))) fun v6 =>
            if v6.2 = true then
              some (.inr false)
            else
              some (.inl v6.1)
          else
            some (.inl x1)) fun v7 =>
      match v7 with
      | .inl y8 =>
        Option.bind (s_DrawNormalOf y8) fun c10 =>
        Option.bind (i_NormalOf c10) fun c11 =>
        Option.bind (s_NormalOf c10) fun c12 =>
        if (c11.2 != c12.2) = true then
          some false
        else
        if (!c11.2) = true then
          some (decide ((((List.length c11.1 : Nat) : Int) : Int) = 0))
        else
          Option.bind (i_NormalOf c11.1) fun c13 =>
          Option.bind (α := Bool) (
              if c13.2 = true then
                Option.bind (l_sameParts c11.1 c13.1) fun c14 =>
                if c14 = true then
                  Option.bind (i_GoodChange c11.1) fun c15 =>
                  some c15
                else
                some false
              else
              some false) fun v16 =>
          some v16
      | .inr s9 =>
        some s9

def s_DrawCarryChange (x0 : List Int) : Option ((List (Int × (Int × List UInt8)) × (List (Int × (Int × List UInt8)) × Bool))) :=
  Option.bind (s_l1Cur_size_f x0 0 0) fun c1 =>
  Option.bind (s_l1Cur_changeOf_f c1.1 c1.2.1 c1.2.2.1 c1.2.2.2) fun c2 =>
  Option.bind (s_l1Cur_one_f 16 c2.2.1 c2.2.2.1 c2.2.2.2) fun c3 =>
  Option.bind (α := (Int × (List (Int × (Int × List UInt8)) × (List Int × (Int × Int))))) (
      if c3.1 = true then
        some (IntKind.wrap .i64 (c1.1 + 1), c2.1, c3.2.1, c3.2.2.1, c3.2.2.2)
      else
        some (c1.1, c2.1, c3.2.1, c3.2.2.1, c3.2.2.2)) fun v4 =>
  Option.bind (s_l1Cur_changeOf_f v4.1 v4.2.2.1 v4.2.2.2.1 v4.2.2.2.2) fun c5 =>
  Option.bind (s_l1Cur_one_f 2 c5.2.1 c5.2.2.1 c5.2.2.2) fun c6 =>
  some (v4.2.1, c5.1, c6.1)

def i_fits (x0 : List (Int × (Int × List UInt8))) (x1 : Int) : Option (Bool) :=
  Option.bind (i_LengthsOf x0) fun c1 =>
  Option.bind (α := Bool) (
      if c1.2.2 = true then
        some (decide ((c1.1 : Int) = x1))
      else
      some false) fun v2 =>
  some v2

def i_carry_L1 (y : (Bool × (Int × (Int × (List Bool × (List (List UInt8) × (List Bool × (List (List UInt8) × List (Int × (Int × List UInt8)))))))))) : Option ((Bool × (Int × (Int × (List Bool × (List (List UInt8) × (List Bool × (List (List UInt8) × List (Int × (Int × List UInt8))))))))) ⊕ (List (Int × (Int × List UInt8)))) :=
  if (decide ((y.2.2.1 : Int) < y.2.1)) = true then
    if (decide ((0 : Int) ≤ y.2.2.1)) = true then
    if (decide ((y.2.2.1 : Int) < ((List.length y.2.2.2.2.1 : Nat) : Int))) = true then
    Option.bind (y.2.2.2.2.1[0 + Int.toNat y.2.2.1]?) fun r17 =>
    Option.bind (α := (Bool × (Int × (Int × (Int × (List Bool × (List (List UInt8) × (List Bool × (List (List UInt8) × (List (Int × (Int × List UInt8)) × (Int × (Int × List UInt8)))))))))))) (
        if y.1 = true then
          Option.bind (i_builder_add_o 0 0 r17 y.2.2.2.2.2.2.2) fun c18 =>
          some (y.1, y.2.2.1, y.2.1, y.2.2.1, y.2.2.2.1, y.2.2.2.2.1, y.2.2.2.2.2.1, y.2.2.2.2.2.2.1, c18, 0, 0, r17)
        else
          some (y.1, y.2.2.1, y.2.1, y.2.2.1, y.2.2.2.1, y.2.2.2.2.1, y.2.2.2.2.2.1, y.2.2.2.2.2.2.1, y.2.2.2.2.2.2.2, 0, 0, r17)) fun v19 =>
    if (decide ((0 : Int) ≤ v19.2.1)) = true then
    if (decide ((v19.2.1 : Int) < ((List.length v19.2.2.2.2.2.2.2.1 : Nat) : Int))) = true then
    Option.bind (v19.2.2.2.2.2.2.2.1[0 + Int.toNat v19.2.1]?) fun r20 =>
    Option.bind (i_builder_add_o ((List.length r20 : Nat) : Int) 0 [] v19.2.2.2.2.2.2.2.2.1) fun c21 =>
    Option.bind (α := (Bool × (Int × (Int × (Int × (List Bool × (List (List UInt8) × (List Bool × (List (List UInt8) × List (Int × (Int × List UInt8))))))))))) (
        if (!v19.1) = true then
          Option.bind (i_builder_add_o v19.2.2.2.2.2.2.2.2.2.1 v19.2.2.2.2.2.2.2.2.2.2.1 v19.2.2.2.2.2.2.2.2.2.2.2 c21) fun c22 =>
          some (v19.1, v19.2.1, v19.2.2.1, v19.2.2.2.1, v19.2.2.2.2.1, v19.2.2.2.2.2.1, v19.2.2.2.2.2.2.1, v19.2.2.2.2.2.2.2.1, c22)
        else
          some (v19.1, v19.2.1, v19.2.2.1, v19.2.2.2.1, v19.2.2.2.2.1, v19.2.2.2.2.2.1, v19.2.2.2.2.2.2.1, v19.2.2.2.2.2.2.2.1, c21)) fun v23 =>
    Option.bind (α := (Bool × (Int × (Int × (Int × (Bool × (List Bool × (List (List UInt8) × (List Bool × (List (List UInt8) × List (Int × (Int × List UInt8)))))))))))) (
        if (decide ((v23.2.1 : Int) = ((List.length v23.2.2.2.2.1 : Nat) : Int))) = true then
          some (v23.1, v23.2.1, v23.2.2.1, v23.2.2.2.1, true, v23.2.2.2.2.1, v23.2.2.2.2.2.1, v23.2.2.2.2.2.2.1, v23.2.2.2.2.2.2.2.1, v23.2.2.2.2.2.2.2.2)
        else
        if (decide ((0 : Int) ≤ v23.2.1)) = true then
        if (decide ((v23.2.1 : Int) < ((List.length v23.2.2.2.2.2.2.1 : Nat) : Int))) = true then
        Option.bind (v23.2.2.2.2.2.2.1[0 + Int.toNat v23.2.1]?) fun r24 =>
        some (v23.1, v23.2.1, v23.2.2.1, v23.2.2.2.1, (!r24), v23.2.2.2.2.1, v23.2.2.2.2.2.1, v23.2.2.2.2.2.2.1, v23.2.2.2.2.2.2.2.1, v23.2.2.2.2.2.2.2.2)
        else none
        else none) fun v25 =>
    Option.bind (α := (Bool × (Int × (Int × (List Bool × (List (List UInt8) × (List Bool × (List (List UInt8) × List (Int × (Int × List UInt8)))))))))) (
        if v25.2.2.2.2.1 = true then
          some (v25.1, v25.2.2.1, v25.2.2.2.1, v25.2.2.2.2.2.1, v25.2.2.2.2.2.2.1, v25.2.2.2.2.2.2.2.1, v25.2.2.2.2.2.2.2.2.1, v25.2.2.2.2.2.2.2.2.2)
        else
        if (decide ((0 : Int) ≤ v25.2.1)) = true then
        if (decide ((v25.2.1 : Int) < ((List.length v25.2.2.2.2.2.1 : Nat) : Int))) = true then
        Option.bind (v25.2.2.2.2.2.1[0 + Int.toNat v25.2.1]?) fun r26 =>
        Option.bind (α := (Bool × (Int × (Int × (List Bool × (List (List UInt8) × (List Bool × (List (List UInt8) × List (Int × (Int × List UInt8)))))))))) (
            if r26 = true then
              Option.bind (i_builder_add_o 1 0 [] v25.2.2.2.2.2.2.2.2.2) fun c27 =>
              some (v25.1, v25.2.2.1, v25.2.2.2.1, v25.2.2.2.2.2.1, v25.2.2.2.2.2.2.1, v25.2.2.2.2.2.2.2.1, v25.2.2.2.2.2.2.2.2.1, c27)
            else
              Option.bind (i_builder_add_o 0 1 [] v25.2.2.2.2.2.2.2.2.2) fun c28 =>
              some (v25.1, v25.2.2.1, v25.2.2.2.1, v25.2.2.2.2.2.1, v25.2.2.2.2.2.2.1, v25.2.2.2.2.2.2.2.1, v25.2.2.2.2.2.2.2.2.1, c28)) fun v29 =>
        some (v29.1, v29.2.1, v29.2.2.1, v29.2.2.2.1, v29.2.2.2.2.1, v29.2.2.2.2.2.1, v29.2.2.2.2.2.2.1, v29.2.2.2.2.2.2.2)
        else none
        else none) fun v30 =>
    some (.inl (v30.1, v30.2.1, IntKind.wrap .i64 (v30.2.2.1 + 1), v30.2.2.2.1, v30.2.2.2.2.1, v30.2.2.2.2.2.1, v30.2.2.2.2.2.2.1, v30.2.2.2.2.2.2.2))
    else none
    else none
    else none
    else none
  else
    some (.inr y.2.2.2.2.2.2.2)
def i_carry (x0 : List (Int × (Int × List UInt8))) (x1 : List (Int × (Int × List UInt8))) (x2 : Bool) : Option ((List (Int × (Int × List UInt8)) × Bool)) :=
  Option.bind (i_tell x0) fun c1 =>
  Option.bind (i_tell x1) fun c2 =>
  Option.bind (loopG i_carry_L1 (x2, ((List.length c1.2 : Nat) : Int), 0, c1.1, c1.2, c2.1, c2.2, [])) fun v31 =>
  Option.bind (i_GoodChange v31) fun c32 =>
  some (v31, c32)

def i_CarryChange (x0 : List (Int × (Int × List UInt8))) (x1 : List (Int × (Int × List UInt8))) (x2 : Bool) : Option ((List (Int × (Int × List UInt8)) × Bool)) :=
  Option.bind (i_LengthsOf x1) fun c1 =>
  Option.bind (α := (List (Int × (Int × List UInt8)) × (List (Int × (Int × List UInt8)) × (Bool × Bool)))) (
      if (!c1.2.2) = true then
        some (x0, x1, x2, true)
      else
        Option.bind (i_fits x0 c1.1) fun c2 =>
        some (x0, x1, x2, (!c2))) fun v3 =>
  if v3.2.2.2 = true then
    some ([], false)
  else
    Option.bind (i_carry v3.1 v3.2.1 v3.2.2.1) fun c4 =>
    if (!c4.2) = true then
      some ([], false)
    else
      some (c4.1, true)

def s_l1Carry_L1 (y : (Bool × (List (Int × (Int × List UInt8)) × (List (List UInt8) × (Int × (Int × (List Bool × (List Bool × List (List UInt8))))))))) : Option ((Bool × (List (Int × (Int × List UInt8)) × (List (List UInt8) × (Int × (Int × (List Bool × (List Bool × List (List UInt8)))))))) ⊕ (List (Int × (Int × List UInt8)))) :=
  if (decide ((y.2.2.2.2.1 : Int) < y.2.2.2.1)) = true then
    Option.bind (α := (Bool × (List (Int × (Int × List UInt8)) × (List (List UInt8) × (Int × (Int × (List Bool × (List Bool × List (List UInt8))))))))) (
        if (decide ((0 : Int) ≤ y.2.2.2.2.1)) = true then
        if (decide ((y.2.2.2.2.1 : Int) < ((List.length y.2.2.1 : Nat) : Int))) = true then
        Option.bind (y.2.2.1[0 + Int.toNat y.2.2.2.2.1]?) fun r17 =>
        Option.bind (α := (Bool × (List (Int × (Int × List UInt8)) × (Int × (List UInt8 × (List (List UInt8) × (Int × (Int × (List Bool × (List Bool × List (List UInt8))))))))))) (
            if y.1 = true then
              Option.bind (s_l1Add y.2.1 0 0 r17) fun c18 =>
              some (y.1, c18, y.2.2.2.2.1, r17, y.2.2.1, y.2.2.2.1, y.2.2.2.2.1, y.2.2.2.2.2.1, y.2.2.2.2.2.2.1, y.2.2.2.2.2.2.2)
            else
              some (y.1, y.2.1, y.2.2.2.2.1, r17, y.2.2.1, y.2.2.2.1, y.2.2.2.2.1, y.2.2.2.2.2.1, y.2.2.2.2.2.2.1, y.2.2.2.2.2.2.2)) fun v19 =>
        if (decide ((0 : Int) ≤ v19.2.2.1)) = true then
        if (decide ((v19.2.2.1 : Int) < ((List.length v19.2.2.2.2.2.2.2.2.2 : Nat) : Int))) = true then
        Option.bind (v19.2.2.2.2.2.2.2.2.2[0 + Int.toNat v19.2.2.1]?) fun r20 =>
        Option.bind (s_l1Add v19.2.1 ((List.length r20 : Nat) : Int) 0 []) fun c21 =>
        Option.bind (α := (Bool × (List (Int × (Int × List UInt8)) × (Int × (List (List UInt8) × (Int × (Int × (List Bool × (List Bool × List (List UInt8)))))))))) (
            if (!v19.1) = true then
              Option.bind (s_l1Add c21 0 0 v19.2.2.2.1) fun c22 =>
              some (v19.1, c22, v19.2.2.1, v19.2.2.2.2.1, v19.2.2.2.2.2.1, v19.2.2.2.2.2.2.1, v19.2.2.2.2.2.2.2.1, v19.2.2.2.2.2.2.2.2.1, v19.2.2.2.2.2.2.2.2.2)
            else
              some (v19.1, c21, v19.2.2.1, v19.2.2.2.2.1, v19.2.2.2.2.2.1, v19.2.2.2.2.2.2.1, v19.2.2.2.2.2.2.2.1, v19.2.2.2.2.2.2.2.2.1, v19.2.2.2.2.2.2.2.2.2)) fun v23 =>
        Option.bind (α := (Bool × (List (Int × (Int × List UInt8)) × (Int × (List (List UInt8) × (Int × (Int × (Bool × (List Bool × (List Bool × List (List UInt8))))))))))) (
            if (decide ((v23.2.2.1 : Int) = ((List.length v23.2.2.2.2.2.2.1 : Nat) : Int))) = true then
              some (v23.1, v23.2.1, v23.2.2.1, v23.2.2.2.1, v23.2.2.2.2.1, v23.2.2.2.2.2.1, true, v23.2.2.2.2.2.2.1, v23.2.2.2.2.2.2.2.1, v23.2.2.2.2.2.2.2.2)
            else
            if (decide ((0 : Int) ≤ v23.2.2.1)) = true then
            if (decide ((v23.2.2.1 : Int) < ((List.length v23.2.2.2.2.2.2.2.1 : Nat) : Int))) = true then
            Option.bind (v23.2.2.2.2.2.2.2.1[0 + Int.toNat v23.2.2.1]?) fun r24 =>
            some (v23.1, v23.2.1, v23.2.2.1, v23.2.2.2.1, v23.2.2.2.2.1, v23.2.2.2.2.2.1, (!r24), v23.2.2.2.2.2.2.1, v23.2.2.2.2.2.2.2.1, v23.2.2.2.2.2.2.2.2)
            else none
            else none) fun v25 =>
        if v25.2.2.2.2.2.2.1 = true then
          some (v25.1, v25.2.1, v25.2.2.2.1, v25.2.2.2.2.1, v25.2.2.2.2.2.1, v25.2.2.2.2.2.2.2.1, v25.2.2.2.2.2.2.2.2.1, v25.2.2.2.2.2.2.2.2.2)
        else
        if (decide ((0 : Int) ≤ v25.2.2.1)) = true then
        if (decide ((v25.2.2.1 : Int) < ((List.length v25.2.2.2.2.2.2.2.1 : Nat) : Int))) = true then
        Option.bind (v25.2.2.2.2.2.2.2.1[0 + Int.toNat v25.2.2.1]?) fun r26 =>
        Option.bind (α := (Bool × (List (Int × (Int × List UInt8)) × (List (List UInt8) × (Int × (Int × (List Bool × (List Bool × List (List UInt8))))))))) (
            if r26 = true then
              Option.bind (s_l1Add v25.2.1 1 0 []) fun c27 =>
              some (v25.1, c27, v25.2.2.2.1, v25.2.2.2.2.1, v25.2.2.2.2.2.1, v25.2.2.2.2.2.2.2.1, v25.2.2.2.2.2.2.2.2.1, v25.2.2.2.2.2.2.2.2.2)
            else
              Option.bind (s_l1Add v25.2.1 0 1 []) fun c28 =>
              some (v25.1, c28, v25.2.2.2.1, v25.2.2.2.2.1, v25.2.2.2.2.2.1, v25.2.2.2.2.2.2.2.1, v25.2.2.2.2.2.2.2.2.1, v25.2.2.2.2.2.2.2.2.2)) fun v29 =>
        some (v29.1, v29.2.1, v29.2.2.1, v29.2.2.2.1, v29.2.2.2.2.1, v29.2.2.2.2.2.1, v29.2.2.2.2.2.2.1, v29.2.2.2.2.2.2.2)
        else none
        else none
        else none
        else none
        else none
        else none) fun v30 =>
    some (.inl (v30.1, v30.2.1, v30.2.2.1, v30.2.2.2.1, IntKind.wrap .i64 (v30.2.2.2.2.1 + 1), v30.2.2.2.2.2.1, v30.2.2.2.2.2.2.1, v30.2.2.2.2.2.2.2))
  else
    some (.inr y.2.1)
def s_l1Carry (x0 : List (Int × (Int × List UInt8))) (x1 : List (Int × (Int × List UInt8))) (x2 : Bool) : Option (List (Int × (Int × List UInt8))) :=
  Option.bind (s_l1Open x0) fun c1 =>
  Option.bind (s_l1Open x1) fun c2 =>
  Option.bind (loopG s_l1Carry_L1 (x2, [], c1.2, ((List.length c1.2 : Nat) : Int), 0, c1.1, c2.1, c2.2)) fun v31 =>
  some v31

def s_CarryChange (x0 : List (Int × (Int × List UInt8))) (x1 : List (Int × (Int × List UInt8))) (x2 : Bool) : Option ((List (Int × (Int × List UInt8)) × Bool)) :=
  Option.bind (α := (List (Int × (Int × List UInt8)) × (List (Int × (Int × List UInt8)) × (Bool × Bool)))) (
      Option.bind (s_GoodChange x0) fun c1 =>
      if (!c1) = true then
        some (x0, x1, x2, true)
      else
        Option.bind (s_GoodChange x1) fun c2 =>
        if (!c2) = true then
          some (x0, x1, x2, true)
        else
          Option.bind (s_l1Source x0) fun c3 =>
          Option.bind (s_l1Source x1) fun c4 =>
          some (x0, x1, x2, decide (¬ (c3 : Int) = c4))) fun v5 =>
  if v5.2.2.2 = true then
    some ([], false)
  else
    Option.bind (s_l1Carry v5.1 v5.2.1 v5.2.2.1) fun c6 =>
    Option.bind (s_GoodChange c6) fun c7 =>
    if (!c7) = true then
      some ([], false)
    else
      some (c6, true)

def l_fill_L1 (y : (List Int × (Int × Int))) : Option ((List Int × (Int × Int)) ⊕ (List Int)) :=
  if (decide ((y.2.2 : Int) < y.2.1)) = true then
    if (decide (¬ (26 : Int) = 0)) = true then
    if (decide ((0 : Int) ≤ y.2.2)) = true then
    if (decide ((y.2.2 : Int) < ((List.length y.1 : Nat) : Int))) = true then
    Option.bind (y.1[0 + Int.toNat y.2.2]?) fun r1 =>
    Option.bind (y.1[0 + Int.toNat y.2.2]?) fun r2 =>
    some (.inl (y.1.set (0 + Int.toNat y.2.2) (IntKind.wrap .u8 (IntKind.wrap .i64 (97 + (Int.tmod y.2.2 26)))), y.2.1, IntKind.wrap .i64 (y.2.2 + 1)))
    else none
    else none
    else none
  else
    some (.inr y.1)
def l_fill (x0 : Int) : Option (List UInt8) :=
  if (decide ((0 : Int) ≤ x0)) = true then
  if (decide ((x0 : Int) ≤ x0)) = true then
  if (roomFor (Int.toNat x0) 1) = true then
  Option.bind (loopG l_fill_L1 (List.replicate (Int.toNat x0) (0 : Int), ((List.length (List.replicate (Int.toNat x0) (0 : Int)) : Nat) : Int), 0)) fun v3 =>
  some (textOf v3)
  else none
  else none
  else none

def i_apply_L1 (y : (List UInt8 × (List UInt8 × (Int × (List (Int × (Int × List UInt8)) × (Int × Int)))))) : Option ((List UInt8 × (List UInt8 × (Int × (List (Int × (Int × List UInt8)) × (Int × Int))))) ⊕ (List UInt8)) :=
  if (decide ((y.2.2.2.2.2 : Int) < y.2.2.2.2.1)) = true then
    if (decide ((0 : Int) ≤ y.2.2.2.2.2)) = true then
    Option.bind (y.2.2.2.1[Int.toNat y.2.2.2.2.2]?) fun r1 =>
    if (decide ((0 : Int) ≤ y.2.2.1)) = true then
    if (decide ((y.2.2.1 : Int) ≤ IntKind.wrap .i64 (y.2.2.1 + r1.1))) = true then
    if (decide ((IntKind.wrap .i64 (y.2.2.1 + r1.1) : Int) ≤ ((List.length y.1 : Nat) : Int))) = true then
    if (decide ((((List.length y.1 : Nat) : Int) : Int) ≤ ((List.length y.1 : Nat) : Int))) = true then
    if (decide ((List.length (((y.1 : List UInt8).drop (Int.toNat y.2.2.1)).take (Int.toNat (IntKind.wrap .i64 (y.2.2.1 + r1.1)) - Int.toNat y.2.2.1)) + List.length r1.2.2 : Nat) ≤ 9223372036854775807)) = true then
    if (decide ((List.length y.2.1 + List.length ((((y.1 : List UInt8).drop (Int.toNat y.2.2.1)).take (Int.toNat (IntKind.wrap .i64 (y.2.2.1 + r1.1)) - Int.toNat y.2.2.1) : List UInt8) ++ r1.2.2) : Nat) ≤ 9223372036854775807)) = true then
    some (.inl (y.1, (y.2.1 : List UInt8) ++ ((((y.1 : List UInt8).drop (Int.toNat y.2.2.1)).take (Int.toNat (IntKind.wrap .i64 (y.2.2.1 + r1.1)) - Int.toNat y.2.2.1) : List UInt8) ++ r1.2.2), IntKind.wrap .i64 (y.2.2.1 + (IntKind.wrap .i64 (r1.1 + r1.2.1))), y.2.2.2.1, y.2.2.2.2.1, IntKind.wrap .i64 (y.2.2.2.2.2 + 1)))
    else none
    else none
    else none
    else none
    else none
    else none
    else none
  else
    some (.inr y.2.1)
def i_apply (x0 : List UInt8) (x1 : List (Int × (Int × List UInt8))) : Option (List UInt8) :=
  Option.bind (loopG i_apply_L1 (x0, ([] : List UInt8), 0, x1, ((List.length x1 : Nat) : Int), 0)) fun v2 =>
  some v2

def i_ApplyChange (x0 : List UInt8) (x1 : List (Int × (Int × List UInt8))) : Option ((List UInt8 × Bool)) :=
  Option.bind (i_fits x1 ((List.length x0 : Nat) : Int)) fun c1 =>
  if (!c1) = true then
    some (([] : List UInt8), false)
  else
    Option.bind (i_apply x0 x1) fun c2 =>
    some (c2, true)

def l_FnDiamond (x0 : List Int) : Option (Bool) :=
  if (decide ((1048576 : Int) < ((List.length x0 : Nat) : Int))) = true then
    some true
  else
    Option.bind (s_DrawCarryChange x0) fun c1 =>
    Option.bind (i_CarryChange c1.1 c1.2.1 c1.2.2) fun c2 =>
    Option.bind (i_CarryChange c1.2.1 c1.1 (!c1.2.2)) fun c3 =>
    Option.bind (s_CarryChange c1.1 c1.2.1 c1.2.2) fun c4 =>
    Option.bind (α := (List (Int × (Int × List UInt8)) × (List (Int × (Int × List UInt8)) × (List (Int × (Int × List UInt8)) × (Bool × (List (Int × (Int × List UInt8)) × (Bool × Bool))))))) (
        if (c2.2 != c4.2) = true then
          some (c1.1, c1.2.1, c2.1, c2.2, c3.1, c3.2, true)
        else
          Option.bind (l_sameParts c2.1 c4.1) fun c5 =>
          some (c1.1, c1.2.1, c2.1, c2.2, c3.1, c3.2, (!c5))) fun v6 =>
    if v6.2.2.2.2.2.2 = true then
      some false
    else
      Option.bind (α := (List (Int × (Int × List UInt8)) × (List (Int × (Int × List UInt8)) × (List (Int × (Int × List UInt8)) × (List (Int × (Int × List UInt8)) × Bool))))) (
          if (!v6.2.2.2.1) = true then
            some (v6.1, v6.2.1, v6.2.2.1, v6.2.2.2.2.1, true)
          else
          some (v6.1, v6.2.1, v6.2.2.1, v6.2.2.2.2.1, (!v6.2.2.2.2.2.1))) fun v7 =>
      if v7.2.2.2.2 = true then
        some true
      else
        Option.bind (s_LengthsOf v7.1) fun c8 =>
        Option.bind (l_fill c8.1) fun c9 =>
        Option.bind (i_ApplyChange c9 v7.2.1) fun c10 =>
        Option.bind (i_ApplyChange c10.1 v7.2.2.1) fun c11 =>
        Option.bind (i_ApplyChange c9 v7.1) fun c12 =>
        Option.bind (i_ApplyChange c12.1 v7.2.2.2.1) fun c13 =>
        Option.bind (α := Bool) (
            if c11.2 = true then
              if c13.2 = true then
                some ((c11.1 : List UInt8) == c13.1)
              else
              some false
            else
            some false) fun v14 =>
        some v14

def s_l1Cur_next_o (x0 : List Int) (x1 : Int) (x2 : Int) : Option ((Int × (List Int × (Int × Int)))) :=
  Option.bind (α := (Int × (List Int × (Int × Int)))) (
      if (decide ((x1 : Int) < ((List.length x0 : Nat) : Int))) = true then
        if (decide ((0 : Int) ≤ x1)) = true then
        if (decide ((x1 : Int) < ((List.length x0 : Nat) : Int))) = true then
        Option.bind (x0[0 + Int.toNat x1]?) fun r1 =>
        some (IntKind.wrap .i64 r1, x0, x1, x2)
        else none
        else none
      else
        some (0, x0, x1, x2)) fun v2 =>
  if (decide ((IntKind.wrap .i64 (v2.2.2.1 + 1) : Int) ≤ ((List.length v2.2.1 : Nat) : Int))) = true then
    some (v2.1, v2.2.1, IntKind.wrap .i64 (v2.2.2.1 + 1), IntKind.wrap .u64 ((IntKind.wrap .u64 ((IntKind.wrap .u64 (v2.2.2.2 * 6364136223846793005)) + (IntKind.wrap .u64 v2.1))) + 1442695040888963407))
  else
  if (decide ((0 : Int) ≤ 40)) = true then
  some (IntKind.wrap .i64 (IntKind.wrap .u64 (((BitVec.ofInt (IntKind.bits .u64) (Int.fdiv (IntKind.wrap .u64 ((IntKind.wrap .u64 ((IntKind.wrap .u64 (v2.2.2.2 * 6364136223846793005)) + (IntKind.wrap .u64 v2.1))) + 1442695040888963407)) (2 ^ (min (Int.toNat 40) (IntKind.bits .u64)))) &&& BitVec.ofInt (IntKind.bits .u64) 255).toNat : Int))), v2.2.1, IntKind.wrap .i64 (v2.2.2.1 + 1), IntKind.wrap .u64 ((IntKind.wrap .u64 ((IntKind.wrap .u64 (v2.2.2.2 * 6364136223846793005)) + (IntKind.wrap .u64 v2.1))) + 1442695040888963407))
  else none

def s_l1Cur_pick_o (x0 : Int) (x1 : List Int) (x2 : Int) (x3 : Int) : Option ((Int × (List Int × (Int × Int)))) :=
  if (decide ((x0 : Int) ≤ 1)) = true then
    some (0, x1, x2, x3)
  else
    Option.bind (s_l1Cur_next_o x1 x2 x3) fun c1 =>
    Option.bind (α := (Int × (Int × (List Int × (Int × Int))))) (
        if (decide ((200 : Int) < x0)) = true then
          Option.bind (s_l1Cur_next_o c1.2.1 c1.2.2.1 c1.2.2.2) fun c2 =>
          some (x0, IntKind.wrap .i64 ((IntKind.wrap .i64 (c1.1 * 256)) + c2.1), c2.2.1, c2.2.2.1, c2.2.2.2)
        else
          some (x0, c1.1, c1.2.1, c1.2.2.1, c1.2.2.2)) fun v3 =>
    if (decide (¬ (v3.1 : Int) = 0)) = true then
    some (Int.tmod v3.2.1 v3.1, v3.2.2.1, v3.2.2.2.1, v3.2.2.2.2)
    else none

def s_l1Cur_of_o (x0 : List (List UInt8)) (x1 : List Int) (x2 : Int) (x3 : Int) : Option ((List UInt8 × (List Int × (Int × Int)))) :=
  Option.bind (s_l1Cur_pick_o ((List.length x0 : Nat) : Int) x1 x2 x3) fun c1 =>
  if (decide ((0 : Int) ≤ c1.1)) = true then
  if (decide ((c1.1 : Int) < ((List.length x0 : Nat) : Int))) = true then
  Option.bind (x0[0 + Int.toNat c1.1]?) fun r2 =>
  some (r2, c1.2.1, c1.2.2.1, c1.2.2.2)
  else none
  else none

def s_l1Cur_put_o (x0 : List Int) (x1 : Int) (x2 : Int) : Option ((List UInt8 × (List Int × (Int × Int)))) :=
  Option.bind (s_l1Cur_of_o [([97] : List UInt8), ([120, 121] : List UInt8), ([90, 122, 57] : List UInt8), ([0] : List UInt8), ([255, 254] : List UInt8), ([119, 111, 114, 100, 32] : List UInt8)] x0 x1 x2) fun c1 =>
  some (c1.1, c1.2.1, c1.2.2.1, c1.2.2.2)

def s_l1Cur_one_o (x0 : Int) (x1 : List Int) (x2 : Int) (x3 : Int) : Option ((Bool × (List Int × (Int × Int)))) :=
  Option.bind (s_l1Cur_pick_o x0 x1 x2 x3) fun c1 =>
  some (decide ((c1.1 : Int) = 0), c1.2.1, c1.2.2.1, c1.2.2.2)

def s_l1Cur_wide_o_L1 (y : (Int × (Int × (List Int × (Int × Int))))) : Option ((Int × (Int × (List Int × (Int × Int)))) ⊕ (Int × (List Int × (Int × Int)))) :=
  if (decide ((y.2.1 : Int) < 8)) = true then
    if (decide ((0 : Int) ≤ 8)) = true then
    Option.bind (s_l1Cur_next_o y.2.2.1 y.2.2.2.1 y.2.2.2.2) fun c1 =>
    some (.inl (IntKind.wrap .i64 (((BitVec.ofInt (IntKind.bits .i64) (IntKind.wrap .i64 (y.1 * 2 ^ (min (Int.toNat 8) (IntKind.bits .i64)))) ||| BitVec.ofInt (IntKind.bits .i64) c1.1).toNat : Int)), IntKind.wrap .i64 (y.2.1 + 1), c1.2.1, c1.2.2.1, c1.2.2.2))
    else none
  else
    some (.inr (y.1, y.2.2.1, y.2.2.2.1, y.2.2.2.2))
def s_l1Cur_wide_o (x0 : List Int) (x1 : Int) (x2 : Int) : Option ((Int × (List Int × (Int × Int)))) :=
  Option.bind (loopG s_l1Cur_wide_o_L1 (0, 0, x0, x1, x2)) fun v2 =>
  some (v2.1, v2.2.1, v2.2.2.1, v2.2.2.2)

def s_l1Cur_sized_o (x0 : List Int) (x1 : Int) (x2 : Int) : Option ((Int × (List Int × (Int × Int)))) :=
  Option.bind (s_l1Cur_pick_o 5 x0 x1 x2) fun c1 =>
  Option.bind (s_l1Cur_pick_o 8 c1.2.1 c1.2.2.1 c1.2.2.2) fun c2 =>
  Option.bind (α := (Int × (List Int × (Int × Int)))) (
      if (decide ((c2.1 : Int) = 0)) = true then
        Option.bind (s_l1Cur_pick_o 300 c2.2.1 c2.2.2.1 c2.2.2.2) fun c3 =>
        some (c3.1, c3.2.1, c3.2.2.1, c3.2.2.2)
      else
        Option.bind (α := (Int × (List Int × (Int × Int)))) (
            if (decide ((c2.1 : Int) = 1)) = true then
              Option.bind (s_l1Cur_wide_o c2.2.1 c2.2.2.1 c2.2.2.2) fun c4 =>
              Option.bind (s_l1Cur_pick_o 64 c4.2.1 c4.2.2.1 c4.2.2.2) fun c5 =>
              if (decide ((0 : Int) ≤ IntKind.wrap .u64 c5.1)) = true then
              some (Int.fdiv c4.1 (2 ^ (min (Int.toNat (IntKind.wrap .u64 c5.1)) (IntKind.bits .i64))), c5.2.1, c5.2.2.1, c5.2.2.2)
              else none
            else
              Option.bind (α := (Int × (List Int × (Int × Int)))) (
                  if (decide ((c2.1 : Int) = 2)) = true then
                    Option.bind (s_l1Cur_pick_o 64 c2.2.1 c2.2.2.1 c2.2.2.2) fun c6 =>
                    if (decide ((0 : Int) ≤ IntKind.wrap .u64 c6.1)) = true then
                    some (IntKind.wrap .i64 (1 * 2 ^ (min (Int.toNat (IntKind.wrap .u64 c6.1)) (IntKind.bits .i64))), c6.2.1, c6.2.2.1, c6.2.2.2)
                    else none
                  else
                    Option.bind (α := (Int × (List Int × (Int × Int)))) (
                        if (decide ((c2.1 : Int) = 3)) = true then
                          Option.bind (s_l1Cur_pick_o 64 c2.2.1 c2.2.2.1 c2.2.2.2) fun c7 =>
                          if (decide ((0 : Int) ≤ IntKind.wrap .u64 c7.1)) = true then
                          some (IntKind.wrap .i64 ((IntKind.wrap .i64 (1 * 2 ^ (min (Int.toNat (IntKind.wrap .u64 c7.1)) (IntKind.bits .i64)))) - 1), c7.2.1, c7.2.2.1, c7.2.2.2)
                          else none
                        else
                          some (c1.1, c2.2.1, c2.2.2.1, c2.2.2.2)) fun v8 =>
                    some (v8.1, v8.2.1, v8.2.2.1, v8.2.2.2)) fun v9 =>
              some (v9.1, v9.2.1, v9.2.2.1, v9.2.2.2)) fun v10 =>
        some (v10.1, v10.2.1, v10.2.2.1, v10.2.2.2)) fun v11 =>
  Option.bind (s_l1Cur_one_o 3 v11.2.1 v11.2.2.1 v11.2.2.2) fun c12 =>
  Option.bind (α := (Int × (List Int × (Int × Int)))) (
      if c12.1 = true then
        some (IntKind.wrap .i64 (0 - v11.1), c12.2.1, c12.2.2.1, c12.2.2.2)
      else
        some (v11.1, c12.2.1, c12.2.2.1, c12.2.2.2)) fun v13 =>
  some (v13.1, v13.2.1, v13.2.2.1, v13.2.2.2)

def s_l1Cur_part_o (x0 : List Int) (x1 : Int) (x2 : Int) : Option ((Int × (Int × (List UInt8 × (List Int × (Int × Int)))))) :=
  Option.bind (s_l1Cur_pick_o 5 x0 x1 x2) fun c1 =>
  if (decide ((c1.1 : Int) = 0)) = true then
    some (0, 0, [], c1.2.1, c1.2.2.1, c1.2.2.2)
  else
  if (decide ((c1.1 : Int) = 1)) = true then
    Option.bind (s_l1Cur_sized_o c1.2.1 c1.2.2.1 c1.2.2.2) fun c2 =>
    some (c2.1, 0, [], c2.2.1, c2.2.2.1, c2.2.2.2)
  else
  if (decide ((c1.1 : Int) = 2)) = true then
    Option.bind (s_l1Cur_sized_o c1.2.1 c1.2.2.1 c1.2.2.2) fun c3 =>
    some (0, c3.1, [], c3.2.1, c3.2.2.1, c3.2.2.2)
  else
  if (decide ((c1.1 : Int) = 3)) = true then
    some (1, 0, ([97] : List UInt8), c1.2.1, c1.2.2.1, c1.2.2.2)
  else
    Option.bind (s_l1Cur_pick_o 2 c1.2.1 c1.2.2.1 c1.2.2.2) fun c4 =>
    if (decide ((0 : Int) ≤ IntKind.wrap .i64 (120 + c4.1))) = true then
    if (decide ((IntKind.wrap .i64 (120 + c4.1) : Int) ≤ IntKind.wrap .i64 (120 + c4.1))) = true then
    if (roomFor (Int.toNat (IntKind.wrap .i64 (120 + c4.1))) 1) = true then
    some (0, 0, textOf (List.replicate (Int.toNat (IntKind.wrap .i64 (120 + c4.1))) (0 : Int)), c4.2.1, c4.2.2.1, c4.2.2.2)
    else none
    else none
    else none

def s_l1Cur_changeOf_o_L1 (y : (Int × (List (Int × (Int × List UInt8)) × (Int × (List Int × (Int × Int)))))) : Option ((Int × (List (Int × (Int × List UInt8)) × (Int × (List Int × (Int × Int))))) ⊕ (List (Int × (Int × List UInt8)) × (Int × (List Int × (Int × Int))))) :=
  if (decide ((0 : Int) < y.1)) = true then
    Option.bind (s_l1Cur_put_o y.2.2.2.1 y.2.2.2.2.1 y.2.2.2.2.2) fun c14 =>
    Option.bind (α := (Int × (List (Int × (Int × List UInt8)) × (Int × (List UInt8 × (Bool × (List Int × (Int × Int)))))))) (
        Option.bind (s_l1Cur_one_o 3 c14.2.1 c14.2.2.1 c14.2.2.2) fun c15 =>
        if c15.1 = true then
          some (y.1, y.2.1, y.2.2.1, c14.1, decide ((((List.length c14.1 : Nat) : Int) : Int) ≤ y.2.2.1), c15.2.1, c15.2.2.1, c15.2.2.2)
        else
        some (y.1, y.2.1, y.2.2.1, c14.1, false, c15.2.1, c15.2.2.1, c15.2.2.2)) fun v16 =>
    Option.bind (α := (Int × (List (Int × (Int × List UInt8)) × (Int × (List Int × (Int × Int)))))) (
        if v16.2.2.2.2.1 = true then
          Option.bind (s_l1Add v16.2.1 0 0 v16.2.2.2.1) fun c17 =>
          some (v16.1, c17, IntKind.wrap .i64 (v16.2.2.1 - ((List.length v16.2.2.2.1 : Nat) : Int)), v16.2.2.2.2.2.1, v16.2.2.2.2.2.2.1, v16.2.2.2.2.2.2.2)
        else
          some (v16.1, v16.2.1, v16.2.2.1, v16.2.2.2.2.2.1, v16.2.2.2.2.2.2.1, v16.2.2.2.2.2.2.2)) fun v18 =>
    Option.bind (s_l1Cur_pick_o 6 v18.2.2.2.1 v18.2.2.2.2.1 v18.2.2.2.2.2) fun c19 =>
    Option.bind (s_l1Cur_one_o 6 c19.2.1 c19.2.2.1 c19.2.2.2) fun c20 =>
    Option.bind (α := (Int × (List (Int × (Int × List UInt8)) × (Int × (Int × (List Int × (Int × Int))))))) (
        if c20.1 = true then
          some (v18.1, v18.2.1, v18.2.2.1, v18.1, c20.2.1, c20.2.2.1, c20.2.2.2)
        else
          some (v18.1, v18.2.1, v18.2.2.1, IntKind.wrap .i64 (1 + c19.1), c20.2.1, c20.2.2.1, c20.2.2.2)) fun v21 =>
    Option.bind (α := (Int × (List (Int × (Int × List UInt8)) × (Int × (Int × (List Int × (Int × Int))))))) (
        if (decide ((v21.1 : Int) < v21.2.2.2.1)) = true then
          some (v21.1, v21.2.1, v21.2.2.1, v21.1, v21.2.2.2.2.1, v21.2.2.2.2.2.1, v21.2.2.2.2.2.2)
        else
          some (v21.1, v21.2.1, v21.2.2.1, v21.2.2.2.1, v21.2.2.2.2.1, v21.2.2.2.2.2.1, v21.2.2.2.2.2.2)) fun v22 =>
    Option.bind (s_l1Cur_one_o 3 v22.2.2.2.2.1 v22.2.2.2.2.2.1 v22.2.2.2.2.2.2) fun c23 =>
    Option.bind (α := (Int × (List (Int × (Int × List UInt8)) × (Int × (Int × (List Int × (Int × Int))))))) (
        if c23.1 = true then
          Option.bind (s_l1Add v22.2.1 0 v22.2.2.2.1 []) fun c24 =>
          some (v22.1, c24, IntKind.wrap .i64 (v22.2.2.1 + v22.2.2.2.1), v22.2.2.2.1, c23.2.1, c23.2.2.1, c23.2.2.2)
        else
          Option.bind (s_l1Add v22.2.1 v22.2.2.2.1 0 []) fun c25 =>
          some (v22.1, c25, v22.2.2.1, v22.2.2.2.1, c23.2.1, c23.2.2.1, c23.2.2.2)) fun v26 =>
    some (.inl (IntKind.wrap .i64 (v26.1 - v26.2.2.2.1), v26.2.1, v26.2.2.1, v26.2.2.2.2.1, v26.2.2.2.2.2.1, v26.2.2.2.2.2.2))
  else
    some (.inr (y.2.1, y.2.2.1, y.2.2.2.1, y.2.2.2.2.1, y.2.2.2.2.2))
def s_l1Cur_changeOf_o (x0 : Int) (x1 : List Int) (x2 : Int) (x3 : Int) : Option ((List (Int × (Int × List UInt8)) × (List Int × (Int × Int)))) :=
  Option.bind (loopG s_l1Cur_changeOf_o_L1 (x0, [], IntKind.wrap .i64 (120 - x0), x1, x2, x3)) fun v27 =>
  Option.bind (s_l1Cur_put_o v27.2.2.1 v27.2.2.2.1 v27.2.2.2.2) fun c28 =>
  Option.bind (α := (List (Int × (Int × List UInt8)) × (List UInt8 × (Bool × (List Int × (Int × Int)))))) (
      Option.bind (s_l1Cur_one_o 2 c28.2.1 c28.2.2.1 c28.2.2.2) fun c29 =>
      if c29.1 = true then
        some (v27.1, c28.1, decide ((((List.length c28.1 : Nat) : Int) : Int) ≤ v27.2.1), c29.2.1, c29.2.2.1, c29.2.2.2)
      else
      some (v27.1, c28.1, false, c29.2.1, c29.2.2.1, c29.2.2.2)) fun v30 =>
  Option.bind (α := (List (Int × (Int × List UInt8)) × (List Int × (Int × Int)))) (
      if v30.2.2.1 = true then
        Option.bind (s_l1Add v30.1 0 0 v30.2.1) fun c31 =>
        some (c31, v30.2.2.2.1, v30.2.2.2.2.1, v30.2.2.2.2.2)
      else
        some (v30.1, v30.2.2.2.1, v30.2.2.2.2.1, v30.2.2.2.2.2)) fun v32 =>
  Option.bind (s_l1Cur_one_o 60 v32.2.1 v32.2.2.1 v32.2.2.2) fun c33 =>
  Option.bind (α := (List (Int × (Int × List UInt8)) × (List Int × (Int × Int)))) (
      if c33.1 = true then
        Option.bind (s_l1Cur_part_o c33.2.1 c33.2.2.1 c33.2.2.2) fun c34 =>
        if (roomFor (List.length v32.1 + List.length ([(c34.1, (c34.2.1, c34.2.2.1))] : List (Int × (Int × List UInt8)))) 32) = true then
        some (v32.1 ++ ([(c34.1, (c34.2.1, c34.2.2.1))] : List (Int × (Int × List UInt8))), c34.2.2.2.1, c34.2.2.2.2.1, c34.2.2.2.2.2)
        else none
      else
        some (v32.1, c33.2.1, c33.2.2.1, c33.2.2.2)) fun v35 =>
  some (v35.1, v35.2.1, v35.2.2.1, v35.2.2.2)

def s_l1Cur_among_o (x0 : List Int) (x1 : List Int) (x2 : Int) (x3 : Int) : Option ((Int × (List Int × (Int × Int)))) :=
  Option.bind (s_l1Cur_pick_o ((List.length x0 : Nat) : Int) x1 x2 x3) fun c1 =>
  if (decide ((0 : Int) ≤ c1.1)) = true then
  if (decide ((c1.1 : Int) < ((List.length x0 : Nat) : Int))) = true then
  Option.bind (x0[0 + Int.toNat c1.1]?) fun r2 =>
  some (r2, c1.2.1, c1.2.2.1, c1.2.2.2)
  else none
  else none

def s_l1Close_L1 (y : (List (Int × (Int × List UInt8)) × (List (List UInt8) × (Int × (Int × (List Bool × List (List UInt8))))))) : Option ((List (Int × (Int × List UInt8)) × (List (List UInt8) × (Int × (Int × (List Bool × List (List UInt8)))))) ⊕ (List (Int × (Int × List UInt8)))) :=
  if (decide ((y.2.2.2.1 : Int) < y.2.2.1)) = true then
    if (decide ((0 : Int) ≤ y.2.2.2.1)) = true then
    Option.bind (y.2.1[Int.toNat y.2.2.2.1]?) fun r8 =>
    Option.bind (s_l1Add y.1 0 0 r8) fun c9 =>
    Option.bind (α := (List (Int × (Int × List UInt8)) × (List (List UInt8) × (Int × (Int × (List Bool × List (List UInt8))))))) (
        if (decide ((y.2.2.2.1 : Int) < ((List.length y.2.2.2.2.1 : Nat) : Int))) = true then
          if (decide ((0 : Int) ≤ y.2.2.2.1)) = true then
          Option.bind (y.2.2.2.2.1[Int.toNat y.2.2.2.1]?) fun r10 =>
          Option.bind (α := (List (Int × (Int × List UInt8)) × (List (List UInt8) × (Int × (Int × (List Bool × List (List UInt8))))))) (
              if r10 = true then
                Option.bind (s_l1Add c9 1 0 []) fun c11 =>
                some (c11, y.2.1, y.2.2.1, y.2.2.2.1, y.2.2.2.2.1, y.2.2.2.2.2)
              else
                Option.bind (s_l1Add c9 0 1 []) fun c12 =>
                some (c12, y.2.1, y.2.2.1, y.2.2.2.1, y.2.2.2.2.1, y.2.2.2.2.2)) fun v13 =>
          some (v13.1, v13.2.1, v13.2.2.1, v13.2.2.2.1, v13.2.2.2.2.1, v13.2.2.2.2.2)
          else none
        else
          some (c9, y.2.1, y.2.2.1, y.2.2.2.1, y.2.2.2.2.1, y.2.2.2.2.2)) fun v14 =>
    some (.inl (v14.1, v14.2.1, v14.2.2.1, IntKind.wrap .i64 (v14.2.2.2.1 + 1), v14.2.2.2.2.1, v14.2.2.2.2.2))
    else none
  else
    some (.inr y.1)
def s_l1Close (x0 : List Bool) (x1 : List (List UInt8)) : Option (List (Int × (Int × List UInt8))) :=
  Option.bind (loopG s_l1Close_L1 ([], x1, ((List.length x1 : Nat) : Int), 0, x0, x1)) fun v15 =>
  some v15

def s_l1Compose_L1 (y : (Int × (Int × (List UInt8 × (Int × (List (List UInt8) × (Int × (Int × (List Bool × (List Bool × (List (List UInt8) × (List Bool × List (List UInt8))))))))))))) : Option ((Int × (Int × (List UInt8 × (Int × (List (List UInt8) × (Int × (Int × (List Bool × (List Bool × (List (List UInt8) × (List Bool × List (List UInt8)))))))))))) ⊕ (Int × (Int × (List (List UInt8) × (Int × (Int × (List Bool × (List Bool × (List (List UInt8) × (List Bool × List (List UInt8))))))))))) :=
  if (decide ((y.2.2.2.1 : Int) < ((List.length y.2.2.1 : Nat) : Int))) = true then
    if (decide ((0 : Int) ≤ y.1)) = true then
    if (decide ((y.1 : Int) < ((List.length y.2.2.2.2.2.2.2.2.1 : Nat) : Int))) = true then
    Option.bind (y.2.2.2.2.2.2.2.2.1[0 + Int.toNat y.1]?) fun r26 =>
    Option.bind (α := (Int × (Int × (List UInt8 × (Int × (List (List UInt8) × (Int × (Int × (List Bool × (List Bool × (List (List UInt8) × (List Bool × List (List UInt8))))))))))))) (
        if r26 = true then
          if (decide ((0 : Int) ≤ y.2.1)) = true then
          if (decide ((y.2.1 : Int) < ((List.length y.2.2.2.2.2.2.2.2.2.2.2 : Nat) : Int))) = true then
          Option.bind (y.2.2.2.2.2.2.2.2.2.2.2[0 + Int.toNat y.2.1]?) fun r27 =>
          if (decide ((0 : Int) ≤ y.2.2.2.1)) = true then
          if (decide ((y.2.2.2.1 : Int) ≤ IntKind.wrap .i64 (y.2.2.2.1 + 1))) = true then
          if (decide ((IntKind.wrap .i64 (y.2.2.2.1 + 1) : Int) ≤ ((List.length y.2.2.1 : Nat) : Int))) = true then
          if (decide ((((List.length y.2.2.1 : Nat) : Int) : Int) ≤ ((List.length y.2.2.1 : Nat) : Int))) = true then
          if (decide ((List.length r27 + List.length (((y.2.2.1 : List UInt8).drop (Int.toNat y.2.2.2.1)).take (Int.toNat (IntKind.wrap .i64 (y.2.2.2.1 + 1)) - Int.toNat y.2.2.2.1)) : Nat) ≤ 9223372036854775807)) = true then
          if (decide ((0 : Int) ≤ y.2.1)) = true then
          if (decide ((y.2.1 : Int) < ((List.length y.2.2.2.2.2.2.2.2.2.2.2 : Nat) : Int))) = true then
          Option.bind (y.2.2.2.2.2.2.2.2.2.2.2[0 + Int.toNat y.2.1]?) fun r28 =>
          Option.bind (y.2.2.2.2.2.2.2.2.2.2.2[0 + Int.toNat y.2.1]?) fun r29 =>
          some (y.1, y.2.1, y.2.2.1, y.2.2.2.1, y.2.2.2.2.1, y.2.2.2.2.2.1, y.2.2.2.2.2.2.1, y.2.2.2.2.2.2.2.1, y.2.2.2.2.2.2.2.2.1, y.2.2.2.2.2.2.2.2.2.1, y.2.2.2.2.2.2.2.2.2.2.1, y.2.2.2.2.2.2.2.2.2.2.2.set (0 + Int.toNat y.2.1) ((r27 : List UInt8) ++ (((y.2.2.1 : List UInt8).drop (Int.toNat y.2.2.2.1)).take (Int.toNat (IntKind.wrap .i64 (y.2.2.2.1 + 1)) - Int.toNat y.2.2.2.1))))
          else none
          else none
          else none
          else none
          else none
          else none
          else none
          else none
          else none
        else
          some (y.1, y.2.1, y.2.2.1, y.2.2.2.1, y.2.2.2.2.1, y.2.2.2.2.2.1, y.2.2.2.2.2.2.1, y.2.2.2.2.2.2.2.1, y.2.2.2.2.2.2.2.2.1, y.2.2.2.2.2.2.2.2.2.1, y.2.2.2.2.2.2.2.2.2.2.1, y.2.2.2.2.2.2.2.2.2.2.2)) fun v30 =>
    if (decide ((0 : Int) ≤ v30.2.1)) = true then
    if (decide ((v30.2.1 : Int) < ((List.length v30.2.2.2.2.2.2.2.2.2.2.2 : Nat) : Int))) = true then
    Option.bind (v30.2.2.2.2.2.2.2.2.2.2.2[0 + Int.toNat v30.2.1]?) fun r31 =>
    if (decide ((0 : Int) ≤ IntKind.wrap .i64 (v30.1 + 1))) = true then
    if (decide ((IntKind.wrap .i64 (v30.1 + 1) : Int) < ((List.length v30.2.2.2.2.2.2.2.2.2.1 : Nat) : Int))) = true then
    Option.bind (v30.2.2.2.2.2.2.2.2.2.1[0 + Int.toNat (IntKind.wrap .i64 (v30.1 + 1))]?) fun r32 =>
    if (decide ((List.length r31 + List.length r32 : Nat) ≤ 9223372036854775807)) = true then
    if (decide ((0 : Int) ≤ v30.2.1)) = true then
    if (decide ((v30.2.1 : Int) < ((List.length v30.2.2.2.2.2.2.2.2.2.2.2 : Nat) : Int))) = true then
    Option.bind (v30.2.2.2.2.2.2.2.2.2.2.2[0 + Int.toNat v30.2.1]?) fun r33 =>
    Option.bind (v30.2.2.2.2.2.2.2.2.2.2.2[0 + Int.toNat v30.2.1]?) fun r34 =>
    some (.inl (IntKind.wrap .i64 (v30.1 + 1), v30.2.1, v30.2.2.1, IntKind.wrap .i64 (v30.2.2.2.1 + 1), v30.2.2.2.2.1, v30.2.2.2.2.2.1, v30.2.2.2.2.2.2.1, v30.2.2.2.2.2.2.2.1, v30.2.2.2.2.2.2.2.2.1, v30.2.2.2.2.2.2.2.2.2.1, v30.2.2.2.2.2.2.2.2.2.2.1, v30.2.2.2.2.2.2.2.2.2.2.2.set (0 + Int.toNat v30.2.1) ((r31 : List UInt8) ++ r32)))
    else none
    else none
    else none
    else none
    else none
    else none
    else none
    else none
    else none
  else
    some (.inr (y.1, y.2.1, y.2.2.2.2.1, y.2.2.2.2.2.1, y.2.2.2.2.2.2.1, y.2.2.2.2.2.2.2.1, y.2.2.2.2.2.2.2.2.1, y.2.2.2.2.2.2.2.2.2.1, y.2.2.2.2.2.2.2.2.2.2.1, y.2.2.2.2.2.2.2.2.2.2.2))
def s_l1Compose_L2 (y : (Int × (List (List UInt8) × (Int × (Int × (List Bool × (List Bool × (List (List UInt8) × (List Bool × List (List UInt8)))))))))) : Option ((Int × (List (List UInt8) × (Int × (Int × (List Bool × (List Bool × (List (List UInt8) × (List Bool × List (List UInt8))))))))) ⊕ (List Bool × List (List UInt8))) :=
  if (decide ((y.2.2.2.1 : Int) < y.2.2.1)) = true then
    Option.bind (α := (Int × (List (List UInt8) × (Int × (Int × (List Bool × (List Bool × (List (List UInt8) × (List Bool × List (List UInt8))))))))) ⊕ (List Bool × List (List UInt8))) (
        if (decide ((0 : Int) ≤ y.2.2.2.1)) = true then
        if (decide ((y.2.2.2.1 : Int) < ((List.length y.2.1 : Nat) : Int))) = true then
        Option.bind (y.2.1[0 + Int.toNat y.2.2.2.1]?) fun r25 =>
        Option.bind (loopG s_l1Compose_L1 (y.1, y.2.2.2.1, r25, 0, y.2.1, y.2.2.1, y.2.2.2.1, y.2.2.2.2.1, y.2.2.2.2.2.1, y.2.2.2.2.2.2.1, y.2.2.2.2.2.2.2.1, y.2.2.2.2.2.2.2.2)) fun v35 =>
        if (decide ((v35.2.1 : Int) = ((List.length v35.2.2.2.2.2.1 : Nat) : Int))) = true then
          some (.inr (v35.2.2.2.2.2.2.2.2.1, v35.2.2.2.2.2.2.2.2.2))
        else
        if (decide ((0 : Int) ≤ v35.2.1)) = true then
        if (decide ((v35.2.1 : Int) < ((List.length v35.2.2.2.2.2.1 : Nat) : Int))) = true then
        Option.bind (v35.2.2.2.2.2.1[0 + Int.toNat v35.2.1]?) fun r36 =>
        if (!r36) = true then
          if (roomFor (List.length v35.2.2.2.2.2.2.2.2.1 + List.length ([false] : List Bool)) 1) = true then
          some (.inl (v35.1, v35.2.2.1, v35.2.2.2.1, v35.2.2.2.2.1, v35.2.2.2.2.2.1, v35.2.2.2.2.2.2.1, v35.2.2.2.2.2.2.2.1, v35.2.2.2.2.2.2.2.2.1 ++ ([false] : List Bool), v35.2.2.2.2.2.2.2.2.2))
          else none
        else
        if (decide ((0 : Int) ≤ v35.1)) = true then
        if (decide ((v35.1 : Int) < ((List.length v35.2.2.2.2.2.2.1 : Nat) : Int))) = true then
        Option.bind (v35.2.2.2.2.2.2.1[0 + Int.toNat v35.1]?) fun r37 =>
        if (roomFor (List.length v35.2.2.2.2.2.2.2.2.1 + List.length ([r37] : List Bool)) 1) = true then
        if (decide ((0 : Int) ≤ IntKind.wrap .i64 (v35.1 + 1))) = true then
        if (decide ((IntKind.wrap .i64 (v35.1 + 1) : Int) < ((List.length v35.2.2.2.2.2.2.2.1 : Nat) : Int))) = true then
        Option.bind (v35.2.2.2.2.2.2.2.1[0 + Int.toNat (IntKind.wrap .i64 (v35.1 + 1))]?) fun r38 =>
        if (decide ((0 : Int) ≤ IntKind.wrap .i64 (v35.2.1 + 1))) = true then
        if (decide ((IntKind.wrap .i64 (v35.2.1 + 1) : Int) < ((List.length v35.2.2.2.2.2.2.2.2.2 : Nat) : Int))) = true then
        Option.bind (v35.2.2.2.2.2.2.2.2.2[0 + Int.toNat (IntKind.wrap .i64 (v35.2.1 + 1))]?) fun r39 =>
        Option.bind (v35.2.2.2.2.2.2.2.2.2[0 + Int.toNat (IntKind.wrap .i64 (v35.2.1 + 1))]?) fun r40 =>
        some (.inl (IntKind.wrap .i64 (v35.1 + 1), v35.2.2.1, v35.2.2.2.1, v35.2.2.2.2.1, v35.2.2.2.2.2.1, v35.2.2.2.2.2.2.1, v35.2.2.2.2.2.2.2.1, v35.2.2.2.2.2.2.2.2.1 ++ ([r37] : List Bool), v35.2.2.2.2.2.2.2.2.2.set (0 + Int.toNat (IntKind.wrap .i64 (v35.2.1 + 1))) r38))
        else none
        else none
        else none
        else none
        else none
        else none
        else none
        else none
        else none
        else none
        else none) fun v41 =>
    match v41 with
    | .inl y42 =>
      some (.inl (y42.1, y42.2.1, y42.2.2.1, IntKind.wrap .i64 (y42.2.2.2.1 + 1), y42.2.2.2.2.1, y42.2.2.2.2.2.1, y42.2.2.2.2.2.2.1, y42.2.2.2.2.2.2.2.1, y42.2.2.2.2.2.2.2.2))
    | .inr s43 =>
      some (.inr (s43.1, s43.2))
  else
    some (.inr (y.2.2.2.2.2.2.2.1, y.2.2.2.2.2.2.2.2))
def s_l1Compose (x0 : List (Int × (Int × List UInt8))) (x1 : List (Int × (Int × List UInt8))) : Option (List (Int × (Int × List UInt8))) :=
  Option.bind (s_l1Open x0) fun c1 =>
  Option.bind (s_l1Open x1) fun c2 =>
  if (decide ((0 : Int) ≤ ((List.length c1.2 : Nat) : Int))) = true then
  if (decide ((((List.length c1.2 : Nat) : Int) : Int) ≤ ((List.length c1.2 : Nat) : Int))) = true then
  if (roomFor (Int.toNat ((List.length c1.2 : Nat) : Int)) 16) = true then
  if (decide ((0 : Int) ≤ 0)) = true then
  if (decide ((0 : Int) < ((List.length c2.2 : Nat) : Int))) = true then
  Option.bind (c2.2[0 + Int.toNat 0]?) fun r3 =>
  if (decide ((0 : Int) ≤ 0)) = true then
  if (decide ((0 : Int) < ((List.length (List.replicate (Int.toNat ((List.length c1.2 : Nat) : Int)) ([] : List UInt8)) : Nat) : Int))) = true then
  Option.bind ((List.replicate (Int.toNat ((List.length c1.2 : Nat) : Int)) ([] : List UInt8))[0 + Int.toNat 0]?) fun r4 =>
  Option.bind ((List.replicate (Int.toNat ((List.length c1.2 : Nat) : Int)) ([] : List UInt8))[0 + Int.toNat 0]?) fun r5 =>
  Option.bind (loopG s_l1Compose_L2 (0, c1.2, ((List.length c1.2 : Nat) : Int), 0, c1.1, c2.1, c2.2, [], (List.replicate (Int.toNat ((List.length c1.2 : Nat) : Int)) ([] : List UInt8)).set (0 + Int.toNat 0) r3)) fun v44 =>
  Option.bind (s_l1Close v44.1 v44.2) fun c45 =>
  some c45
  else none
  else none
  else none
  else none
  else none
  else none
  else none

def s_ComposeAll_L1 (y : (List (Int × (Int × List UInt8)) × (List (List (Int × (Int × List UInt8))) × (Int × Int)))) : Option ((List (Int × (Int × List UInt8)) × (List (List (Int × (Int × List UInt8))) × (Int × Int))) ⊕ (List (Int × (Int × List UInt8)) ⊕ Bool)) :=
  if (decide ((y.2.2.2 : Int) < y.2.2.1)) = true then
    Option.bind (α := (List (Int × (Int × List UInt8)) × (List (List (Int × (Int × List UInt8))) × (Int × Int))) ⊕ Bool) (
        if (decide ((0 : Int) ≤ y.2.2.2)) = true then
        Option.bind (y.2.1[Int.toNat y.2.2.2]?) fun r11 =>
        Option.bind (α := (List (Int × (Int × List UInt8)) × (Int × (List (List (Int × (Int × List UInt8))) × (Int × (Int × (Bool × List (Int × (Int × List UInt8))))))))) (
            Option.bind (s_GoodChange r11) fun c12 =>
            if (!c12) = true then
              some (y.1, y.2.2.2, y.2.1, y.2.2.1, y.2.2.2, true, r11)
            else
            if (decide ((0 : Int) < y.2.2.2)) = true then
              Option.bind (s_l1Target y.1) fun c13 =>
              Option.bind (s_l1Source r11) fun c14 =>
              some (y.1, y.2.2.2, y.2.1, y.2.2.1, y.2.2.2, decide (¬ (c13 : Int) = c14), r11)
            else
            some (y.1, y.2.2.2, y.2.1, y.2.2.1, y.2.2.2, false, r11)) fun v15 =>
        if v15.2.2.2.2.2.1 = true then
          some (.inr false)
        else
        if (decide ((v15.2.1 : Int) = 0)) = true then
          if (roomFor (List.length v15.1 + List.length v15.2.2.2.2.2.2) 32) = true then
          some (.inl (v15.1 ++ v15.2.2.2.2.2.2, v15.2.2.1, v15.2.2.2.1, v15.2.2.2.2.1))
          else none
        else
          Option.bind (s_l1Compose v15.1 v15.2.2.2.2.2.2) fun c16 =>
          some (.inl (c16, v15.2.2.1, v15.2.2.2.1, v15.2.2.2.2.1))
        else none) fun v17 =>
    match v17 with
    | .inl y18 =>
      some (.inl (y18.1, y18.2.1, y18.2.2.1, IntKind.wrap .i64 (y18.2.2.2 + 1)))
    | .inr s19 =>
      some (.inr (.inr s19))
  else
    some (.inr (.inl y.1))
def s_ComposeAll (x0 : List (List (Int × (Int × List UInt8)))) : Option ((List (Int × (Int × List UInt8)) × Bool)) :=
  Option.bind (s_l1In ((List.length x0 : Nat) : Int) 1 64) fun c1 =>
  if (!c1) = true then
    some ([], false)
  else
    Option.bind (loopG s_ComposeAll_L1 ([], x0, ((List.length x0 : Nat) : Int), 0)) fun v20 =>
    match v20 with
    | .inl y21 =>
      some (y21, true)
    | .inr s22 =>
      some ([], s22)

def i_told_parts_L1 (y : (List (List UInt8) × (Int × (Int × (List Bool × (List (List UInt8) × List (Int × (Int × List UInt8)))))))) : Option ((List (List UInt8) × (Int × (Int × (List Bool × (List (List UInt8) × List (Int × (Int × List UInt8))))))) ⊕ (List (Int × (Int × List UInt8)))) :=
  if (decide ((y.2.2.1 : Int) < y.2.1)) = true then
    if (decide ((0 : Int) ≤ y.2.2.1)) = true then
    Option.bind (y.1[Int.toNat y.2.2.1]?) fun r9 =>
    Option.bind (α := (Int × (List (List UInt8) × (Int × (Int × (List Bool × (List (List UInt8) × List (Int × (Int × List UInt8))))))))) (
        if (!((r9 : List UInt8) == ([] : List UInt8))) = true then
          Option.bind (i_builder_add_o 0 0 r9 y.2.2.2.2.2) fun c10 =>
          some (y.2.2.1, y.1, y.2.1, y.2.2.1, y.2.2.2.1, y.2.2.2.2.1, c10)
        else
          some (y.2.2.1, y.1, y.2.1, y.2.2.1, y.2.2.2.1, y.2.2.2.2.1, y.2.2.2.2.2)) fun v11 =>
    Option.bind (α := (List (List UInt8) × (Int × (Int × (List Bool × (List (List UInt8) × List (Int × (Int × List UInt8)))))))) (
        if (decide ((v11.1 : Int) = ((List.length v11.2.2.2.2.1 : Nat) : Int))) = true then
          some (v11.2.1, v11.2.2.1, v11.2.2.2.1, v11.2.2.2.2.1, v11.2.2.2.2.2.1, v11.2.2.2.2.2.2)
        else
        if (decide ((0 : Int) ≤ v11.1)) = true then
        Option.bind (v11.2.2.2.2.1[Int.toNat v11.1]?) fun r12 =>
        Option.bind (α := (List (List UInt8) × (Int × (Int × (List Bool × (List (List UInt8) × List (Int × (Int × List UInt8)))))))) (
            if r12 = true then
              Option.bind (i_builder_add_o 1 0 [] v11.2.2.2.2.2.2) fun c13 =>
              some (v11.2.1, v11.2.2.1, v11.2.2.2.1, v11.2.2.2.2.1, v11.2.2.2.2.2.1, c13)
            else
              Option.bind (i_builder_add_o 0 1 [] v11.2.2.2.2.2.2) fun c14 =>
              some (v11.2.1, v11.2.2.1, v11.2.2.2.1, v11.2.2.2.2.1, v11.2.2.2.2.2.1, c14)) fun v15 =>
        some (v15.1, v15.2.1, v15.2.2.1, v15.2.2.2.1, v15.2.2.2.2.1, v15.2.2.2.2.2)
        else none) fun v16 =>
    some (.inl (v16.1, v16.2.1, IntKind.wrap .i64 (v16.2.2.1 + 1), v16.2.2.2.1, v16.2.2.2.2.1, v16.2.2.2.2.2))
    else none
  else
    some (.inr y.2.2.2.2.2)
def i_told_parts (x0 : List Bool) (x1 : List (List UInt8)) : Option (List (Int × (Int × List UInt8))) :=
  Option.bind (loopG i_told_parts_L1 (x1, ((List.length x1 : Nat) : Int), 0, x0, x1, [])) fun v17 =>
  some v17

def i_compose_L1 (y : (Int × (Int × (List UInt8 × (List UInt8 × (List (List UInt8) × (Int × (Int × (Int × (Int × (List Bool × (List Bool × (List (List UInt8) × (List Bool × List (List UInt8))))))))))))))) : Option ((Int × (Int × (List UInt8 × (List UInt8 × (List (List UInt8) × (Int × (Int × (Int × (Int × (List Bool × (List Bool × (List (List UInt8) × (List Bool × List (List UInt8)))))))))))))) ⊕ (Int × (Int × (List UInt8 × (List (List UInt8) × (Int × (Int × (List Bool × (List Bool × (List (List UInt8) × (List Bool × List (List UInt8)))))))))))) :=
  if (decide ((y.2.2.2.2.2.2.2.2.1 : Int) < y.2.2.2.2.2.2.2.1)) = true then
    if (decide ((0 : Int) ≤ y.1)) = true then
    if (decide ((y.1 : Int) < ((List.length y.2.2.2.2.2.2.2.2.2.2.1 : Nat) : Int))) = true then
    Option.bind (y.2.2.2.2.2.2.2.2.2.2.1[0 + Int.toNat y.1]?) fun r16 =>
    Option.bind (α := (Int × (Int × (List UInt8 × (List UInt8 × (List (List UInt8) × (Int × (Int × (Int × (Int × (List Bool × (List Bool × (List (List UInt8) × (List Bool × List (List UInt8))))))))))))))) (
        if r16 = true then
          if (decide ((0 : Int) ≤ y.2.2.2.2.2.2.2.2.1)) = true then
          if (decide ((y.2.2.2.2.2.2.2.2.1 : Int) ≤ IntKind.wrap .i64 (y.2.2.2.2.2.2.2.2.1 + 1))) = true then
          if (decide ((IntKind.wrap .i64 (y.2.2.2.2.2.2.2.2.1 + 1) : Int) ≤ ((List.length y.2.2.1 : Nat) : Int))) = true then
          if (decide ((((List.length y.2.2.1 : Nat) : Int) : Int) ≤ ((List.length y.2.2.1 : Nat) : Int))) = true then
          if (decide ((List.length y.2.2.2.1 + List.length (((y.2.2.1 : List UInt8).drop (Int.toNat y.2.2.2.2.2.2.2.2.1)).take (Int.toNat (IntKind.wrap .i64 (y.2.2.2.2.2.2.2.2.1 + 1)) - Int.toNat y.2.2.2.2.2.2.2.2.1)) : Nat) ≤ 9223372036854775807)) = true then
          some (y.1, y.2.1, y.2.2.1, (y.2.2.2.1 : List UInt8) ++ (((y.2.2.1 : List UInt8).drop (Int.toNat y.2.2.2.2.2.2.2.2.1)).take (Int.toNat (IntKind.wrap .i64 (y.2.2.2.2.2.2.2.2.1 + 1)) - Int.toNat y.2.2.2.2.2.2.2.2.1)), y.2.2.2.2.1, y.2.2.2.2.2.1, y.2.2.2.2.2.2.1, y.2.2.2.2.2.2.2.1, y.2.2.2.2.2.2.2.2.1, y.2.2.2.2.2.2.2.2.2.1, y.2.2.2.2.2.2.2.2.2.2.1, y.2.2.2.2.2.2.2.2.2.2.2.1, y.2.2.2.2.2.2.2.2.2.2.2.2.1, y.2.2.2.2.2.2.2.2.2.2.2.2.2)
          else none
          else none
          else none
          else none
          else none
        else
          some (y.1, y.2.1, y.2.2.1, y.2.2.2.1, y.2.2.2.2.1, y.2.2.2.2.2.1, y.2.2.2.2.2.2.1, y.2.2.2.2.2.2.2.1, y.2.2.2.2.2.2.2.2.1, y.2.2.2.2.2.2.2.2.2.1, y.2.2.2.2.2.2.2.2.2.2.1, y.2.2.2.2.2.2.2.2.2.2.2.1, y.2.2.2.2.2.2.2.2.2.2.2.2.1, y.2.2.2.2.2.2.2.2.2.2.2.2.2)) fun v17 =>
    if (decide ((0 : Int) ≤ IntKind.wrap .i64 (v17.1 + 1))) = true then
    if (decide ((IntKind.wrap .i64 (v17.1 + 1) : Int) < ((List.length v17.2.2.2.2.2.2.2.2.2.2.2.1 : Nat) : Int))) = true then
    Option.bind (v17.2.2.2.2.2.2.2.2.2.2.2.1[0 + Int.toNat (IntKind.wrap .i64 (v17.1 + 1))]?) fun r18 =>
    if (decide ((List.length v17.2.2.2.1 + List.length r18 : Nat) ≤ 9223372036854775807)) = true then
    some (.inl (IntKind.wrap .i64 (v17.1 + 1), v17.2.1, v17.2.2.1, (v17.2.2.2.1 : List UInt8) ++ r18, v17.2.2.2.2.1, v17.2.2.2.2.2.1, v17.2.2.2.2.2.2.1, v17.2.2.2.2.2.2.2.1, IntKind.wrap .i64 (v17.2.2.2.2.2.2.2.2.1 + 1), v17.2.2.2.2.2.2.2.2.2.1, v17.2.2.2.2.2.2.2.2.2.2.1, v17.2.2.2.2.2.2.2.2.2.2.2.1, v17.2.2.2.2.2.2.2.2.2.2.2.2.1, v17.2.2.2.2.2.2.2.2.2.2.2.2.2))
    else none
    else none
    else none
    else none
    else none
  else
    some (.inr (y.1, y.2.1, y.2.2.2.1, y.2.2.2.2.1, y.2.2.2.2.2.1, y.2.2.2.2.2.2.1, y.2.2.2.2.2.2.2.2.2.1, y.2.2.2.2.2.2.2.2.2.2.1, y.2.2.2.2.2.2.2.2.2.2.2.1, y.2.2.2.2.2.2.2.2.2.2.2.2.1, y.2.2.2.2.2.2.2.2.2.2.2.2.2))
def i_compose_L2 (y : (Int × (List UInt8 × (List (List UInt8) × (Int × (Int × (List Bool × (List Bool × (List (List UInt8) × (List Bool × List (List UInt8))))))))))) : Option ((Int × (List UInt8 × (List (List UInt8) × (Int × (Int × (List Bool × (List Bool × (List (List UInt8) × (List Bool × List (List UInt8)))))))))) ⊕ (List Bool × List (List UInt8))) :=
  if (decide ((y.2.2.2.2.1 : Int) < y.2.2.2.1)) = true then
    Option.bind (α := (Int × (List UInt8 × (List (List UInt8) × (Int × (Int × (List Bool × (List Bool × (List (List UInt8) × (List Bool × List (List UInt8)))))))))) ⊕ (List Bool × List (List UInt8))) (
        if (decide ((0 : Int) ≤ y.2.2.2.2.1)) = true then
        if (decide ((y.2.2.2.2.1 : Int) < ((List.length y.2.2.1 : Nat) : Int))) = true then
        Option.bind (y.2.2.1[0 + Int.toNat y.2.2.2.2.1]?) fun r15 =>
        Option.bind (loopG i_compose_L1 (y.1, y.2.2.2.2.1, r15, y.2.1, y.2.2.1, y.2.2.2.1, y.2.2.2.2.1, ((List.length r15 : Nat) : Int), 0, y.2.2.2.2.2.1, y.2.2.2.2.2.2.1, y.2.2.2.2.2.2.2.1, y.2.2.2.2.2.2.2.2.1, y.2.2.2.2.2.2.2.2.2)) fun v19 =>
        if (roomFor (List.length v19.2.2.2.2.2.2.2.2.2.2 + List.length ([v19.2.2.1] : List (List UInt8))) 16) = true then
        if (decide ((v19.2.1 : Int) = ((List.length v19.2.2.2.2.2.2.1 : Nat) : Int))) = true then
          some (.inr (v19.2.2.2.2.2.2.2.2.2.1, v19.2.2.2.2.2.2.2.2.2.2 ++ ([v19.2.2.1] : List (List UInt8))))
        else
        if (decide ((0 : Int) ≤ v19.2.1)) = true then
        if (decide ((v19.2.1 : Int) < ((List.length v19.2.2.2.2.2.2.1 : Nat) : Int))) = true then
        Option.bind (v19.2.2.2.2.2.2.1[0 + Int.toNat v19.2.1]?) fun r20 =>
        if (!r20) = true then
          if (roomFor (List.length v19.2.2.2.2.2.2.2.2.2.1 + List.length ([false] : List Bool)) 1) = true then
          some (.inl (v19.1, ([] : List UInt8), v19.2.2.2.1, v19.2.2.2.2.1, v19.2.2.2.2.2.1, v19.2.2.2.2.2.2.1, v19.2.2.2.2.2.2.2.1, v19.2.2.2.2.2.2.2.2.1, v19.2.2.2.2.2.2.2.2.2.1 ++ ([false] : List Bool), v19.2.2.2.2.2.2.2.2.2.2 ++ ([v19.2.2.1] : List (List UInt8))))
          else none
        else
        if (decide ((0 : Int) ≤ v19.1)) = true then
        if (decide ((v19.1 : Int) < ((List.length v19.2.2.2.2.2.2.2.1 : Nat) : Int))) = true then
        Option.bind (v19.2.2.2.2.2.2.2.1[0 + Int.toNat v19.1]?) fun r21 =>
        if (roomFor (List.length v19.2.2.2.2.2.2.2.2.2.1 + List.length ([r21] : List Bool)) 1) = true then
        if (decide ((0 : Int) ≤ IntKind.wrap .i64 (v19.1 + 1))) = true then
        if (decide ((IntKind.wrap .i64 (v19.1 + 1) : Int) < ((List.length v19.2.2.2.2.2.2.2.2.1 : Nat) : Int))) = true then
        Option.bind (v19.2.2.2.2.2.2.2.2.1[0 + Int.toNat (IntKind.wrap .i64 (v19.1 + 1))]?) fun r22 =>
        some (.inl (IntKind.wrap .i64 (v19.1 + 1), r22, v19.2.2.2.1, v19.2.2.2.2.1, v19.2.2.2.2.2.1, v19.2.2.2.2.2.2.1, v19.2.2.2.2.2.2.2.1, v19.2.2.2.2.2.2.2.2.1, v19.2.2.2.2.2.2.2.2.2.1 ++ ([r21] : List Bool), v19.2.2.2.2.2.2.2.2.2.2 ++ ([v19.2.2.1] : List (List UInt8))))
        else none
        else none
        else none
        else none
        else none
        else none
        else none
        else none
        else none
        else none) fun v23 =>
    match v23 with
    | .inl y24 =>
      some (.inl (y24.1, y24.2.1, y24.2.2.1, y24.2.2.2.1, IntKind.wrap .i64 (y24.2.2.2.2.1 + 1), y24.2.2.2.2.2.1, y24.2.2.2.2.2.2.1, y24.2.2.2.2.2.2.2.1, y24.2.2.2.2.2.2.2.2.1, y24.2.2.2.2.2.2.2.2.2))
    | .inr s25 =>
      some (.inr (s25.1, s25.2))
  else
    some (.inr (y.2.2.2.2.2.2.2.2.1, y.2.2.2.2.2.2.2.2.2))
def i_compose (x0 : List (Int × (Int × List UInt8))) (x1 : List (Int × (Int × List UInt8))) : Option (List (Int × (Int × List UInt8))) :=
  Option.bind (i_tell x0) fun c1 =>
  Option.bind (i_tell x1) fun c2 =>
  if (decide ((0 : Int) ≤ 0)) = true then
  if (decide ((0 : Int) < ((List.length c2.2 : Nat) : Int))) = true then
  Option.bind (c2.2[0 + Int.toNat 0]?) fun r3 =>
  Option.bind (loopG i_compose_L2 (0, r3, c1.2, ((List.length c1.2 : Nat) : Int), 0, c1.1, c2.1, c2.2, [], [])) fun v26 =>
  Option.bind (i_told_parts v26.1 v26.2) fun c27 =>
  some c27
  else none
  else none

def i_ComposeChanges (x0 : List (Int × (Int × List UInt8))) (x1 : List (Int × (Int × List UInt8))) : Option ((List (Int × (Int × List UInt8)) × Bool)) :=
  Option.bind (i_LengthsOf x0) fun c1 =>
  Option.bind (α := (List (Int × (Int × List UInt8)) × (List (Int × (Int × List UInt8)) × Bool))) (
      if (!c1.2.2) = true then
        some (x0, x1, true)
      else
        Option.bind (i_fits x1 c1.2.1) fun c2 =>
        some (x0, x1, (!c2))) fun v3 =>
  if v3.2.2 = true then
    some ([], false)
  else
    Option.bind (i_compose v3.1 v3.2.1) fun c4 =>
    some (c4, true)

def s_DrawComposeChanges (x0 : List Int) : Option ((List (Int × (Int × List UInt8)) × List (Int × (Int × List UInt8)))) :=
  Option.bind (s_l1Cur_size_f x0 0 0) fun c1 =>
  Option.bind (s_l1Cur_changeOf_f c1.1 c1.2.1 c1.2.2.1 c1.2.2.2) fun c2 =>
  Option.bind (s_GoodChange c2.1) fun c3 =>
  Option.bind (α := (List (Int × (Int × List UInt8)) × (Int × (List Int × (Int × Int))))) (
      if c3 = true then
        Option.bind (s_l1Target c2.1) fun c4 =>
        some (c2.1, c4, c2.2.1, c2.2.2.1, c2.2.2.2)
      else
        some (c2.1, 3, c2.2.1, c2.2.2.1, c2.2.2.2)) fun v5 =>
  Option.bind (s_l1Cur_one_f 16 v5.2.2.1 v5.2.2.2.1 v5.2.2.2.2) fun c6 =>
  Option.bind (α := (List (Int × (Int × List UInt8)) × (Int × (List Int × (Int × Int))))) (
      if c6.1 = true then
        some (v5.1, IntKind.wrap .i64 (v5.2.1 + 1), c6.2.1, c6.2.2.1, c6.2.2.2)
      else
        some (v5.1, v5.2.1, c6.2.1, c6.2.2.1, c6.2.2.2)) fun v7 =>
  Option.bind (s_l1Cur_changeOf_f v7.2.1 v7.2.2.1 v7.2.2.2.1 v7.2.2.2.2) fun c8 =>
  some (v7.1, c8.1)

def s_ComposeChanges (x0 : List (Int × (Int × List UInt8))) (x1 : List (Int × (Int × List UInt8))) : Option ((List (Int × (Int × List UInt8)) × Bool)) :=
  Option.bind (α := (List (Int × (Int × List UInt8)) × (List (Int × (Int × List UInt8)) × Bool))) (
      Option.bind (s_GoodChange x0) fun c1 =>
      if (!c1) = true then
        some (x0, x1, true)
      else
        Option.bind (s_GoodChange x1) fun c2 =>
        if (!c2) = true then
          some (x0, x1, true)
        else
          Option.bind (s_l1Target x0) fun c3 =>
          Option.bind (s_l1Source x1) fun c4 =>
          some (x0, x1, decide (¬ (c3 : Int) = c4))) fun v5 =>
  if v5.2.2 = true then
    some ([], false)
  else
    Option.bind (s_l1Compose v5.1 v5.2.1) fun c6 =>
    some (c6, true)

def s_ChangeFor (x0 : List Int) (x1 : Int) : Option (List (Int × (Int × List UInt8))) :=
  Option.bind (α := (Int × (Bool × (List Int × (Int × Int))))) (
      if (decide ((x1 : Int) < 0)) = true then
        some (x1, true, x0, 0, 0)
      else
      some (x1, decide ((120 : Int) < x1), x0, 0, 0)) fun v1 =>
  Option.bind (α := (Int × (List Int × (Int × Int)))) (
      if v1.2.1 = true then
        some (0, v1.2.2.1, v1.2.2.2.1, v1.2.2.2.2)
      else
        some (v1.1, v1.2.2.1, v1.2.2.2.1, v1.2.2.2.2)) fun v2 =>
  Option.bind (s_l1Cur_changeOf_f v2.1 v2.2.1 v2.2.2.1 v2.2.2.2) fun c3 =>
  some c3.1

def l_FnCarried (x0 : List Int) (x1 : List Int) : Option (Bool) :=
  if (decide ((1048576 : Int) < (IntKind.wrap .i64 (((List.length x0 : Nat) : Int) + ((List.length x1 : Nat) : Int))))) = true then
    some true
  else
    Option.bind (s_DrawComposeChanges x0) fun c1 =>
    Option.bind (s_LengthsOf c1.1) fun c2 =>
    Option.bind (s_ComposeChanges c1.1 c1.2) fun c3 =>
    Option.bind (s_ChangeFor x1 c2.1) fun c4 =>
    Option.bind (α := (List (Int × (Int × List UInt8)) × (List (Int × (Int × List UInt8)) × (List (Int × (Int × List UInt8)) × (List (Int × (Int × List UInt8)) × Bool))))) (
        if (!c2.2.2) = true then
          some (c1.1, c1.2, c3.1, c4, true)
        else
        if (!c3.2) = true then
          some (c1.1, c1.2, c3.1, c4, true)
        else
          Option.bind (s_GoodChange c4) fun c5 =>
          some (c1.1, c1.2, c3.1, c4, (!c5))) fun v6 =>
    if v6.2.2.2.2 = true then
      some true
    else
      Option.bind (i_CarryChange v6.2.2.2.1 v6.1 false) fun c7 =>
      Option.bind (s_CarryChange v6.2.2.2.1 v6.1 false) fun c8 =>
      Option.bind (α := (List (Int × (Int × List UInt8)) × (List (Int × (Int × List UInt8)) × (List (Int × (Int × List UInt8)) × (List (Int × (Int × List UInt8)) × (Bool × Bool)))))) (
          if (c7.2 != c8.2) = true then
            some (v6.2.1, v6.2.2.1, v6.2.2.2.1, c7.1, c7.2, true)
          else
            Option.bind (l_sameParts c7.1 c8.1) fun c9 =>
            some (v6.2.1, v6.2.2.1, v6.2.2.2.1, c7.1, c7.2, (!c9))) fun v10 =>
      if v10.2.2.2.2.2 = true then
        some false
      else
        Option.bind (i_CarryChange v10.2.2.2.1 v10.1 false) fun c11 =>
        Option.bind (i_CarryChange v10.2.2.1 v10.2.1 false) fun c12 =>
        Option.bind (α := (List (Int × (Int × List UInt8)) × (List (Int × (Int × List UInt8)) × Bool))) (
            if (!v10.2.2.2.2.1) = true then
              some (c11.1, c12.1, true)
            else
            if (!c11.2) = true then
              some (c11.1, c12.1, true)
            else
            some (c11.1, c12.1, (!c12.2))) fun v13 =>
        if v13.2.2 = true then
          some true
        else
          Option.bind (l_sameParts v13.1 v13.2.1) fun c14 =>
          some c14

def i_InvertChange_L1 (y : (List UInt8 × (List (Int × (Int × List UInt8)) × (Int × (List (Int × (Int × List UInt8)) × (Int × Int)))))) : Option ((List UInt8 × (List (Int × (Int × List UInt8)) × (Int × (List (Int × (Int × List UInt8)) × (Int × Int))))) ⊕ (List (Int × (Int × List UInt8)))) :=
  if (decide ((y.2.2.2.2.2 : Int) < y.2.2.2.2.1)) = true then
    if (decide ((0 : Int) ≤ y.2.2.2.2.2)) = true then
    Option.bind (y.2.2.2.1[Int.toNat y.2.2.2.2.2]?) fun r2 =>
    Option.bind (i_Part_kind r2.1 r2.2.1 r2.2.2) fun c3 =>
    Option.bind (α := (List UInt8 × (List (Int × (Int × List UInt8)) × (Int × (List (Int × (Int × List UInt8)) × (Int × (Int × (Int × (Int × List UInt8))))))))) (
        if (decide ((c3 : Int) = 1)) = true then
          if (roomFor (List.length y.2.1 + List.length ([(r2.1, (r2.2.1, r2.2.2))] : List (Int × (Int × List UInt8)))) 32) = true then
          some (y.1, y.2.1 ++ ([(r2.1, (r2.2.1, r2.2.2))] : List (Int × (Int × List UInt8))), y.2.2.1, y.2.2.2.1, y.2.2.2.2.1, y.2.2.2.2.2, r2.1, r2.2.1, r2.2.2)
          else none
        else
          Option.bind (α := (List UInt8 × (List (Int × (Int × List UInt8)) × (Int × (List (Int × (Int × List UInt8)) × (Int × (Int × (Int × (Int × List UInt8))))))))) (
              if (decide ((c3 : Int) = 2)) = true then
                if (decide ((0 : Int) ≤ y.2.2.1)) = true then
                if (decide ((y.2.2.1 : Int) ≤ IntKind.wrap .i64 (y.2.2.1 + r2.2.1))) = true then
                if (decide ((IntKind.wrap .i64 (y.2.2.1 + r2.2.1) : Int) ≤ ((List.length y.1 : Nat) : Int))) = true then
                if (decide ((((List.length y.1 : Nat) : Int) : Int) ≤ ((List.length y.1 : Nat) : Int))) = true then
                if (roomFor (List.length y.2.1 + List.length ([(0, (0, ((y.1 : List UInt8).drop (Int.toNat y.2.2.1)).take (Int.toNat (IntKind.wrap .i64 (y.2.2.1 + r2.2.1)) - Int.toNat y.2.2.1)))] : List (Int × (Int × List UInt8)))) 32) = true then
                some (y.1, y.2.1 ++ ([(0, (0, ((y.1 : List UInt8).drop (Int.toNat y.2.2.1)).take (Int.toNat (IntKind.wrap .i64 (y.2.2.1 + r2.2.1)) - Int.toNat y.2.2.1)))] : List (Int × (Int × List UInt8))), y.2.2.1, y.2.2.2.1, y.2.2.2.2.1, y.2.2.2.2.2, r2.1, r2.2.1, r2.2.2)
                else none
                else none
                else none
                else none
                else none
              else
                Option.bind (α := (List UInt8 × (List (Int × (Int × List UInt8)) × (Int × (List (Int × (Int × List UInt8)) × (Int × (Int × (Int × (Int × List UInt8))))))))) (
                    if (decide ((c3 : Int) = 3)) = true then
                      if (roomFor (List.length y.2.1 + List.length ([(0, (((List.length r2.2.2 : Nat) : Int), []))] : List (Int × (Int × List UInt8)))) 32) = true then
                      some (y.1, y.2.1 ++ ([(0, (((List.length r2.2.2 : Nat) : Int), []))] : List (Int × (Int × List UInt8))), y.2.2.1, y.2.2.2.1, y.2.2.2.2.1, y.2.2.2.2.2, r2.1, r2.2.1, r2.2.2)
                      else none
                    else
                      some (y.1, y.2.1, y.2.2.1, y.2.2.2.1, y.2.2.2.2.1, y.2.2.2.2.2, r2.1, r2.2.1, r2.2.2)) fun v4 =>
                some (v4.1, v4.2.1, v4.2.2.1, v4.2.2.2.1, v4.2.2.2.2.1, v4.2.2.2.2.2.1, v4.2.2.2.2.2.2.1, v4.2.2.2.2.2.2.2.1, v4.2.2.2.2.2.2.2.2)) fun v5 =>
          some (v5.1, v5.2.1, v5.2.2.1, v5.2.2.2.1, v5.2.2.2.2.1, v5.2.2.2.2.2.1, v5.2.2.2.2.2.2.1, v5.2.2.2.2.2.2.2.1, v5.2.2.2.2.2.2.2.2)) fun v6 =>
    some (.inl (v6.1, v6.2.1, IntKind.wrap .i64 (v6.2.2.1 + (IntKind.wrap .i64 (v6.2.2.2.2.2.2.1 + v6.2.2.2.2.2.2.2.1))), v6.2.2.2.1, v6.2.2.2.2.1, IntKind.wrap .i64 (v6.2.2.2.2.2.1 + 1)))
    else none
  else
    some (.inr y.2.1)
def i_InvertChange (x0 : List UInt8) (x1 : List (Int × (Int × List UInt8))) : Option ((List (Int × (Int × List UInt8)) × Bool)) :=
  Option.bind (i_fits x1 ((List.length x0 : Nat) : Int)) fun c1 =>
  if (!c1) = true then
    some ([], false)
  else
    Option.bind (loopG i_InvertChange_L1 (x0, [], 0, x1, ((List.length x1 : Nat) : Int), 0)) fun v7 =>
    some (v7, true)

def l_FnComposed (x0 : List Int) : Option (Bool) :=
  if (decide ((1048576 : Int) < ((List.length x0 : Nat) : Int))) = true then
    some true
  else
    Option.bind (s_DrawComposeChanges x0) fun c1 =>
    Option.bind (i_ComposeChanges c1.1 c1.2) fun c2 =>
    Option.bind (s_ComposeChanges c1.1 c1.2) fun c3 =>
    Option.bind (α := (List (Int × (Int × List UInt8)) × (List (Int × (Int × List UInt8)) × (List (Int × (Int × List UInt8)) × (Bool × Bool))))) (
        if (c2.2 != c3.2) = true then
          some (c1.1, c1.2, c2.1, c2.2, true)
        else
          Option.bind (l_sameParts c2.1 c3.1) fun c4 =>
          some (c1.1, c1.2, c2.1, c2.2, (!c4))) fun v5 =>
    if v5.2.2.2.2 = true then
      some false
    else
    if (!v5.2.2.2.1) = true then
      some true
    else
      Option.bind (s_LengthsOf v5.1) fun c6 =>
      Option.bind (l_fill c6.1) fun c7 =>
      Option.bind (i_ApplyChange c7 v5.1) fun c8 =>
      Option.bind (i_ApplyChange c8.1 v5.2.1) fun c9 =>
      Option.bind (i_ApplyChange c7 v5.2.2.1) fun c10 =>
      Option.bind (α := (List (Int × (Int × List UInt8)) × (List UInt8 × (List UInt8 × Bool)))) (
          if (!c8.2) = true then
            some (v5.2.2.1, c7, c10.1, true)
          else
          if (!c9.2) = true then
            some (v5.2.2.1, c7, c10.1, true)
          else
          if (!c10.2) = true then
            some (v5.2.2.1, c7, c10.1, true)
          else
          some (v5.2.2.1, c7, c10.1, (!((c9.1 : List UInt8) == c10.1)))) fun v11 =>
      if v11.2.2.2 = true then
        some false
      else
        Option.bind (i_InvertChange v11.2.1 v11.1) fun c12 =>
        Option.bind (i_ApplyChange v11.2.2.1 c12.1) fun c13 =>
        Option.bind (α := Bool) (
            if c12.2 = true then
              if c13.2 = true then
                some ((c13.1 : List UInt8) == v11.2.1)
              else
              some false
            else
            some false) fun v14 =>
        some v14
end
end Go.V.G
