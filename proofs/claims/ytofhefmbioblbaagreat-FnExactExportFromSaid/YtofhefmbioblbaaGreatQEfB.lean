import Derived.Test.YtofhefmbioblbaaGreatQEfA
import Derived.IntWalk
set_option linter.unusedVariables false
set_option linter.unusedSimpArgs false
set_option maxRecDepth 100000
namespace Go.V.G
noncomputable section
abbrev LI:=List Int
abbrev LL:=List LI
abbrev LB:=List UInt8
abbrev cK {α:Type} (b:Bool) (a:Option α):Option α:=if b=true then a else none
abbrev cZ {α:Type} (x:Int) (a:Option α):Option α:=if decide ((0:Int)<=x)=true then a else none
abbrev gX {α β:Type} (l:List α) (i:Int) (k:α->Option β):Option β:=if decide ((0:Int)<=i)=true then Option.bind (l[Int.toNat i]?) k else none
abbrev sX {α:Type} (l h m:Int) (n:Nat) (a:Option α):Option α:=if decide ((0:Int)<=l)=true then(if decide ((l:Int)<=h)=true then(if decide ((h:Int)<=m)=true then(if decide ((m:Int)<=(n:Int))=true then a else none)else none)else none)else none
abbrev wI (x:Int):Int:=IntKind.wrap .i64 x
abbrev wB (x:Int):Int:=IntKind.wrap .u8 x
abbrev U0:=List (List (Int×(Int×LB)))
abbrev U1:=Option (LL×(LI×(LI×LI)))
abbrev U2:=List (Int×LI)×LI
abbrev U3:=List (Int×(Int×LB))×Bool
abbrev U4:=LI×List (Int×(Int×LB))
abbrev U6:=Bool×Option (LL×(LI×(LI×LI)))
abbrev U9:=LI×Option (LL×(LI×(LI×LI)))
abbrev U10:=(Option (LL×(Int×(Bool×(Int×(Int×(Int×(Int×(Int×(Int×(LL×(LI×(LI×(LI×(Int×(LI×(LL×(Int×(LB×(List (Int×Int)×List (List (Int×(Int×LB)))))))))))))))))))))))×Bool
abbrev U11:=LB×LI×Bool
abbrev U12:=LI×List (Int×Int)×Int
abbrev U13:=Bool×LL×LI
abbrev U15:=LL×LI×Bool
abbrev U16:=LL×LL×Int
abbrev U17:=LI×List (Int×(Int×LB))×Int
abbrev U18:=LB×List (Int×(Int×LB))×Bool
abbrev U19:=(LL×(LI×(LI×LI)))×Int×Bool
abbrev U20:=(LL×(LI×(LI×LI)))×LI×Int
abbrev U21:=LI×Int×Option (LL×(LI×(LI×LI)))
abbrev U23:=LI×Bool×Option (LL×(LI×(LI×LI)))
abbrev U24:=Int×Int×Int×LB
abbrev U25:=Bool×Int×Int×LB
abbrev U27:=LI×LI×Int×Int
abbrev U29:=Int×Int×List (Int×Int)×Int
abbrev U30:=Int×List (Int×Int)×Int×Int
abbrev U31:=List (Int×Int)×Int×Int×Bool
abbrev U32:=LL×Int×Bool×Int
abbrev U33:=Int×Int×LI×LL
abbrev U34:=LI×List (Int×Int)×Int×Int
abbrev U35:=List (Int×Int)×LI×Int×Int
abbrev U36:=Bool×Int×LI×LL
abbrev U37:=LL×LL×Int×Int
abbrev U38:=List (Int×Int)×LL×Int×Int
abbrev U39:=LL×LI×LI×LI
abbrev U40:=Int×List (Int×(Int×LB))×Int×Int
abbrev U41:=LI×List (Int×(Int×LB))×Int×Int
abbrev U42:=LI×List (Int×(Int×LB))×Int×Bool
abbrev U43:=Int×List (List (Int×(Int×LB)))×Int×Int
abbrev U44:=List (Int×LI)×List (Int×LI)×Int×Int
abbrev U45:=LI×List (List (Int×(Int×LB)))×Int×Int
abbrev U46:=LB×List (List (Int×(Int×LB)))×Int×Int
abbrev U47:=List (Int×(Int×LB))×List (Int×(Int×LB))×Int×Int
abbrev U48:=(LL×(LI×(LI×LI)))×LI×Int×Bool
abbrev U49:=(LL×(LI×(LI×LI)))×Int×LI×LI
abbrev U50:=List (Int×(Int×LB))×List (List (Int×(Int×LB)))×Int×Int
abbrev U51:=LI×Int×Int×Option (LL×(LI×(LI×LI)))
abbrev U52:=LI×Int×Int×Int×Int
abbrev U53:=Int×U30
abbrev U54:=Bool×U32
abbrev U55:=List (Int×Int)×Int×Bool×Int×Int
abbrev U56:=LL×Int×Bool×Int×Int
abbrev U57:=LI×Int×List (Int×LI)×Int×Int
abbrev U58:=List (Int×Int)×U30
abbrev U59:=Int×U39
abbrev U60:=LI×LI×List (Int×LI)×Int×Int
abbrev U61:=Bool×U39
abbrev U62:=Int×U40
abbrev U64:=List (Int×Int)×U33
abbrev U65:=List (Int×LI)×Int×List (Int×LI)×Int×Int
abbrev U66:=Int×List (List (Int×(Int×LB)))×Int×Int×Bool
abbrev U67:=List (Int×LI)×List (Int×LI)×Int×Int×Bool
abbrev U68:=List (Int×LI)×LI×List (Int×LI)×Int×Int
abbrev U69:=List (Int×(Int×LB))×Int×Int×List Bool×List LB
abbrev U70:=Bool×Int×LB×List (Int×Int)×List (List (Int×(Int×LB)))
abbrev U71:=List (Int×(Int×LB))×List (Int×(Int×LB))×Int×Int×Bool
abbrev U72:=(LL×(LI×(LI×LI)))×Int×LI×LI×Bool
abbrev U73:=List (List (Int×(Int×LB)))×Int×Int×Bool×List (Int×(Int×LB))
abbrev U74:=Bool×Int×Int×Int×Int×Int
abbrev U76:=Int×Int×List (Int×Int)×Int×Int×Int
abbrev U77:=Int×U59
abbrev U78:=Int×U61
abbrev U79:=Int×Int×List (Int×(Int×LB))×Int×Int×Bool
abbrev U80:=Int×LI×U39
abbrev U81:=List (Int×(Int×LB))×Int×U24
abbrev U82:=LI×List (Int×LI)×U32
abbrev U83:=List (Int×(Int×LB))×Int×U25
abbrev U84:=Int×Bool×Int×Int×LB×List (Int×(Int×LB))
abbrev U85:=List (Int×LI)×Int×List (Int×LI)×Int×Int×Bool
abbrev U86:=Int×LB×U41
abbrev U87:=LI×LI×LI×Bool×LL×List (Int×Int)
abbrev U88:=LB×LB×U40
abbrev U90:=List (Int×(Int×LB))×U62
abbrev U91:=Int×U70
abbrev U92:=(LL×(LI×(LI×LI)))×Int×U25
abbrev U93:=List (Int×(Int×LB))×List LB×Int×Int×List Bool×List LB
abbrev U94:=List LB×Int×Int×List Bool×List LB×List (Int×(Int×LB))
abbrev U95:=Int×(Option (LL×(LI×(LI×LI))))×U33
abbrev U96:=(LL×(LI×(LI×LI)))×LI×U40
abbrev U97:=LL×Int×Int×Int×Int×Int×LI
abbrev U98:=Int×Int×Int×U34
abbrev U99:=LI×Int×List (Int×Int)×Int×Int×Int×Int
abbrev Alm:=List (Int×Int)×Int×Int×LI×Int×Int×Bool
abbrev AcE:=List (Int×Int)×Int×U53
abbrev XI:=Int×U78
abbrev AgX:=Int×LI×U59
abbrev Ajb:=Int×LI×LI×U39
abbrev AgW:=Int×LI×LI×U40
abbrev Ak8:=LL×LI×U61
abbrev Ajp:=Int×LI×List (Int×Int)×U40
abbrev Ai6:=LI×U87
abbrev Alq:=List (Int×(Int×LB))×U79
abbrev Alh:=Int×U94
abbrev Alx:=LI×Bool×(Option (LL×(LI×(LI×LI))))×U33
abbrev AcJ:=Bool×Int×Int×Int×U24
abbrev AlK:=Int×LI×Int×Int×U25
abbrev AjJ:=LI×List (Int×Int)×Int×Int×Int×Int×Int×Int
abbrev AgL:=List (Int×Int)×Int×LL×Int×Int×Int×Int×Int
abbrev Ak7:=LL×LL×Int×Bool×Int×Int×Bool×Int
abbrev AkY:=List (Int×Int)×Int×List (Int×Int)×Int×Int×Bool×Int×Int
abbrev Aj1:=LI×Int×List (Int×LI)×Int×U32
abbrev Aj9:=LI×List (Int×LI)×Int×Int×U32
abbrev Ajy:=LI×AgX
abbrev Ajo:=LI×LI×U77
abbrev AlC:=Int×LI×LI×U61
abbrev X3:=Int×LL×U77
abbrev Me:=LL×LI×LI×LI×LI×LI×LI×Bool
abbrev AgB:=LL×LI×U77
abbrev Als:=(LL×(LI×(LI×LI)))×Int×LI×LI×LI×Int×Int×Bool
abbrev Ajx:=Int×Int×U95
abbrev AgI:=LI×Int×U95
abbrev Ag8:=List (List (Int×(Int×LB)))×List (Int×Int)×Int×Int×Int×LB×List (Int×Int)×List (List (Int×(Int×LB)))
abbrev Adk:=List (Int×Int)×List (List (Int×(Int×LB)))×Int×Int×Int×LB×List (Int×Int)×List (List (Int×(Int×LB)))
abbrev Ajm:=Int×Int×List (Int×(Int×LB))×Int×Int×U25
abbrev AjW:=LI×LI×XI
abbrev Aju:=Int×LI×LI×Int×List (Int×(Int×LB))×Int×Int×Int×Int
abbrev Akj:=Int×LI×LB×U77
abbrev SY:=LI×Int×Int×U87
abbrev AcR:=LI×Me
abbrev Ajr:=LB×Me
abbrev Ajd:=Int×List (Int×(Int×LB))×Int×Int×List Bool×List LB×Int×Int×LB
abbrev Z4:=Int×List LB×Int×Int×List Bool×List Bool×List LB×List Bool×List LB
abbrev Ald:=Int×Int×LI×Int×LI×U54
abbrev Aj5:=List (Int×Int)×Int×Int×Int×List (Int×Int)×Int×Int×Bool×Int×Int
abbrev Ahl:=LI×Int×LI×XI
abbrev Ak2:=LL×LI×Int×Int×U77
abbrev Ai3:=Int×SY
abbrev AlL:=LI×Int×Int×Int×U87
abbrev Alo:=LL×LI×Int×LI×U77
abbrev Ak6:=LI×AcR
abbrev Alt:=Int×LI×List (Int×Int)×Int×U81
abbrev Ajn:=List (Int×(Int×LB))×Int×Int×Int×Int×List Bool×List LB×Int×Int×LB
abbrev AlF:=Int×Z4
abbrev All:=List (Int×(Int×LB))×Ajm
abbrev Adb:=Int×LB×List LB×Int×Int×List Bool×List Bool×List LB×List Bool×List LB
abbrev Alr:=(LL×(LI×(LI×LI)))×LI×Int×List (Int×(Int×LB))×Int×Int×U25
abbrev Aj8:=Bool×Int×Int×Int×Int×Int×Int×Int×Int×Int×Int
abbrev Ajj:=LL×LL×Int×Int×LL×Int×Bool×Int×Int×Bool×Int
abbrev Ak3:=Int×LI×AjW
abbrev Vd:=LI×Int×Int×Me
abbrev Ak4:=LL×Ahl
abbrev Aka:=Int×LI×List (Int×Int)×Int×Int×U81
abbrev Alz:=LB×LI×Bool×Me
abbrev Alw:=Int×Adb
abbrev Alv:=Bool×LL×Int×Bool×Int×Int×Int×Int×U24
abbrev AlH:=Int×Vd
abbrev Ak0:=LI×Int×Int×Int×Me
abbrev Ai4:=Int×LI×LL×Int×Int×LI×U77
abbrev AjV:=LL×LI×Int×LI×Int×Int×U77
abbrev Ai8:=LB×Vd
abbrev Ago:=Int×Int×LB×Z4
abbrev AlB:=LI×Int×Int×LI×Int×Int×Bool×(Option (LL×(LI×(LI×LI))))×U33
abbrev AlP:=Int×LI×LL×Int×Int×LI×XI
abbrev Aln:=LL×LI×Int×LI×Int×Int×XI
abbrev Akk:=LL×LI×Int×Int×Int×Int×Int×Int×U77
abbrev Ahk:=Int×Int×LB×LB×List LB×Int×Int×Int×Int×List Bool×List Bool×List LB×List Bool×List LB
abbrev Alb:=Int×Int×LI×Int×LI×Int×Bool×LL×Int×Bool×Int×U32
abbrev Alp:=Bool×Int×Int×Int×Int×Int×LL×LI×LI×LI×List (Int×Int)×Int×LB×List (Int×Int)×List (List (Int×(Int×LB)))×LI
abbrev Akb:=Bool×Int×Int×Int×Int×Int×Int×LB×Int×Int×Int×U77
abbrev Alj:=Bool×Akb
abbrev Aly:=List (Int×Int)×LI×Int×Int×Int×Int×Int×Int×LB×Int×Int×Int×U77
abbrev Ai5:=LB×LI×LI×LI×Bool×LL×Int×Bool×Int×Int×Int×Int×Int×Int×LL×LI×LI×LI×List (Int×Int)
abbrev Akf:=List (Int×Int)×LI×LI×Int×Int×Int×Int×Int×Int×Int×Int×LB×Int×Int×Int×U77
abbrev Alg:=LB×LI×Bool×LI×LI×LI×Bool×LL×Int×Bool×Int×Int×Int×Int×Int×Int×LL×LI×LI×LI×List (Int×Int)
abbrev Ym:=Bool×LL×Int×Bool×Int×Int×Int×Int×Int×Int×LL×LI×LI×LI×Int×LI×LL×Int×LB×List (Int×Int)×List (List (Int×(Int×LB)))
abbrev Ajz:=LB×LI×Int×Int×LI×LI×LI×Bool×LL×Int×Bool×Int×Int×Int×Int×Int×Int×LL×LI×LI×LI×List (Int×Int)
abbrev AjL:=LI×LI×LI×LI×Bool×LL×Int×Bool×Int×Int×Int×Int×Int×Int×LL×LI×LI×LI×Int×LI×LL×List (Int×Int)
abbrev Ala:=LB×Int×LI×Int×Int×LI×LI×LI×Bool×LL×Int×Bool×Int×Int×Int×Int×Int×Int×LL×LI×LI×LI×List (Int×Int)
abbrev AlI:=LI×AjL
abbrev YW:=LI×LI×LI×Ym
abbrev Po:=LI×LI×LI×Bool×List (Int×Int)×LL×Int×Bool×Int×Int×Int×Int×Int×Int×LL×LI×LI×LI×Int×LI×LL×Int×LB×List (Int×Int)×List (List (Int×(Int×LB)))
abbrev AgJ:=List (Int×Int)×Int×Int×YW
abbrev AlJ:=List (Int×Int)×List (List (Int×(Int×LB)))×Po
abbrev Ajg:=LI×Int×Int×Po
abbrev AlM:=List (Int×Int)×List (List (Int×(Int×LB)))×Bool×Po
abbrev AfV:=List (Int×Int)×List (List (Int×(Int×LB)))×Int×Int×Po
abbrev AjZ:=List (List (Int×(Int×LB)))×List (Int×Int)×Int×Int×Po
abbrev Ak5:=Int×Int×Int×Int×Int×Int×LB×Int×Int×Int×Int×Int×LL×LI×LI×LI×List (Int×Int)×Int×LB×Int×LB×List (Int×Int)×List (List (Int×(Int×LB)))×Me
abbrev Alu:=List (Int×Int)×List (List (Int×(Int×LB)))×List (Int×(Int×LB))×Int×Int×Int×Int×Po
abbrev Ali:=List (Int×Int)×List (List (Int×(Int×LB)))×List (Int×(Int×LB))×Bool×Int×Int×Int×Int×Po
abbrev AlN:=Int×Int×Int×Int×Int×Int×LB×LL×LI×LI×LI×Int×Int×Int×Int×Int×LL×LI×LI×LI×List (Int×Int)×Int×LB×Int×LB×List (Int×Int)×List (List (Int×(Int×LB)))×Me
abbrev Ahj:=LI×Int×Int×Int×Int×Int×Int×Int×Int×LB×LL×LI×LI×LI×Int×Int×Int×Int×Int×LL×LI×LI×LI×List (Int×Int)×Int×LB×Int×LB×List (Int×Int)×List (List (Int×(Int×LB)))×LL×LI×LI×LI×LI×LI×Bool
abbrev Alf:=Int×Ahj
abbrev Ajv:=LI×Int×Int×Bool×Int×Int×Int×Int×Int×Int×LB×LL×LI×LI×LI×Int×Int×Int×Int×Int×LL×LI×LI×LI×List (Int×Int)×Int×LB×Int×LB×List (Int×Int)×List (List (Int×(Int×LB)))×LL×LI×LI×LI×LI×LI×Bool
abbrev Ak9:=Int×Int×Int×Int×Int×Int×LB×Int×Int×Int×Int×Int×LL×LI×LI×LI×Int×Int×Int×Int×Int×LL×LI×LI×LI×List (Int×Int)×Int×LB×Int×LB×List (Int×Int)×Me
abbrev Zv:=Int×Int×Int×Int×Int×Int×LB×Int×Int×Int×Int×Int×LL×LI×LI×LI×Int×Int×Int×Int×Int×LL×LI×LI×LI×List (Int×Int)×Int×LB×Int×LB×List (Int×Int)×List (List (Int×(Int×LB)))×Me
abbrev Alk:=Int×Int×Ajv
abbrev XF:=Int×Zv
abbrev Akg:=Bool×Zv
abbrev Agf:=Int×Akg
abbrev AlG:=Int×List (Int×(Int×LB))×Zv
abbrev AjR:=List (List (Int×(Int×LB)))×List (Int×Int)×Int×XF
abbrev AlD:=List (List (Int×(Int×LB)))×List (Int×Int)×Int×Agf
def MJ (x0:LI) (x1:Int):Option (Int):=
 if decide (wI (x1 - (x0.length:Int)) < 0)then
  some (-1)
 else
  some (wI (x1 - (x0.length:Int)))
def Ig (y:(LL×(Int×Int))):Option ((LL×(Int×Int))⊕(Int⊕Int)):=
 if decide (y.2.2 < (y.1.length:Int))then
  gX y.1 y.2.2 λr1=>
  (MJ r1 y.2.1).bind λc2=>
  if decide (c2 < 0)then
   some (.inr (.inr (-1)))
  else
   some (.inl (y.1,c2,wI (y.2.2+1)))
 else
  some (.inr (.inl y.2.1))
def KZ (x0:LL) (x1:Int):Option (Int):=
 if decide (wI (x1 - (x0.length:Int)) < 0)then
  some (-1)
 else
  (Ab Ig (x0,wI (x1 - (x0.length:Int)),0)).bind λv3=>
  match v3 with
  | .inl y4=>
   some y4
  | .inr s5=>
   some s5
def OH (x0:LL) (x1:Int) (x2:Bool) (x3 x4:Int):Option (Int):=
 (KZ x0 x4).bind λc1=>
 if decide (c1 < 0)then
  some (-1)
 else
  some c1
def I7 (y:(LI×(LI×Int))):Option ((LI×(LI×Int))⊕LI):=
 if decide (y.2.2 < (y.1.length:Int))then
  gX y.1 y.2.2 λr1=>
  cZ y.2.2 <|
  cK (decide (y.2.2 < (y.2.1.length:Int))) <|
  Option.bind (y.2.1[0+y.2.2.toNat]?) λr2=>
  Option.bind (y.2.1[0+y.2.2.toNat]?) λr3=>
  some (.inl (y.1,y.2.1.set (0+y.2.2.toNat) r1,wI (y.2.2+1)))
 else
  some (.inr y.2.1)
def MO (x0:LI):Option LI:=
 cZ (x0.length:Int) <|
 cK (decide ((x0.length:Int)<=(x0.length:Int))) <|
 cK (Aa ((x0.length:Int).toNat) 1) <|
 (Ab I7 (x0,List.replicate ((x0.length:Int).toNat) (0:Int),0)).bind λv4=>
 some v4
def In (y:U16):Option (U16⊕LL):=
 if decide (y.2.2 < (y.1.length:Int))then
  gX y.1 y.2.2 λr1=>
  (MO r1).bind λc2=>
  cZ y.2.2 <|
  cK (decide (y.2.2 < (y.2.1.length:Int))) <|
  Option.bind (y.2.1[0+y.2.2.toNat]?) λr3=>
  Option.bind (y.2.1[0+y.2.2.toNat]?) λr4=>
  some (.inl (y.1,y.2.1.set (0+y.2.2.toNat) c2,wI (y.2.2+1)))
 else
  some (.inr y.2.1)
def Lv (x0:LL):Option LL:=
 cZ (x0.length:Int) <|
 cK (decide ((x0.length:Int)<=(x0.length:Int))) <|
 cK (Aa ((x0.length:Int).toNat) 24) <|
 (Ab In (x0,List.replicate ((x0.length:Int).toNat) ([]:LI),0)).bind λv5=>
 some v5
def Hi (x0:LL) (x1:Int) (x2:Bool) (x3:Int):Option U32:=
 (Lv x0).bind λc1=>
 some (c1,x1,x2,x3)
def Bw (x0 x1 x2:Int):Option (Bool):=
 Option.bind (α:=Bool) (
  if decide (x1<=x0)then
   some (decide (x0<=x2))
  else
  some false) λv1=>
 some v1
def PD (y:(LL×(Int×Int))):Option ((LL×(Int×Int))⊕(Unit⊕Bool)):=
 if decide (y.2.2 < y.2.1)then
  gX y.1 y.2.2 λr5=>
  if decide (¬ (r5.length:Int)=128)then
   some (.inr (.inr false))
  else
   some (.inl (y.1,y.2.1,wI (y.2.2+1)))
 else
  some (.inr (.inl ()))
def Jt (x0:LL) (x1:Int) (x2:Bool) (x3:Int):Option (Bool):=
 Option.bind (α:=U54) (
   (Bw (x0.length:Int) 40 160).bind λc1=>
   if(!c1)then
    some (true,x0,x1,x2,x3)
   else
    (Bw x1 0 1000000000).bind λc2=>
    if(!c2)then
     some (true,x0,x1,x2,x3)
    else
     (Bw x3 (-1) 1000000).bind λc3=>
     some ((!c3),x0,x1,x2,x3)) λv4=>
 if v4.1 then
  some false
 else
  (Ab PD (v4.2.1,(v4.2.1.length:Int),0)).bind λv6=>
  match v6 with
  | .inl y7=>
   some true
  | .inr s8=>
   some s8
def T9 (x0 x1:Int):Option (Bool):=
 Option.bind (α:=Bool) (
  if decide (x0=0)then
   some true
  else
  if decide (x0=1)then
   some true
  else
   (Bw x0 33 (wI (x1 - 1))).bind λc1=>
   some c1) λv2=>
 some v2
def G9 (y:U65):Option (U65⊕(Unit⊕Bool)):=match y with
 | (a,b,c,d,e)=>
 if decide (e < d)then
  gX c e λr2=>
  Option.bind (α:=U85) (
    (T9 r2.1 b).bind λc3=>
    if(!c3)then
     some (a,b,c,d,e,true)
    else
    if decide (¬ (r2.2.length:Int)=128)then
     some (a,b,c,d,e,true)
    else
    if decide (0 < e)then
     gX a (wI (e - 1)) λr4=>
     some (a,b,c,d,e,decide (r2.1<=r4.1))
    else
    some (a,b,c,d,e,false)) λ(f,g,h,i,j,k)=>
  if k then
   some (.inr (.inr false))
  else
   some (.inl (f,g,h,i,wI (j+1)))
 else
  some (.inr (.inl ()))
def MI (x0:List (Int×LI)) (x1:Int):Option (Bool):=
 (Bw (x0.length:Int) 1 30).bind λc1=>
 if(!c1)then
  some false
 else
  (Ab G9 (x0,x1,x0,(x0.length:Int),0)).bind λv6=>
  match v6 with
  | .inl y7=>
   some true
  | .inr s8=>
   some s8
def Gc (y:(Int×(LI×(Int×Int)))):Option ((Int×(LI×(Int×Int)))⊕Int):=
 if decide (y.2.2.2 < y.2.2.1)then
  gX y.2.1 y.2.2.2 λr1=>
  cK (decide (¬ (4294967296:Int)=0)) <|
  some (.inl (Int.tmod (IntKind.wrap .u64 ((IntKind.wrap .u64 (((BitVec.ofInt (IntKind.bits .u64) y.1 ^^^ BitVec.ofInt (IntKind.bits .u64) (IntKind.wrap .u64 r1)).toNat:Int))) * 16777619)) 4294967296,y.2.1,y.2.2.1,wI (y.2.2.2+1)))
 else
  some (.inr y.1)
def HK (x0:LI):Option (Int):=
 (Ab Gc (2166136261,x0,(x0.length:Int),0)).bind λv2=>
 some (IntKind.wrap .u32 v2)
def Ge (y:U68):Option (U68⊕U2):=
 if decide (y.2.2.2.2 < y.2.2.2.1)then
  gX y.2.2.1 y.2.2.2.2 λr1=>
  cK (decide (¬ (256:Int)=0)) <|
  cK (Aa (y.2.1.length+([wB (wI (Int.tdiv r1.1 256)),IntKind.wrap .u8 r1.1]:LI).length) 1) <|
  some (.inl (y.1,y.2.1++([wB (wI (Int.tdiv r1.1 256)),IntKind.wrap .u8 r1.1]:LI),y.2.2.1,y.2.2.2.1,wI (y.2.2.2.2+1)))
 else
  some (.inr (y.1,y.2.1))
def F6 (y:U60):Option (U60⊕(LI×LI)):=
 if decide (y.2.2.2.2 < y.2.2.2.1)then
  gX y.2.2.1 y.2.2.2.2 λr3=>
  cK (Aa (y.2.1.length+r3.2.length) 1) <|
  some (.inl (y.1,y.2.1++r3.2,y.2.2.1,y.2.2.2.1,wI (y.2.2.2.2+1)))
 else
  some (.inr (y.1,y.2.1))
def K6 (x0:List (Int×LI)):Option LI:=
 (Ab Ge (x0,[76,79,71,49,wB (x0.length:Int)],x0,(x0.length:Int),0)).bind λv2=>
 cZ (wI (124 - (v2.2.length:Int))) <|
 cK (Aa (v2.2.length+(List.replicate ((wI (124 - (v2.2.length:Int))).toNat) (0:Int)).length) 1) <|
 cK (Aa (([]:LI).length+(v2.2++(List.replicate ((wI (124 - (v2.2.length:Int))).toNat) (0:Int))).length) 1) <|
 (Ab F6 (v2.2++(List.replicate ((wI (124 - (v2.2.length:Int))).toNat) (0:Int)),([]:LI)++(v2.2++(List.replicate ((wI (124 - (v2.2.length:Int))).toNat) (0:Int))),v2.1,(v2.1.length:Int),0)).bind λv4=>
 (HK v4.2).bind λc5=>
 cZ 24 <|
 cZ 16 <|
 cZ 8 <|
 cK (Aa (v4.1.length+([wB (Int.fdiv c5 (2 ^ (min (Int.toNat 24) (IntKind.bits .u32)))),wB (Int.fdiv c5 (2 ^ (min (Int.toNat 16) (IntKind.bits .u32)))),wB (Int.fdiv c5 (2 ^ (min (Int.toNat 8) (IntKind.bits .u32)))),IntKind.wrap .u8 c5]:LI).length) 1) <|
 some (v4.1++([wB (Int.fdiv c5 (2 ^ (min (Int.toNat 24) (IntKind.bits .u32)))),wB (Int.fdiv c5 (2 ^ (min (Int.toNat 16) (IntKind.bits .u32)))),wB (Int.fdiv c5 (2 ^ (min (Int.toNat 8) (IntKind.bits .u32)))),IntKind.wrap .u8 c5]:LI))
def EV (y:Aj1):Option (Aj1⊕U82):=match y with
 | (a,b,c,d,e,f,g,h)=>
 if decide (d < b)then
  gX a (wI (5+(wI (2 * d)))) λr7=>
  gX a (wI (6+(wI (2 * d)))) λr8=>
  gX e (wI (3+d)) λr9=>
  cK (Aa (([]:LI).length+r9.length) 1) <|
  cK (Aa (c.length+([(wI ((wI ((IntKind.wrap .i64 r7) * 256))+(IntKind.wrap .i64 r8)),([]:LI)++r9)]:List (Int×LI)).length) 32) <|
  some (.inl (a,b,c++([(wI ((wI ((IntKind.wrap .i64 r7) * 256))+(IntKind.wrap .i64 r8)),([]:LI)++r9)]:List (Int×LI)),wI (d+1),e,f,g,h))
 else
  some (.inr (a,c,e,f,g,h))
def Kk (x0:LL) (x1:Int) (x2:Bool) (x3:Int):Option (List (Int×LI)):=
 gX x0 2 λr1=>
 gX r1 4 λr2=>
 (Bw (IntKind.wrap .i64 r2) 1 30).bind λc3=>
 if(!c3)then
  some []
 else
  (Ab EV (r1,IntKind.wrap .i64 r2,[],0,x0,x1,x2,x3)).bind λ(a,b,c,_,_,_)=>
  Option.bind (α:=(List (Int×LI)×Bool)) (
    (MI b (c.length:Int)).bind λc11=>
    if(!c11)then
     some (b,true)
    else
     (K6 b).bind λc12=>
     some (b,(!((AJ c12:LB) == (AJ a))))) λv13=>
  if v13.2 then
   some []
  else
   some v13.1
def QR (x0 x1:Int):Option (Bool):=
 Option.bind (α:=Bool) (
  (Bw x0 0 x1).bind λc1=>
  if c1 then
   some (decide (x1<=60))
  else
  some false) λv2=>
 some v2
def MP (x0 x1 x2 x3 x4:Int):Option (Bool):=
 Option.bind (α:=Bool) (
  (QR x0 x1).bind λc1=>
  if c1 then
   (Bw x2 1 30).bind λc2=>
   if c2 then
    (Bw x3 33 159).bind λc3=>
    if c3 then
     (Bw x4 33 159).bind λc4=>
     some c4
    else
    some false
   else
   some false
  else
  some false) λv5=>
 some v5
def Ln (x0 x1 x2 x3 x4:Int):Option LI:=
 cK (decide (¬ (256:Int)=0)) <|
 cK (decide (¬ (256:Int)=0)) <|
 cZ (wI (124 - (List.length [83,84,82,49,IntKind.wrap .u8 x0,IntKind.wrap .u8 x1,IntKind.wrap .u8 x2,0,wB (wI (Int.tdiv x3 256)),IntKind.wrap .u8 x3,wB (wI (Int.tdiv x4 256)),IntKind.wrap .u8 x4]:Int))) <|
 cK (Aa (([83,84,82,49,IntKind.wrap .u8 x0,IntKind.wrap .u8 x1,IntKind.wrap .u8 x2,0,wB (wI (Int.tdiv x3 256)),IntKind.wrap .u8 x3,wB (wI (Int.tdiv x4 256)),IntKind.wrap .u8 x4]:LI).length+(List.replicate ((wI (124 - (List.length [83,84,82,49,IntKind.wrap .u8 x0,IntKind.wrap .u8 x1,IntKind.wrap .u8 x2,0,wB (wI (Int.tdiv x3 256)),IntKind.wrap .u8 x3,wB (wI (Int.tdiv x4 256)),IntKind.wrap .u8 x4]:Int))).toNat) (0:Int)).length) 1) <|
 (HK (([83,84,82,49,IntKind.wrap .u8 x0,IntKind.wrap .u8 x1,IntKind.wrap .u8 x2,0,wB (wI (Int.tdiv x3 256)),IntKind.wrap .u8 x3,wB (wI (Int.tdiv x4 256)),IntKind.wrap .u8 x4]:LI)++(List.replicate ((wI (124 - (List.length [83,84,82,49,IntKind.wrap .u8 x0,IntKind.wrap .u8 x1,IntKind.wrap .u8 x2,0,wB (wI (Int.tdiv x3 256)),IntKind.wrap .u8 x3,wB (wI (Int.tdiv x4 256)),IntKind.wrap .u8 x4]:Int))).toNat) (0:Int)))).bind λc1=>
 cZ 24 <|
 cZ 16 <|
 cZ 8 <|
 cK (Aa ((([83,84,82,49,IntKind.wrap .u8 x0,IntKind.wrap .u8 x1,IntKind.wrap .u8 x2,0,wB (wI (Int.tdiv x3 256)),IntKind.wrap .u8 x3,wB (wI (Int.tdiv x4 256)),IntKind.wrap .u8 x4]:LI)++(List.replicate ((wI (124 - (List.length [83,84,82,49,IntKind.wrap .u8 x0,IntKind.wrap .u8 x1,IntKind.wrap .u8 x2,0,wB (wI (Int.tdiv x3 256)),IntKind.wrap .u8 x3,wB (wI (Int.tdiv x4 256)),IntKind.wrap .u8 x4]:Int))).toNat) (0:Int))).length+([wB (Int.fdiv c1 (2 ^ (min (Int.toNat 24) (IntKind.bits .u32)))),wB (Int.fdiv c1 (2 ^ (min (Int.toNat 16) (IntKind.bits .u32)))),wB (Int.fdiv c1 (2 ^ (min (Int.toNat 8) (IntKind.bits .u32)))),IntKind.wrap .u8 c1]:LI).length) 1) <|
 some ((([83,84,82,49,IntKind.wrap .u8 x0,IntKind.wrap .u8 x1,IntKind.wrap .u8 x2,0,wB (wI (Int.tdiv x3 256)),IntKind.wrap .u8 x3,wB (wI (Int.tdiv x4 256)),IntKind.wrap .u8 x4]:LI)++(List.replicate ((wI (124 - (List.length [83,84,82,49,IntKind.wrap .u8 x0,IntKind.wrap .u8 x1,IntKind.wrap .u8 x2,0,wB (wI (Int.tdiv x3 256)),IntKind.wrap .u8 x3,wB (wI (Int.tdiv x4 256)),IntKind.wrap .u8 x4]:Int))).toNat) (0:Int)))++([wB (Int.fdiv c1 (2 ^ (min (Int.toNat 24) (IntKind.bits .u32)))),wB (Int.fdiv c1 (2 ^ (min (Int.toNat 16) (IntKind.bits .u32)))),wB (Int.fdiv c1 (2 ^ (min (Int.toNat 8) (IntKind.bits .u32)))),IntKind.wrap .u8 c1]:LI))
def M2 (x0:LI):Option U74:=
 if decide (¬ (x0.length:Int)=128)then
  some (false,0,0,0,0,0)
 else
 gX x0 4 λr1=>
 gX x0 5 λr2=>
 gX x0 6 λr3=>
 gX x0 8 λr4=>
 gX x0 9 λr5=>
 gX x0 10 λr6=>
 gX x0 11 λr7=>
 Option.bind (α:=Aj8) (
   (MP (IntKind.wrap .i64 r1) (IntKind.wrap .i64 r2) (IntKind.wrap .i64 r3) (wI ((wI ((IntKind.wrap .i64 r4) * 256))+(IntKind.wrap .i64 r5))) (wI ((wI ((IntKind.wrap .i64 r6) * 256))+(IntKind.wrap .i64 r7)))).bind λc8=>
   if(!c8)then
    some (true,0,0,0,0,0,IntKind.wrap .i64 r1,IntKind.wrap .i64 r2,IntKind.wrap .i64 r3,wI ((wI ((IntKind.wrap .i64 r4) * 256))+(IntKind.wrap .i64 r5)),wI ((wI ((IntKind.wrap .i64 r6) * 256))+(IntKind.wrap .i64 r7)))
   else
    (Ln (IntKind.wrap .i64 r1) (IntKind.wrap .i64 r2) (IntKind.wrap .i64 r3) (wI ((wI ((IntKind.wrap .i64 r4) * 256))+(IntKind.wrap .i64 r5))) (wI ((wI ((IntKind.wrap .i64 r6) * 256))+(IntKind.wrap .i64 r7)))).bind λc9=>
    some ((!((AJ c9:LB) == (AJ x0))),0,0,0,0,0,IntKind.wrap .i64 r1,IntKind.wrap .i64 r2,IntKind.wrap .i64 r3,wI ((wI ((IntKind.wrap .i64 r4) * 256))+(IntKind.wrap .i64 r5)),wI ((wI ((IntKind.wrap .i64 r6) * 256))+(IntKind.wrap .i64 r7)))) λ(a,_,_,_,_,_,b,c,d,e,f)=>
 if a then
  some (false,0,0,0,0,0)
 else
  some (true,b,c,d,e,f)
def Us (y:Ajj):Option (Ajj⊕Ak7):=
 if decide (y.2.2.2.1 < y.2.2.1)then
  gX y.2.1 y.2.2.2.1 λr2=>
  cK (Aa (([]:LI).length+r2.length) 1) <|
  cK (Aa (y.1.length+([([]:LI)++r2]:LL).length) 24) <|
  some (.inl (y.1++([([]:LI)++r2]:LL),y.2.1,y.2.2.1,wI (y.2.2.2.1+1),y.2.2.2.2.1,y.2.2.2.2.2.1,y.2.2.2.2.2.2.1,y.2.2.2.2.2.2.2.1,y.2.2.2.2.2.2.2.2.1,y.2.2.2.2.2.2.2.2.2.1,y.2.2.2.2.2.2.2.2.2.2))
 else
  some (.inr (y.1,y.2.2.2.2.1,y.2.2.2.2.2.1,y.2.2.2.2.2.2.1,y.2.2.2.2.2.2.2.1,y.2.2.2.2.2.2.2.2.1,y.2.2.2.2.2.2.2.2.2.1,y.2.2.2.2.2.2.2.2.2.2))
def Rh (x0:LL) (x1:Int) (x2:Bool) (x3:Int):Option U32:=
 (Ab Us ([],x0,(x0.length:Int),0,x0,x1,x2,x3,0,false,0)).bind λv3=>
 some (v3.1,v3.2.2.1,v3.2.2.2.1,v3.2.2.2.2.1)
def GM (x0:LI) (x1:Int):Option (Bool):=
 cK (decide (¬ (8:Int)=0)) <|
 gX x0 (wI (Int.tdiv x1 8)) λr1=>
 cK (decide (¬ (8:Int)=0)) <|
 cZ (IntKind.wrap .u64 (Int.tmod x1 8)) <|
 some (decide (wB (((BitVec.ofInt (IntKind.bits .u8) (Int.fdiv r1 (2 ^ (min ((IntKind.wrap .u64 (Int.tmod x1 8)).toNat) (IntKind.bits .u8)))) &&& BitVec.ofInt (IntKind.bits .u8) 1).toNat:Int))=1))
def Fm (y:X3):Option (X3⊕(U59⊕Bool)):=
 if decide (y.2.2.2.1 < y.2.2.1)then
  gX y.2.1 y.2.2.2.1 λr3=>
  if decide (¬ (r3.length:Int)=128)then
   some (.inr (.inr false))
  else
   some (.inl (y.1,y.2.1,y.2.2.1,wI (y.2.2.2.1+1),y.2.2.2.2.1,y.2.2.2.2.2.1,y.2.2.2.2.2.2.1,y.2.2.2.2.2.2.2))
 else
  some (.inr (.inl (y.1,y.2.2.2.2.1,y.2.2.2.2.2.1,y.2.2.2.2.2.2.1,y.2.2.2.2.2.2.2)))
def Fx (y:U77):Option (U77⊕(U59⊕Bool)):=
 if decide (y.2.1 < 160)then
  (GM y.2.2.2.1 y.2.1).bind λc7=>
  Option.bind (α:=XI) (
    if decide (y.2.1 < 33)then
     if(!c7)then
      some (y.1,y.2.1,true,y.2.2.1,y.2.2.2.1,y.2.2.2.2.1,y.2.2.2.2.2)
     else
     if decide (y.1<=y.2.1)then
      some (y.1,y.2.1,c7,y.2.2.1,y.2.2.2.1,y.2.2.2.2.1,y.2.2.2.2.2)
     else
     some (y.1,y.2.1,false,y.2.2.1,y.2.2.2.1,y.2.2.2.2.1,y.2.2.2.2.2)
    else
    if decide (y.1<=y.2.1)then
     some (y.1,y.2.1,c7,y.2.2.1,y.2.2.2.1,y.2.2.2.2.1,y.2.2.2.2.2)
    else
    some (y.1,y.2.1,false,y.2.2.1,y.2.2.2.1,y.2.2.2.2.1,y.2.2.2.2.2)) λv8=>
  if v8.2.2.1 then
   some (.inr (.inr false))
  else
   some (.inl (v8.1,wI (v8.2.1+1),v8.2.2.2.1,v8.2.2.2.2.1,v8.2.2.2.2.2.1,v8.2.2.2.2.2.2))
 else
  some (.inr (.inl (y.1,y.2.2.1,y.2.2.2.1,y.2.2.2.2.1,y.2.2.2.2.2)))
def EW (y:Ai4):Option (Ai4⊕(X3⊕Bool)):=
 if decide (y.2.2.2.2.2.2.2.1 < y.2.2.2.2.2.2.1)then
  gX y.2.2.2.2.2.1 y.2.2.2.2.2.2.2.1 λr13=>
  Option.bind (α:=AlP) (
    (Bw r13 33 (wI (y.1 - 1))).bind λc14=>
    if(!c14)then
     some (y.1,y.2.1,y.2.2.1,y.2.2.2.1,y.2.2.2.2.1,y.2.2.2.2.2.1,y.2.2.2.2.2.2.1,y.2.2.2.2.2.2.2.1,true,y.2.2.2.2.2.2.2.2.1,y.2.2.2.2.2.2.2.2.2.1,y.2.2.2.2.2.2.2.2.2.2.1,y.2.2.2.2.2.2.2.2.2.2.2)
    else
     (GM y.2.2.2.2.2.2.2.2.2.1 r13).bind λc15=>
     if(!c15)then
      some (y.1,y.2.1,y.2.2.1,y.2.2.2.1,y.2.2.2.2.1,y.2.2.2.2.2.1,y.2.2.2.2.2.2.1,y.2.2.2.2.2.2.2.1,true,y.2.2.2.2.2.2.2.2.1,y.2.2.2.2.2.2.2.2.2.1,y.2.2.2.2.2.2.2.2.2.2.1,y.2.2.2.2.2.2.2.2.2.2.2)
     else
     if decide (0 < y.2.2.2.2.2.2.2.1)then
      gX y.2.1 (wI (y.2.2.2.2.2.2.2.1 - 1)) λr16=>
      some (y.1,y.2.1,y.2.2.1,y.2.2.2.1,y.2.2.2.2.1,y.2.2.2.2.2.1,y.2.2.2.2.2.2.1,y.2.2.2.2.2.2.2.1,decide (r13<=r16),y.2.2.2.2.2.2.2.2.1,y.2.2.2.2.2.2.2.2.2.1,y.2.2.2.2.2.2.2.2.2.2.1,y.2.2.2.2.2.2.2.2.2.2.2)
     else
     some (y.1,y.2.1,y.2.2.1,y.2.2.2.1,y.2.2.2.2.1,y.2.2.2.2.2.1,y.2.2.2.2.2.2.1,y.2.2.2.2.2.2.2.1,false,y.2.2.2.2.2.2.2.2.1,y.2.2.2.2.2.2.2.2.2.1,y.2.2.2.2.2.2.2.2.2.2.1,y.2.2.2.2.2.2.2.2.2.2.2)) λv17=>
  if v17.2.2.2.2.2.2.2.2.1 then
   some (.inr (.inr false))
  else
   some (.inl (v17.1,v17.2.1,v17.2.2.1,v17.2.2.2.1,v17.2.2.2.2.1,v17.2.2.2.2.2.1,v17.2.2.2.2.2.2.1,wI (v17.2.2.2.2.2.2.2.1+1),v17.2.2.2.2.2.2.2.2.2.1,v17.2.2.2.2.2.2.2.2.2.2.1,v17.2.2.2.2.2.2.2.2.2.2.2.1,v17.2.2.2.2.2.2.2.2.2.2.2.2))
 else
  some (.inr (.inl (y.1,y.2.2.1,y.2.2.2.1,y.2.2.2.2.1,y.2.2.2.2.2.2.2.2.1,y.2.2.2.2.2.2.2.2.2.1,y.2.2.2.2.2.2.2.2.2.2.1,y.2.2.2.2.2.2.2.2.2.2.2)))
def Hy (y:X3):Option (X3⊕(Unit⊕Bool)):=
 if decide (y.2.2.2.1 < y.2.2.1)then
  cZ y.2.2.2.1 <|
  cK (decide (y.2.2.2.1 < (y.2.1.length:Int))) <|
  Option.bind (y.2.1[0+y.2.2.2.1.toNat]?) λr12=>
  (Ab EW (y.1,r12,y.2.1,y.2.2.1,y.2.2.2.1,r12,(r12.length:Int),0,y.2.2.2.2.1,y.2.2.2.2.2.1,y.2.2.2.2.2.2.1,y.2.2.2.2.2.2.2)).bind λv18=>
  match v18 with
  | .inl y19=>
   some (.inl (y19.1,y19.2.1,y19.2.2.1,wI (y19.2.2.2.1+1),y19.2.2.2.2.1,y19.2.2.2.2.2.1,y19.2.2.2.2.2.2.1,y19.2.2.2.2.2.2.2))
  | .inr s20=>
   some (.inr (.inr s20))
 else
  some (.inr (.inl ()))
def H7 (x0:LL) (x1 x2 x3:LI):Option (Bool):=
 Option.bind (α:=U78) (
   (Bw (x0.length:Int) 40 160).bind λc1=>
   if(!c1)then
    some ((x0.length:Int),true,x0,x1,x2,x3)
   else
   some ((x0.length:Int),decide (¬ (x1.length:Int)=20),x0,x1,x2,x3)) λv2=>
 if v2.2.1 then
  some false
 else
  (Ab Fm (v2.1,v2.2.2.1,(v2.2.2.1.length:Int),0,v2.2.2.1,v2.2.2.2.1,v2.2.2.2.2.1,v2.2.2.2.2.2)).bind λv4=>
  match v4 with
  | .inl y5=>
   (Ab Fx (y5.1,0,y5.2.1,y5.2.2.1,y5.2.2.2.1,y5.2.2.2.2)).bind λv9=>
   match v9 with
   | .inl y10=>
    (Ab Hy (y10.1,[y10.2.2.2.1,y10.2.2.2.2],(List.length [y10.2.2.2.1,y10.2.2.2.2]:Int),0,y10.2.1,y10.2.2.1,y10.2.2.2.1,y10.2.2.2.2)).bind λv21=>
    match v21 with
    | .inl y22=>
     some true
    | .inr s23=>
     some s23
   | .inr s11=>
    some s11
  | .inr s6=>
   some s6
def Fv (y:U97):Option (U97⊕((LL×LI)⊕Bool)):=match y with
 | (a,b,c,d,e,f,g)=>
 if decide (f < e)then
  cZ f <|
  Option.bind (a[b.toNat]?) λr9=>
  cK (decide (f < (((r9.drop (c.toNat)).take (d.toNat)).length:Int))) <|
  Option.bind (a[b.toNat]?) λr10=>
  Option.bind (r10[(c.toNat)+f.toNat]?) λr11=>
  if decide (¬ r11=0)then
   some (.inr (.inr false))
  else
   some (.inl (a,(b.toNat:Int),(((c.toNat):Nat):Int),(((d.toNat):Nat):Int),e,wI (f+1),g))
 else
  some (.inr (.inl (a,g)))
def Ka (x0:LL) (x1:Int) (x2:Bool) (x3:Int):Option U13:=
 (Jt x0 x1 x2 x3).bind λc1=>
 if(!c1)then
  some (false,[],[])
 else
  (Rh x0 x1 x2 x3).bind λ(a,_,_,_)=>
  cZ 1 <|
  cK (decide (1 < (a.length:Int))) <|
  Option.bind (a[0+Int.toNat 1]?) λr3=>
  Option.bind (a[0+Int.toNat 1]?) λr4=>
  sX 0 20 (r4.length:Int) (r4.length) <|
  Option.bind (a[0+Int.toNat 1]?) λr5=>
  cK (Aa (([]:LI).length+((r5.drop (Int.toNat 0)).take (Int.toNat 20 - Int.toNat 0)).length) 1) <|
  cZ 1 <|
  cK (decide (1 < (a.length:Int))) <|
  Option.bind (a[0+Int.toNat 1]?) λr6=>
  Option.bind (a[0+Int.toNat 1]?) λr7=>
  sX 20 (r7.length:Int) (r7.length:Int) (r7.length) <|
  Option.bind (a[0+Int.toNat 1]?) λr8=>
  (Ab Fv (a,((0+Int.toNat 1:Nat):Int),(((Int.toNat 20):Nat):Int),((((r7.length:Int).toNat - Int.toNat 20):Nat):Int),(((r8.drop (Int.toNat 20)).take ((r7.length:Int).toNat - Int.toNat 20)).length:Int),0,([]:LI)++((r5.drop (Int.toNat 0)).take (Int.toNat 20 - Int.toNat 0)))).bind λv12=>
  match v12 with
  | .inl y13=>
   (H7 y13.1 y13.2 [] []).bind λc15=>
   if(!c15)then
    some (false,[],[])
   else
    some (true,y13.1,y13.2)
  | .inr s14=>
   some (s14,[],[])
def Tw (y:(Int×(LI×(Int×Int)))):Option ((Int×(LI×(Int×Int)))⊕(Unit⊕Bool)):=
 if decide (y.2.2.2 < y.2.2.1)then
  gX y.2.1 y.2.2.2 λr1=>
  if decide (r1=y.1)then
   some (.inr (.inr true))
  else
   some (.inl (y.1,y.2.1,y.2.2.1,wI (y.2.2.2+1)))
 else
  some (.inr (.inl ()))
def Gt (x0:LI) (x1:Int):Option (Bool):=
 (Ab Tw (x1,x0,(x0.length:Int),0)).bind λv2=>
 match v2 with
 | .inl y3=>
  some false
 | .inr s4=>
  some s4
def IG (x0:LL) (x1 x2 x3:LI) (x4:Int):Option (Bool):=
 Option.bind (α:=Bool) (
  (Bw x4 33 (wI ((x0.length:Int) - 1))).bind λc1=>
  if c1 then
   (GM x1 x4).bind λc2=>
   if c2 then
    (Gt x2 x4).bind λc3=>
    some (!c3)
   else
   some false
  else
  some false) λv4=>
 some v4
def D1 (y:AgX):Option (AgX⊕U80):=
 if decide (y.2.2.1 < 32)then
  gX y.2.2.2.1 y.1 λr9=>
  gX r9 (wI (1+(wI (2 * y.2.2.1)))) λr10=>
  gX y.2.2.2.1 y.1 λr11=>
  gX r11 (wI (2+(wI (2 * y.2.2.1)))) λr12=>
  cK (Aa (y.2.1.length+([wI ((wI ((IntKind.wrap .i64 r10) * 256))+(IntKind.wrap .i64 r12))]:LI).length) 8) <|
  some (.inl (y.1,y.2.1++([wI ((wI ((IntKind.wrap .i64 r10) * 256))+(IntKind.wrap .i64 r12))]:LI),wI (y.2.2.1+1),y.2.2.2.1,y.2.2.2.2.1,y.2.2.2.2.2.1,y.2.2.2.2.2.2))
 else
  some (.inr (y.1,y.2.1,y.2.2.2.1,y.2.2.2.2.1,y.2.2.2.2.2.1,y.2.2.2.2.2.2))
def Dm (y:U27):Option (U27⊕(LI⊕Bool)):=
 if decide (y.2.2.2 < y.2.2.1)then
  gX y.2.1 y.2.2.2 λr15=>
  if decide (¬ r15=0)then
   some (.inr (.inr false))
  else
   some (.inl (y.1,y.2.1,y.2.2.1,wI (y.2.2.2+1)))
 else
  some (.inr (.inl y.1))
def H2 (x0:LL) (x1 x2 x3:LI) (x4 x5:Int):Option ((LI×Bool)):=
 Option.bind (α:=U78) (
   (IG x0 x1 x2 x3 x4).bind λc1=>
   if(!c1)then
    some (x4,true,x0,x1,x2,x3)
   else
   gX x0 x4 λr2=>
   gX r2 0 λr3=>
   some (x4,decide (¬ r3=x5),x0,x1,x2,x3)) λv4=>
 if v4.2.1 then
  some ([],false)
 else
  (Ab D1 (v4.1,[],0,v4.2.2.1,v4.2.2.2.1,v4.2.2.2.2.1,v4.2.2.2.2.2)).bind λv13=>
  gX v13.2.2.1 v13.1 λr14=>
  sX 65 (r14.length:Int) (r14.length:Int) (r14.length) <|
  (Ab Dm (v13.2.1,(List.drop (Int.toNat 65) r14).take ((r14.length:Int).toNat - Int.toNat 65),(((List.drop (Int.toNat 65) r14).take ((r14.length:Int).toNat - Int.toNat 65)).length:Int),0)).bind λv16=>
  match v16 with
  | .inl y17=>
   some (y17,true)
  | .inr s18=>
   some ([],s18)
def Hw (y:(LI×(Int×Int))):Option ((LI×(Int×Int))⊕(Unit⊕Bool)):=
 if decide (y.2.2 < y.2.1)then
  gX y.1 y.2.2 λr1=>
  if decide (¬ r1=0)then
   some (.inr (.inr true))
  else
   some (.inl (y.1,y.2.1,wI (y.2.2+1)))
 else
  some (.inr (.inl ()))
def Om (x0:LI):Option (Bool):=
 (Ab Hw (x0,(x0.length:Int),0)).bind λv2=>
 match v2 with
 | .inl y3=>
  some false
 | .inr s4=>
  some s4
def MZ (x0:LL) (x1 x2 x3:LI) (x4:Int):Option (Bool):=
 Option.bind (α:=Bool) (
  (Bw x4 33 (wI ((x0.length:Int) - 1))).bind λc1=>
  if c1 then
   (GM x1 x4).bind λc2=>
   some c2
  else
  some false) λv3=>
 some v3
def H1 (y:Akk):Option (Akk⊕(Ak2⊕Bool)):=
 if decide (y.2.2.2.2.2.2.2.2.2.1 < y.2.2.2.2.2.2.2.2.1)then
  cZ y.2.2.2.2.2.2.2.2.2.1 <|
  cK (decide (y.2.2.2.2.2.2.2.2.2.1 < (((y.2.1.drop (y.2.2.2.2.2.2.1.toNat)).take (y.2.2.2.2.2.2.2.1.toNat)).length:Int))) <|
  Option.bind (y.2.1[(y.2.2.2.2.2.2.1.toNat)+y.2.2.2.2.2.2.2.2.2.1.toNat]?) λr5=>
  if decide (r5=y.2.2.2.1)then
   some (.inr (.inr false))
  else
   some (.inl (y.1,y.2.1,y.2.2.1,y.2.2.2.1,y.2.2.2.2.1,y.2.2.2.2.2.1,(((y.2.2.2.2.2.2.1.toNat):Nat):Int),(((y.2.2.2.2.2.2.2.1.toNat):Nat):Int),y.2.2.2.2.2.2.2.2.1,wI (y.2.2.2.2.2.2.2.2.2.1+1),y.2.2.2.2.2.2.2.2.2.2.1,y.2.2.2.2.2.2.2.2.2.2.2.1,y.2.2.2.2.2.2.2.2.2.2.2.2.1,y.2.2.2.2.2.2.2.2.2.2.2.2.2))
 else
  some (.inr (.inl (y.1,y.2.1,y.2.2.1,y.2.2.2.1,y.2.2.2.2.1,y.2.2.2.2.2.1,y.2.2.2.2.2.2.2.2.2.2.1,y.2.2.2.2.2.2.2.2.2.2.2.1,y.2.2.2.2.2.2.2.2.2.2.2.2.1,y.2.2.2.2.2.2.2.2.2.2.2.2.2)))
def HS (y:AjV):Option (AjV⊕(Alo⊕Bool)):=
 if decide (y.2.2.2.2.2.2.2.1 < y.2.2.2.2.2.2.1)then
  cZ y.2.2.2.2.2.2.2.1 <|
  cK (decide (y.2.2.2.2.2.2.2.1 < (y.2.2.2.1.length:Int))) <|
  Option.bind (y.2.2.2.1[0+y.2.2.2.2.2.2.2.1.toNat]?) λr12=>
  Option.bind (α:=Aln) (
    if decide (¬ r12=0)then
     (MZ y.2.2.2.2.2.2.2.2.1 y.2.2.2.2.2.2.2.2.2.1 y.2.2.2.2.2.2.2.2.2.2.1 y.2.2.2.2.2.2.2.2.2.2.2 r12).bind λc13=>
     some (y.1,y.2.1,y.2.2.1,y.2.2.2.1,y.2.2.2.2.1,y.2.2.2.2.2.1,y.2.2.2.2.2.2.1,y.2.2.2.2.2.2.2.1,(!c13),y.2.2.2.2.2.2.2.2.1,y.2.2.2.2.2.2.2.2.2.1,y.2.2.2.2.2.2.2.2.2.2.1,y.2.2.2.2.2.2.2.2.2.2.2)
    else
    some (y.1,y.2.1,y.2.2.1,y.2.2.2.1,y.2.2.2.2.1,y.2.2.2.2.2.1,y.2.2.2.2.2.2.1,y.2.2.2.2.2.2.2.1,false,y.2.2.2.2.2.2.2.2.1,y.2.2.2.2.2.2.2.2.2.1,y.2.2.2.2.2.2.2.2.2.2.1,y.2.2.2.2.2.2.2.2.2.2.2)) λv14=>
  if v14.2.2.2.2.2.2.2.2.1 then
   some (.inr (.inr false))
  else
   some (.inl (v14.1,v14.2.1,v14.2.2.1,v14.2.2.2.1,v14.2.2.2.2.1,v14.2.2.2.2.2.1,v14.2.2.2.2.2.2.1,wI (v14.2.2.2.2.2.2.2.1+1),v14.2.2.2.2.2.2.2.2.2.1,v14.2.2.2.2.2.2.2.2.2.2.1,v14.2.2.2.2.2.2.2.2.2.2.2.1,v14.2.2.2.2.2.2.2.2.2.2.2.2))
 else
  some (.inr (.inl (y.1,y.2.1,y.2.2.1,y.2.2.2.1,y.2.2.2.2.1,y.2.2.2.2.2.1,y.2.2.2.2.2.2.2.2.1,y.2.2.2.2.2.2.2.2.2.1,y.2.2.2.2.2.2.2.2.2.2.1,y.2.2.2.2.2.2.2.2.2.2.2)))
def EC (y:AgB):Option (AgB⊕((LL×LI)⊕Bool)):=
 if decide (y.2.2.2.1 < y.2.2.1)then
  Option.bind (α:=AgB⊕Bool) (
    cZ y.2.2.2.1 <|
    cK (decide (y.2.2.2.1 < (y.2.1.length:Int))) <|
    Option.bind (y.2.1[0+y.2.2.2.1.toNat]?) λr4=>
    if decide (r4=0)then
     some (.inl (y.1,y.2.1,y.2.2.1,y.2.2.2.1,y.2.2.2.2.1,y.2.2.2.2.2.1,y.2.2.2.2.2.2.1,y.2.2.2.2.2.2.2))
    else
    sX 0 y.2.2.2.1 (y.2.1.length:Int) (y.2.1.length) <|
    (Ab H1 (y.1,y.2.1,y.2.2.2.1,r4,y.2.2.1,y.2.2.2.1,(((Int.toNat 0):Nat):Int),(((y.2.2.2.1.toNat - Int.toNat 0):Nat):Int),(((y.2.1.drop (Int.toNat 0)).take (y.2.2.2.1.toNat - Int.toNat 0)).length:Int),0,y.2.2.2.2.1,y.2.2.2.2.2.1,y.2.2.2.2.2.2.1,y.2.2.2.2.2.2.2)).bind λv6=>
    match v6 with
    | .inl y7=>
     (H2 y7.2.2.2.2.2.2.1 y7.2.2.2.2.2.2.2.1 y7.2.2.2.2.2.2.2.2.1 y7.2.2.2.2.2.2.2.2.2 y7.2.2.2.1 81).bind λc9=>
     Option.bind (α:=Ak4) (
       if(!c9.2)then
        some (y7.1,y7.2.1,y7.2.2.1,c9.1,y7.2.2.2.2.1,y7.2.2.2.2.2.1,true,y7.2.2.2.2.2.2.1,y7.2.2.2.2.2.2.2.1,y7.2.2.2.2.2.2.2.2.1,y7.2.2.2.2.2.2.2.2.2)
       else
        (Om c9.1).bind λc10=>
        some (y7.1,y7.2.1,y7.2.2.1,c9.1,y7.2.2.2.2.1,y7.2.2.2.2.2.1,(!c10),y7.2.2.2.2.2.2.1,y7.2.2.2.2.2.2.2.1,y7.2.2.2.2.2.2.2.2.1,y7.2.2.2.2.2.2.2.2.2)) λv11=>
     if v11.2.2.2.2.2.2.1 then
      some (.inr false)
     else
      (Ab HS (v11.1,v11.2.1,v11.2.2.1,v11.2.2.2.1,v11.2.2.2.2.1,v11.2.2.2.2.2.1,(v11.2.2.2.1.length:Int),0,v11.2.2.2.2.2.2.2.1,v11.2.2.2.2.2.2.2.2.1,v11.2.2.2.2.2.2.2.2.2.1,v11.2.2.2.2.2.2.2.2.2.2)).bind λv15=>
      match v15 with
      | .inl y16=>
       cZ y16.2.2.1 <|
       cK (decide (y16.2.2.1 < (y16.1.length:Int))) <|
       Option.bind (y16.1[0+y16.2.2.1.toNat]?) λr18=>
       Option.bind (y16.1[0+y16.2.2.1.toNat]?) λr19=>
       some (.inl (y16.1.set (0+y16.2.2.1.toNat) y16.2.2.2.1,y16.2.1,y16.2.2.2.2.1,y16.2.2.2.2.2.1,y16.2.2.2.2.2.2.1,y16.2.2.2.2.2.2.2.1,y16.2.2.2.2.2.2.2.2.1,y16.2.2.2.2.2.2.2.2.2))
      | .inr s17=>
       some (.inr s17)
    | .inr s8=>
     some (.inr s8)) λv20=>
  match v20 with
  | .inl y21=>
   some (.inl (y21.1,y21.2.1,y21.2.2.1,wI (y21.2.2.2.1+1),y21.2.2.2.2.1,y21.2.2.2.2.2.1,y21.2.2.2.2.2.2.1,y21.2.2.2.2.2.2.2))
  | .inr s22=>
   some (.inr (.inr s22))
 else
  some (.inr (.inl (y.1,y.2.1)))
def J4 (x0:LL) (x1 x2 x3:LI) (x4:Int):Option U15:=
 cZ 32 <|
 cK (decide ((32:Int)<=32)) <|
 cK (Aa (Int.toNat 32) 24) <|
 cZ 32 <|
 cK (decide ((32:Int)<=32)) <|
 cK (Aa (Int.toNat 32) 8) <|
 if decide (x4=0)then
  some (List.replicate (Int.toNat 32) ([]:LI),List.replicate (Int.toNat 32) (0:Int),true)
 else
  (H2 x0 x1 x2 x3 x4 80).bind λc1=>
  Option.bind (α:=Ak8) (
    if(!c1.2)then
     some (List.replicate (Int.toNat 32) ([]:LI),c1.1,true,x0,x1,x2,x3)
    else
     (Om c1.1).bind λc2=>
     some (List.replicate (Int.toNat 32) ([]:LI),c1.1,(!c2),x0,x1,x2,x3)) λv3=>
  if v3.2.2.1 then
   some ([],[],false)
  else
   (Ab EC (v3.1,v3.2.1,(v3.2.1.length:Int),0,v3.2.2.2.1,v3.2.2.2.2.1,v3.2.2.2.2.2.1,v3.2.2.2.2.2.2)).bind λv23=>
   match v23 with
   | .inl y24=>
    some (y24.1,y24.2,true)
   | .inr s25=>
    some ([],[],s25)
def Hs (x0:LL) (x1 x2 x3:LI) (x4:Int):Option (Bool):=
 (H7 x0 x1 x2 x3).bind λc1=>
 if(!c1)then
  some false
 else
  (J4 x0 x1 x2 x3 x4).bind λc2=>
  some c2.2.2
def HW (y:AgL):Option (AgL⊕U38):=
 if decide (y.2.2.2.2.2.2.2 < y.2.2.2.2.2.2.1)then
  cZ y.2.2.2.2.2.2.2 <|
  Option.bind (y.2.2.1[y.2.2.2.2.2.1.toNat]?) λr16=>
  cK (decide (y.2.2.2.2.2.2.2 < (r16.length:Int))) <|
  Option.bind (y.2.2.1[y.2.2.2.2.2.1.toNat]?) λr17=>
  Option.bind (r17[0+y.2.2.2.2.2.2.2.toNat]?) λr18=>
  Option.bind (α:=AgL) (
   if decide (¬ r18=0)then
    cK (Aa (y.1.length+([(wI ((wI (32 * y.2.1))+y.2.2.2.2.2.2.2),r18)]:List (Int×Int)).length) 16) <|
    some (y.1++([(wI ((wI (32 * y.2.1))+y.2.2.2.2.2.2.2),r18)]:List (Int×Int)),y.2.1,y.2.2.1,y.2.2.2.1,y.2.2.2.2.1,(y.2.2.2.2.2.1.toNat:Int),y.2.2.2.2.2.2.1,y.2.2.2.2.2.2.2)
   else
    some (y.1,y.2.1,y.2.2.1,y.2.2.2.1,y.2.2.2.2.1,(y.2.2.2.2.2.1.toNat:Int),y.2.2.2.2.2.2.1,y.2.2.2.2.2.2.2)) λv19=>
  some (.inl (v19.1,v19.2.1,v19.2.2.1,v19.2.2.2.1,v19.2.2.2.2.1,(v19.2.2.2.2.2.1.toNat:Int),v19.2.2.2.2.2.2.1,wI (v19.2.2.2.2.2.2.2+1)))
 else
  some (.inr (y.1,y.2.2.1,y.2.2.2.1,y.2.2.2.2.1))
def HT (y:U38):Option (U38⊕(List (Int×Int))):=
 if decide (y.2.2.2 < y.2.2.1)then
  cZ y.2.2.2 <|
  cK (decide (y.2.2.2 < (y.2.1.length:Int))) <|
  Option.bind (y.2.1[0+y.2.2.2.toNat]?) λr14=>
  Option.bind (y.2.1[0+y.2.2.2.toNat]?) λr15=>
  (Ab HW (y.1,y.2.2.2,y.2.1,y.2.2.1,y.2.2.2,((0+y.2.2.2.toNat:Nat):Int),(r15.length:Int),0)).bind λv20=>
  some (.inl (v20.1,v20.2.1,v20.2.2.1,wI (v20.2.2.2+1)))
 else
  some (.inr y.1)
def OW (x0:LL) (x1 x2 x3:LI) (x4:Int):Option ((List (Int×Int)×Bool)):=
 (Hs x0 x1 x2 x3 x4).bind λc1=>
 if(!c1)then
  some ([],false)
 else
  (J4 x0 x1 x2 x3 x4).bind λc2=>
  (Ab HT ([],c2.1,(c2.1.length:Int),0)).bind λv21=>
  some (v21,true)
def Ov (y:(LI×(Int×Int))):Option ((LI×(Int×Int))⊕(LI×(Int×Int))):=
 Option.bind (α:=(LI×(Int×(Int×Bool)))) (
   if decide (y.2.2 < (y.1.length:Int))then
    cZ y.2.2 <|
    cK (decide (y.2.2 < (y.1.length:Int))) <|
    Option.bind (y.1[0+y.2.2.toNat]?) λr1=>
    some (y.1,y.2.1,y.2.2,decide (r1 < y.2.1))
   else
   some (y.1,y.2.1,y.2.2,false)) λv2=>
 if v2.2.2.2 then
  some (.inl (v2.1,v2.2.1,wI (v2.2.2.1+1)))
 else
  some (.inr (v2.1,v2.2.1,v2.2.2.1))
def Dd (x0:LI) (x1:Int):Option LI:=
 (Ab Ov (x0,x1,0)).bind λv3=>
 Option.bind (α:=(LI×(Int×(Int×Bool)))) (
   if decide (v3.2.2 < (v3.1.length:Int))then
    cZ v3.2.2 <|
    cK (decide (v3.2.2 < (v3.1.length:Int))) <|
    Option.bind (v3.1[0+v3.2.2.toNat]?) λr4=>
    some (v3.1,v3.2.1,v3.2.2,decide (r4=v3.2.1))
   else
   some (v3.1,v3.2.1,v3.2.2,false)) λv5=>
 if v5.2.2.2 then
  some v5.1
 else
 sX 0 v5.2.2.1 (v5.1.length:Int) (v5.1.length) <|
 cK (Aa (([]:LI).length+((v5.1.drop (Int.toNat 0)).take (v5.2.2.1.toNat - Int.toNat 0)).length) 8) <|
 cK (Aa ((([]:LI)++((v5.1.drop (Int.toNat 0)).take (v5.2.2.1.toNat - Int.toNat 0))).length+([v5.2.1]:LI).length) 8) <|
 sX v5.2.2.1 (v5.1.length:Int) (v5.1.length:Int) (v5.1.length) <|
 cK (Aa (((([]:LI)++((v5.1.drop (Int.toNat 0)).take (v5.2.2.1.toNat - Int.toNat 0)))++([v5.2.1]:LI)).length+((v5.1.drop (v5.2.2.1.toNat)).take ((v5.1.length:Int).toNat - v5.2.2.1.toNat)).length) 8) <|
 some (((([]:LI)++((v5.1.drop (Int.toNat 0)).take (v5.2.2.1.toNat - Int.toNat 0)))++([v5.2.1]:LI))++((v5.1.drop (v5.2.2.1.toNat)).take ((v5.1.length:Int).toNat - v5.2.2.1.toNat)))
def GE (y:U27):Option (U27⊕LI):=
 if decide (y.2.2.2 < y.2.2.1)then
  cZ y.2.2.2 <|
  cK (decide (y.2.2.2 < (y.2.1.length:Int))) <|
  Option.bind (y.2.1[0+y.2.2.2.toNat]?) λr6=>
  Option.bind (α:=U27) (
   if decide (¬ r6=0)then
    (Dd y.1 r6).bind λc7=>
    some (c7,y.2.1,y.2.2.1,y.2.2.2)
   else
    some (y.1,y.2.1,y.2.2.1,y.2.2.2)) λv8=>
  some (.inl (v8.1,v8.2.1,v8.2.2.1,wI (v8.2.2.2+1)))
 else
  some (.inr y.1)
def MR (x0:LL) (x1 x2 x3:LI) (x4:Int):Option ((LI×Bool)):=
 (Hs x0 x1 x2 x3 x4).bind λc1=>
 if(!c1)then
  some ([],false)
 else
  (J4 x0 x1 x2 x3 x4).bind λc2=>
  cK (Aa (c2.2.1.length+([x4]:LI).length) 8) <|
  (Ab GE ([],c2.2.1++([x4]:LI),((c2.2.1++([x4]:LI)).length:Int),0)).bind λv9=>
  some (v9,true)
def Jv (y:U53):Option (U53⊕U29):=match y with
 | (a,b,c,d,e)=>
 cZ (IntKind.wrap .u64 d) <|
 if decide (wI ((wI (e+1)) * 2 ^ (min ((IntKind.wrap .u64 d).toNat) (IntKind.bits .i64)))<=b)then
  cZ (IntKind.wrap .u64 d) <|
  Option.bind (α:=U53) (
   if decide (a<=(wI (e * 2 ^ (min ((IntKind.wrap .u64 d).toNat) (IntKind.bits .i64)))))then
    cK (Aa (c.length+([(d,e)]:List (Int×Int)).length) 16) <|
    some (a,b,c++([(d,e)]:List (Int×Int)),d,e)
   else
    some (a,b,c,d,e)) λ(f,g,h,i,j)=>
  some (.inl (f,g,h,i,wI (j+1)))
 else
  some (.inr (a,b,c,d))
def Ji (y:U29):Option (U29⊕(List (Int×Int))):=match y with
 | (a,b,c,d)=>
 if decide (d<=5)then
  (Ab Jv (a,b,c,d,0)).bind λ(e,f,g,h)=>
  some (.inl (e,f,g,wI (h+1)))
 else
  some (.inr c)
def LJ (x0 x1:Int):Option (List (Int×Int)):=
 (Ab Ji (x0,x1,[],0)).bind λv6=>
 some v6
def Gk (x0 x1:Int):Option (Int):=
 Option.bind (α:=(Bool×(Int×Int))) (
   (Bw x0 0 5).bind λc1=>
   if(!c1)then
    some (true,x0,x1)
   else
    (Bw x1 0 63).bind λc2=>
    some ((!c2),x0,x1)) λ(a,b,c)=>
 if a then
  some (-1)
 else
  some (wI ((wI (64 * b))+c))
def Fe (y:U98):Option (U98⊕(Int×(Int×(Int×LI)))):=match y with
 | (a,b,c,d,e,f,g)=>
 if decide (g < f)then
  cZ g <|
  cK (decide (g < (e.length:Int))) <|
  Option.bind (e[0+g.toNat]?) λr6=>
  Option.bind (e[0+g.toNat]?) λr7=>
  (Gk r6.1 r7.2).bind λc8=>
  (Dd d c8).bind λc9=>
  some (.inl (a,b,c,c9,e,f,wI (g+1)))
 else
  some (.inr (a,b,c,d))
def E0 (y:(Int×(Int×(LI×Int)))):Option ((Int×(Int×(LI×Int)))⊕LI):=match y with
 | (a,b,c,d)=>
 if decide (d<=a)then
  cK (decide (¬ b=0)) <|
  Option.bind (α:=(Int×(Int×(LI×Int)))) (
   if decide (Int.tmod d b=0)then
    (Dd c (wI (384+d))).bind λc11=>
    some (a,b,c11,d)
   else
    some (a,b,c,d)) λ(e,f,g,h)=>
  some (.inl (e,f,g,wI (h+1)))
 else
  some (.inr c)
def Kh (x0 x1 x2:Int):Option LI:=
 (LJ x0 x1).bind λc1=>
 (Ab Fe (x0,x1,x2,[],c1,(c1.length:Int),0)).bind λ(a,b,c,d)=>
 (Ab E0 (b,c,d,wI (a+1))).bind λv13=>
 (Dd v13 448).bind λc14=>
 some c14
def RR (y:(LI×(Int×Int))):Option ((LI×(Int×Int))⊕(Unit⊕Bool)):=
 if decide (y.2.2 < y.2.1)then
  gX y.1 y.2.2 λr1=>
  if decide (¬ r1=0)then
   some (.inr (.inr false))
  else
   some (.inl (y.1,y.2.1,wI (y.2.2+1)))
 else
  some (.inr (.inl ()))
def D9 (x0:LI) (x1:Int):Option (Bool):=
 sX x1 (x0.length:Int) (x0.length:Int) (x0.length) <|
 (Ab RR ((List.drop (x1.toNat) x0).take ((x0.length:Int).toNat - x1.toNat),(((List.drop (x1.toNat) x0).take ((x0.length:Int).toNat - x1.toNat)).length:Int),0)).bind λv2=>
 match v2 with
 | .inl y3=>
  some true
 | .inr s4=>
  some s4
def Ei (y:Ajy):Option (Ajy⊕((LI×(Int×LI))⊕Bool)):=
 if decide (y.2.2.2.1 < y.2.1)then
  gX y.1 (wI (2+(wI (2 * y.2.2.2.1)))) λr24=>
  gX y.1 (wI (3+(wI (2 * y.2.2.2.1)))) λr25=>
  Option.bind (α:=Ahl) (
    (IG y.2.2.2.2.1 y.2.2.2.2.2.1 y.2.2.2.2.2.2.1 y.2.2.2.2.2.2.2 (wI ((wI ((IntKind.wrap .i64 r24) * 256))+(IntKind.wrap .i64 r25)))).bind λc26=>
    if(!c26)then
     some (y.1,y.2.1,y.2.2.1,y.2.2.2.1,wI ((wI ((IntKind.wrap .i64 r24) * 256))+(IntKind.wrap .i64 r25)),true,y.2.2.2.2.1,y.2.2.2.2.2.1,y.2.2.2.2.2.2.1,y.2.2.2.2.2.2.2)
    else
     (Gt y.2.2.1 (wI ((wI ((IntKind.wrap .i64 r24) * 256))+(IntKind.wrap .i64 r25)))).bind λc27=>
     some (y.1,y.2.1,y.2.2.1,y.2.2.2.1,wI ((wI ((IntKind.wrap .i64 r24) * 256))+(IntKind.wrap .i64 r25)),c27,y.2.2.2.2.1,y.2.2.2.2.2.1,y.2.2.2.2.2.2.1,y.2.2.2.2.2.2.2)) λv28=>
  if v28.2.2.2.2.2.1 then
   some (.inr (.inr false))
  else
  gX v28.2.2.2.2.2.2.1 v28.2.2.2.2.1 λr29=>
  gX r29 2 λr30=>
  Option.bind (α:=Ahl) (
    gX r29 0 λr31=>
    if decide (¬ r31=83)then
     some (v28.1,v28.2.1,v28.2.2.1,v28.2.2.2.1,v28.2.2.2.2.1,true,v28.2.2.2.2.2.2.1,v28.2.2.2.2.2.2.2.1,v28.2.2.2.2.2.2.2.2.1,v28.2.2.2.2.2.2.2.2.2)
    else
    gX r29 1 λr32=>
    (Bw (IntKind.wrap .i64 r32) 1 250).bind λc33=>
    if(!c33)then
     some (v28.1,v28.2.1,v28.2.2.1,v28.2.2.2.1,v28.2.2.2.2.1,true,v28.2.2.2.2.2.2.1,v28.2.2.2.2.2.2.2.1,v28.2.2.2.2.2.2.2.2.1,v28.2.2.2.2.2.2.2.2.2)
    else
     (Bw (IntKind.wrap .i64 r30) 1 40).bind λc34=>
     if(!c34)then
      some (v28.1,v28.2.1,v28.2.2.1,v28.2.2.2.1,v28.2.2.2.2.1,true,v28.2.2.2.2.2.2.1,v28.2.2.2.2.2.2.2.1,v28.2.2.2.2.2.2.2.2.1,v28.2.2.2.2.2.2.2.2.2)
     else
     if decide (v28.2.2.2.1 < (wI (v28.2.1 - 1)))then
      if decide (¬ IntKind.wrap .i64 r30=40)then
       some (v28.1,v28.2.1,v28.2.2.1,v28.2.2.2.1,v28.2.2.2.2.1,true,v28.2.2.2.2.2.2.1,v28.2.2.2.2.2.2.2.1,v28.2.2.2.2.2.2.2.2.1,v28.2.2.2.2.2.2.2.2.2)
      else
       (D9 r29 (wI (3+(IntKind.wrap .i64 r30)))).bind λc35=>
       some (v28.1,v28.2.1,v28.2.2.1,v28.2.2.2.1,v28.2.2.2.2.1,(!c35),v28.2.2.2.2.2.2.1,v28.2.2.2.2.2.2.2.1,v28.2.2.2.2.2.2.2.2.1,v28.2.2.2.2.2.2.2.2.2)
     else
     (D9 r29 (wI (3+(IntKind.wrap .i64 r30)))).bind λc37=>
     some (v28.1,v28.2.1,v28.2.2.1,v28.2.2.2.1,v28.2.2.2.2.1,(!c37),v28.2.2.2.2.2.2.1,v28.2.2.2.2.2.2.2.1,v28.2.2.2.2.2.2.2.2.1,v28.2.2.2.2.2.2.2.2.2)) λv38=>
  if v38.2.2.2.2.2.1 then
   some (.inr (.inr false))
  else
  cK (Aa (v38.2.2.1.length+([v38.2.2.2.2.1]:LI).length) 8) <|
  some (.inl (v38.1,v38.2.1,v38.2.2.1++([v38.2.2.2.2.1]:LI),wI (v38.2.2.2.1+1),v38.2.2.2.2.2.2.1,v38.2.2.2.2.2.2.2.1,v38.2.2.2.2.2.2.2.2.1,v38.2.2.2.2.2.2.2.2.2))
 else
  some (.inr (.inl (y.1,y.2.1,y.2.2.1)))
def Ly (x0:LL) (x1 x2 x3:LI) (x4:Int):Option ((LI×Bool)):=
 Option.bind (α:=U78) (
   (IG x0 x1 x2 x3 x4).bind λc1=>
   if(!c1)then
    some (x4,true,x0,x1,x2,x3)
   else
   gX x0 x4 λr2=>
   gX r2 0 λr3=>
   if decide (¬ r3=84)then
    some (x4,true,x0,x1,x2,x3)
   else
   gX x0 x4 λr4=>
   gX r4 1 λr5=>
   some (x4,decide (3 < r5),x0,x1,x2,x3)) λv6=>
 if v6.2.1 then
  some ([],false)
 else
 gX v6.2.2.1 v6.1 λr7=>
 gX r7 1 λr8=>
 (Ab Ei (r7,IntKind.wrap .i64 r8,[],0,v6.2.2.1,v6.2.2.2.1,v6.2.2.2.2.1,v6.2.2.2.2.2)).bind λv39=>
 match v39 with
 | .inl y40=>
  (D9 y40.1 (wI (2+(wI (2 * y40.2.1))))).bind λc42=>
  some (y40.2.2,c42)
 | .inr s41=>
  some ([],s41)
def MN (x0:LL) (x1 x2 x3:LI) (x4:Int):Option LB:=
 gX x0 x4 λr1=>
 gX x0 x4 λr2=>
 gX r2 2 λr3=>
 sX 3 (wI (3+(IntKind.wrap .i64 r3))) (r1.length:Int) (r1.length) <|
 some (AJ ((List.drop (Int.toNat 3) r1).take ((wI (3+(IntKind.wrap .i64 r3))).toNat - Int.toNat 3)))
def H4 (y:Akj):Option (Akj⊕(Int×(LI×LB))):=
 if decide (y.2.2.2.2.1 < y.2.2.2.1)then
  cZ y.2.2.2.2.1 <|
  cK (decide (y.2.2.2.2.1 < (y.2.1.length:Int))) <|
  Option.bind (y.2.1[0+y.2.2.2.2.1.toNat]?) λr2=>
  (MN y.2.2.2.2.2.1 y.2.2.2.2.2.2.1 y.2.2.2.2.2.2.2.1 y.2.2.2.2.2.2.2.2 r2).bind λc3=>
  cK (decide ((y.2.2.1.length+c3.length:Nat)<=9223372036854775807)) <|
  some (.inl (y.1,y.2.1,(y.2.2.1:LB)++c3,y.2.2.2.1,wI (y.2.2.2.2.1+1),y.2.2.2.2.2.1,y.2.2.2.2.2.2.1,y.2.2.2.2.2.2.2.1,y.2.2.2.2.2.2.2.2))
 else
  some (.inr (y.1,y.2.1,y.2.2.1))
def Oy (x0:LL) (x1 x2 x3:LI) (x4:Int):Option U11:=
 (Ly x0 x1 x2 x3 x4).bind λc1=>
 if(!c1.2)then
  some (([]:LB),[],false)
 else
  (Ab H4 (x4,c1.1,([]:LB),(c1.1.length:Int),0,x0,x1,x2,x3)).bind λv4=>
  cK (Aa (v4.2.1.length+([v4.1]:LI).length) 8) <|
  some (v4.2.2,v4.2.1++([v4.1]:LI),true)
def El (y:U30):Option (U30⊕(Unit⊕Int)):=match y with
 | (a,b,c,d)=>
 if decide (d < c)then
  gX b d λr1=>
  if decide (r1.1=a)then
   some (.inr (.inr r1.2))
  else
   some (.inl (a,b,c,wI (d+1)))
 else
  some (.inr (.inl ()))
def DS (x0 x1 x2 x3 x4:Int) (x5:LL) (x6 x7 x8:LI) (x9:List (Int×Int)) (x10:Int) (x11:LB) (x12:List (Int×Int)) (x13:List (List (Int×(Int×LB)))) (x14:LI) (x15:Int):Option (Int):=
 (Ab El (x15,x9,(x9.length:Int),0)).bind λv2=>
 match v2 with
 | .inl y3=>
  some 0
 | .inr s4=>
  some s4
def DH (y:Ajb):Option (Ajb⊕((LI×LI)⊕Bool)):=match y with
 | (a,b,c,d,e,f,g)=>
 if decide (¬ a=0)then
  Option.bind (α:=AlC) (
    (IG d e f g a).bind λc19=>
    if(!c19)then
     some (a,b,c,true,d,e,f,g)
    else
     (Gt c a).bind λc20=>
     if c20 then
      some (a,b,c,true,d,e,f,g)
     else
     some (a,b,c,decide ((c.length:Int)=9),d,e,f,g)) λ(h,i,j,k,l,m,n,o)=>
  if k then
   some (.inr (.inr false))
  else
  gX l h λr22=>
  gX r22 1 λr23=>
  gX r22 2 λr24=>
  gX r22 3 λr25=>
  Option.bind (α:=Ak3) (
    gX r22 0 λr26=>
    if decide (¬ r26=82)then
     some (h,i,j,r22,wI ((wI ((IntKind.wrap .i64 r23) * 256))+(IntKind.wrap .i64 r24)),IntKind.wrap .i64 r25,true,l,m,n,o)
    else
    if decide (124 < (IntKind.wrap .i64 r25))then
     some (h,i,j,r22,wI ((wI ((IntKind.wrap .i64 r23) * 256))+(IntKind.wrap .i64 r24)),IntKind.wrap .i64 r25,true,l,m,n,o)
    else
    if decide (¬ wI ((wI ((IntKind.wrap .i64 r23) * 256))+(IntKind.wrap .i64 r24))=0)then
     if decide (¬ IntKind.wrap .i64 r25=124)then
      some (h,i,j,r22,wI ((wI ((IntKind.wrap .i64 r23) * 256))+(IntKind.wrap .i64 r24)),IntKind.wrap .i64 r25,true,l,m,n,o)
     else
     if decide (IntKind.wrap .i64 r25=0)then
      if decide (0 < (j.length:Int))then
       some (h,i,j,r22,wI ((wI ((IntKind.wrap .i64 r23) * 256))+(IntKind.wrap .i64 r24)),IntKind.wrap .i64 r25,true,l,m,n,o)
      else
       (D9 r22 (wI (4+(IntKind.wrap .i64 r25)))).bind λc27=>
       some (h,i,j,r22,wI ((wI ((IntKind.wrap .i64 r23) * 256))+(IntKind.wrap .i64 r24)),IntKind.wrap .i64 r25,(!c27),l,m,n,o)
     else
     (D9 r22 (wI (4+(IntKind.wrap .i64 r25)))).bind λc29=>
     some (h,i,j,r22,wI ((wI ((IntKind.wrap .i64 r23) * 256))+(IntKind.wrap .i64 r24)),IntKind.wrap .i64 r25,(!c29),l,m,n,o)
    else
    if decide (IntKind.wrap .i64 r25=0)then
     if decide (0 < (j.length:Int))then
      some (h,i,j,r22,wI ((wI ((IntKind.wrap .i64 r23) * 256))+(IntKind.wrap .i64 r24)),IntKind.wrap .i64 r25,true,l,m,n,o)
     else
      (D9 r22 (wI (4+(IntKind.wrap .i64 r25)))).bind λc33=>
      some (h,i,j,r22,wI ((wI ((IntKind.wrap .i64 r23) * 256))+(IntKind.wrap .i64 r24)),IntKind.wrap .i64 r25,(!c33),l,m,n,o)
    else
    (D9 r22 (wI (4+(IntKind.wrap .i64 r25)))).bind λc35=>
    some (h,i,j,r22,wI ((wI ((IntKind.wrap .i64 r23) * 256))+(IntKind.wrap .i64 r24)),IntKind.wrap .i64 r25,(!c35),l,m,n,o)) λ(p,q,r,s,t,u,v,w,x,z,a0)=>
  if v then
   some (.inr (.inr false))
  else
  sX 4 (wI (4+u)) (s.length:Int) (s.length) <|
  cK (Aa (q.length+((List.drop (Int.toNat 4) s).take ((wI (4+u)).toNat - Int.toNat 4)).length) 1) <|
  cK (Aa (r.length+([p]:LI).length) 8) <|
  some (.inl (t,q++((List.drop (Int.toNat 4) s).take ((wI (4+u)).toNat - Int.toNat 4)),r++([p]:LI),w,x,z,a0))
 else
  some (.inr (.inl (b,c)))
def La (x0:LL) (x1 x2 x3:LI) (x4:Int):Option ((LI×(LI×Bool))):=
 (Ab DH (x4,[],[],x0,x1,x2,x3)).bind λv37=>
 match v37 with
 | .inl y38=>
  some (y38.1,y38.2,decide (0 < (y38.2.length:Int)))
 | .inr s39=>
  some ([],[],s39)
def DX (y:U30):Option (U30⊕(Int⊕Int)):=
 if decide (y.2.2.2 < y.2.2.1)then
  gX y.2.1 y.2.2.2 λr1=>
  (Bw r1.2 1 (wI (120 - y.1))).bind λc2=>
  if(!c2)then
   some (.inr (.inr (-1)))
  else
   some (.inl (wI (y.1+r1.2),y.2.1,y.2.2.1,wI (y.2.2.2+1)))
 else
  some (.inr (.inl y.1))
def U7 (x0:List (Int×Int)):Option (Int):=
 (Ab DX (0,x0,(x0.length:Int),0)).bind λv3=>
 match v3 with
 | .inl y4=>
  some y4
 | .inr s5=>
  some s5
def PF (y:AcE):Option (AcE⊕((Int×Int)⊕Bool)):=
 if decide (y.2.2.2.2.2.2 < y.2.2.2.2.2.1)then
  gX y.2.2.2.2.1 y.2.2.2.2.2.2 λr4=>
  Option.bind (α:=Aj5) (
    (Bw r4.1 0 y.2.2.1).bind λc5=>
    if(!c5)then
     some (y.1,y.2.1,y.2.2.1,y.2.2.2.1,y.2.2.2.2.1,y.2.2.2.2.2.1,y.2.2.2.2.2.2,true,r4.1,r4.2)
    else
     (Bw r4.2 1 (wI (y.2.1 - y.2.2.2.1))).bind λc6=>
     if(!c6)then
      some (y.1,y.2.1,y.2.2.1,y.2.2.2.1,y.2.2.2.2.1,y.2.2.2.2.2.1,y.2.2.2.2.2.2,true,r4.1,r4.2)
     else
     if decide (0 < y.2.2.2.2.2.2)then
      gX y.1 (wI (y.2.2.2.2.2.2 - 1)) λr7=>
      some (y.1,y.2.1,y.2.2.1,y.2.2.2.1,y.2.2.2.2.1,y.2.2.2.2.2.1,y.2.2.2.2.2.2,decide (r7.1=r4.1),r4.1,r4.2)
     else
     some (y.1,y.2.1,y.2.2.1,y.2.2.2.1,y.2.2.2.2.1,y.2.2.2.2.2.1,y.2.2.2.2.2.2,false,r4.1,r4.2)) λv8=>
  if v8.2.2.2.2.2.2.2.1 then
   some (.inr (.inr false))
  else
   some (.inl (v8.1,v8.2.1,v8.2.2.1,wI (v8.2.2.2.1+v8.2.2.2.2.2.2.2.2.2),v8.2.2.2.2.1,v8.2.2.2.2.2.1,wI (v8.2.2.2.2.2.2.1+1)))
 else
  some (.inr (.inl (y.2.1,y.2.2.2.1)))
def Je (x0:List (Int×Int)) (x1 x2:Int):Option (Bool):=
 Option.bind (α:=U31) (
   (Bw x1 0 120).bind λc1=>
   if(!c1)then
    some (x0,x1,x2,true)
   else
    (Bw x2 0 60).bind λc2=>
    some (x0,x1,x2,(!c2))) λv3=>
 if v3.2.2.2 then
  some false
 else
  (Ab PF (v3.1,v3.2.1,v3.2.2.1,0,v3.1,(v3.1.length:Int),0)).bind λv9=>
  match v9 with
  | .inl y10=>
   some (decide (y10.2=y10.1))
  | .inr s11=>
   some s11
def OT (x0:List (Int×Int)):Option (Bool):=
 (U7 x0).bind λc1=>
 Option.bind (α:=Bool) (
  if decide (0<=c1)then
   (Je x0 c1 60).bind λc2=>
   some c2
  else
  some false) λv3=>
 some v3
def F7 (y:U12):Option (U12⊕(List (Int×Int))):=
 if decide (y.2.2 < (y.1.length:Int))then
  gX y.1 y.2.2 λr4=>
  gX y.1 (wI (y.2.2+1)) λr5=>
  cK (Aa (y.2.1.length+([(IntKind.wrap .i64 r4,IntKind.wrap .i64 r5)]:List (Int×Int)).length) 16) <|
  some (.inl (y.1,y.2.1++([(IntKind.wrap .i64 r4,IntKind.wrap .i64 r5)]:List (Int×Int)),wI (y.2.2+2)))
 else
  some (.inr y.2.1)
def Lz (x0:LI):Option ((List (Int×Int)×Bool)):=
 Option.bind (α:=(LI×Bool)) (
   cK (decide (¬ (2:Int)=0)) <|
   if decide (Int.tmod (x0.length:Int) 2=1)then
    some (x0,true)
   else
   some (x0,decide (240 < (x0.length:Int)))) λv1=>
 if v1.2 then
  some ([],false)
 else
  (Ab F7 (v1.1,[],0)).bind λv6=>
  (OT v6).bind λc7=>
  if(!c7)then
   some ([],false)
  else
   some (v6,true)
def G7 (x0 x1:Int) (x2:LB):Option (Int):=
 Option.bind (α:=U25) (
   if decide (0 < x0)then
    if decide (x1=0)then
     some (((x2:LB) == ([]:LB)),x0,x1,x2)
    else
    some (false,x0,x1,x2)
   else
   some (false,x0,x1,x2)) λv1=>
 if v1.1 then
  some 1
 else
  Option.bind (α:=U25) (
    if decide (v1.2.1=0)then
     if decide (0 < v1.2.2.1)then
      some (((v1.2.2.2:LB) == ([]:LB)),v1.2.1,v1.2.2.1,v1.2.2.2)
     else
     some (false,v1.2.1,v1.2.2.1,v1.2.2.2)
    else
    some (false,v1.2.1,v1.2.2.1,v1.2.2.2)) λv2=>
  if v2.1 then
   some 2
  else
   Option.bind (α:=Bool) (
     if decide (v2.2.1=0)then
      if decide (v2.2.2.1=0)then
       some (!((v2.2.2.2:LB) == ([]:LB)))
      else
      some false
     else
     some false) λv3=>
   if v3 then
    some 3
   else
    some 0
def M3 (y:U90):Option (U90⊕(Unit⊕Bool)):=
 if decide (y.2.2.2.2.2 < y.2.2.2.2.1)then
  gX y.2.2.2.1 y.2.2.2.2.2 λr1=>
  (G7 r1.1 r1.2.1 r1.2.2).bind λc2=>
  Option.bind (α:=All) (
    if decide (c2=0)then
     some (y.1,y.2.1,y.2.2.1,y.2.2.2.1,y.2.2.2.2.1,y.2.2.2.2.2,true,r1.1,r1.2.1,r1.2.2)
    else
    if decide (0 < y.2.2.2.2.2)then
     gX y.1 (wI (y.2.2.2.2.2 - 1)) λr3=>
     (G7 r3.1 r3.2.1 r3.2.2).bind λc4=>
     if decide (c4=c2)then
      some (y.1,y.2.1,y.2.2.1,y.2.2.2.1,y.2.2.2.2.1,y.2.2.2.2.2,true,r1.1,r1.2.1,r1.2.2)
     else
     if decide (120 < r1.1)then
      some (y.1,y.2.1,y.2.2.1,y.2.2.2.1,y.2.2.2.2.1,y.2.2.2.2.2,true,r1.1,r1.2.1,r1.2.2)
     else
     if decide (120 < r1.2.1)then
      some (y.1,y.2.1,y.2.2.1,y.2.2.2.1,y.2.2.2.2.1,y.2.2.2.2.2,true,r1.1,r1.2.1,r1.2.2)
     else
     some (y.1,y.2.1,y.2.2.1,y.2.2.2.1,y.2.2.2.2.1,y.2.2.2.2.2,decide (120 < (r1.2.2.length:Int)),r1.1,r1.2.1,r1.2.2)
    else
    if decide (120 < r1.1)then
     some (y.1,y.2.1,y.2.2.1,y.2.2.2.1,y.2.2.2.2.1,y.2.2.2.2.2,true,r1.1,r1.2.1,r1.2.2)
    else
    if decide (120 < r1.2.1)then
     some (y.1,y.2.1,y.2.2.1,y.2.2.2.1,y.2.2.2.2.1,y.2.2.2.2.2,true,r1.1,r1.2.1,r1.2.2)
    else
    some (y.1,y.2.1,y.2.2.1,y.2.2.2.1,y.2.2.2.2.1,y.2.2.2.2.2,decide (120 < (r1.2.2.length:Int)),r1.1,r1.2.1,r1.2.2)) λv5=>
  if v5.2.2.2.2.2.2.1 then
   some (.inr (.inr false))
  else
   Option.bind (α:=Alq) (
     if decide (120 < (wI (v5.2.1+(wI (v5.2.2.2.2.2.2.2.1+v5.2.2.2.2.2.2.2.2.1)))))then
      some (v5.1,wI (v5.2.1+(wI (v5.2.2.2.2.2.2.2.1+v5.2.2.2.2.2.2.2.2.1))),wI (v5.2.2.1+(wI (v5.2.2.2.2.2.2.2.1+(v5.2.2.2.2.2.2.2.2.2.length:Int)))),v5.2.2.2.1,v5.2.2.2.2.1,v5.2.2.2.2.2.1,true)
     else
     some (v5.1,wI (v5.2.1+(wI (v5.2.2.2.2.2.2.2.1+v5.2.2.2.2.2.2.2.2.1))),wI (v5.2.2.1+(wI (v5.2.2.2.2.2.2.2.1+(v5.2.2.2.2.2.2.2.2.2.length:Int)))),v5.2.2.2.1,v5.2.2.2.2.1,v5.2.2.2.2.2.1,decide (120 < (wI (v5.2.2.1+(wI (v5.2.2.2.2.2.2.2.1+(v5.2.2.2.2.2.2.2.2.2.length:Int)))))))) λv6=>
   if v6.2.2.2.2.2.2 then
    some (.inr (.inr false))
   else
    some (.inl (v6.1,v6.2.1,v6.2.2.1,v6.2.2.2.1,v6.2.2.2.2.1,wI (v6.2.2.2.2.2.1+1)))
 else
  some (.inr (.inl ()))
def Fj (x0:List (Int×(Int×LB))):Option (Bool):=
 (Ab M3 (x0,0,0,x0,(x0.length:Int),0)).bind λv7=>
 match v7 with
 | .inl y8=>
  some true
 | .inr s9=>
  some s9
def Bq (y:U17):Option (U17⊕(List (Int×(Int×LB))⊕Bool)):=
 if decide (y.2.2 < (y.1.length:Int))then
  if decide ((y.1.length:Int)<=(wI (y.2.2+1)))then
   some (.inr (.inr false))
  else
  gX y.1 (wI (y.2.2+1)) λr9=>
  gX y.1 y.2.2 λr10=>
  Option.bind (α:=U17⊕Bool) (
    if decide (r10=1)then
     cK (Aa (y.2.1.length+([(IntKind.wrap .i64 r9,(0,[]))]:List (Int×(Int×LB))).length) 32) <|
     some (.inl (y.1,y.2.1++([(IntKind.wrap .i64 r9,(0,[]))]:List (Int×(Int×LB))),y.2.2))
    else
     Option.bind (α:=U17⊕Bool) (
       if decide (r10=2)then
        cK (Aa (y.2.1.length+([(0,(IntKind.wrap .i64 r9,[]))]:List (Int×(Int×LB))).length) 32) <|
        some (.inl (y.1,y.2.1++([(0,(IntKind.wrap .i64 r9,[]))]:List (Int×(Int×LB))),y.2.2))
       else
       if decide (r10=3)then
        if decide (wI ((wI ((y.1.length:Int) - y.2.2)) - 2) < (IntKind.wrap .i64 r9))then
         some (.inr false)
        else
        sX (wI (y.2.2+2)) (wI ((wI (y.2.2+2))+(IntKind.wrap .i64 r9))) (y.1.length:Int) (y.1.length) <|
        cK (Aa (y.2.1.length+([(0,(0,AJ ((List.drop ((wI (y.2.2+2)).toNat) y.1).take ((wI ((wI (y.2.2+2))+(IntKind.wrap .i64 r9))).toNat - (wI (y.2.2+2)).toNat))))]:List (Int×(Int×LB))).length) 32) <|
        some (.inl (y.1,y.2.1++([(0,(0,AJ ((List.drop ((wI (y.2.2+2)).toNat) y.1).take ((wI ((wI (y.2.2+2))+(IntKind.wrap .i64 r9))).toNat - (wI (y.2.2+2)).toNat))))]:List (Int×(Int×LB))),wI (y.2.2+(IntKind.wrap .i64 r9))))
       else
        some (.inr false)) λv11=>
     match v11 with
     | .inl y12=>
      some (.inl (y12.1,y12.2.1,y12.2.2))
     | .inr s13=>
      some (.inr s13)) λv14=>
  match v14 with
  | .inl y15=>
   if decide (500 < (y15.2.1.length:Int))then
    some (.inr (.inr false))
   else
    some (.inl (y15.1,y15.2.1,wI (y15.2.2+2)))
  | .inr s16=>
   some (.inr (.inr s16))
 else
  some (.inr (.inl y.2.1))
def I0 (x0:LI):Option U3:=
 (Ab Bq (x0,[],0)).bind λv17=>
 match v17 with
 | .inl y18=>
  (Fj y18).bind λc20=>
  if(!c20)then
   some ([],false)
  else
   some (y18,true)
 | .inr s19=>
  some ([],s19)
def F9 (y:U40):Option (U40⊕Int):=
 if decide (y.2.2.2 < y.2.2.1)then
  gX y.2.1 y.2.2.2 λr1=>
  some (.inl (wI (y.1+(wI (r1.1+r1.2.1))),y.2.1,y.2.2.1,wI (y.2.2.2+1)))
 else
  some (.inr y.1)
def Jz (x0:List (Int×(Int×LB))):Option (Int):=
 (Ab F9 (0,x0,(x0.length:Int),0)).bind λv2=>
 some v2
def Gh (y:U40):Option (U40⊕Int):=
 if decide (y.2.2.2 < y.2.2.1)then
  gX y.2.1 y.2.2.2 λr1=>
  some (.inl (wI (y.1+(wI (r1.1+(r1.2.2.length:Int)))),y.2.1,y.2.2.1,wI (y.2.2.2+1)))
 else
  some (.inr y.1)
def Lm (x0:List (Int×(Int×LB))):Option (Int):=
 (Ab Gh (0,x0,(x0.length:Int),0)).bind λv2=>
 some v2
def My (y:U43):Option (U43⊕(Unit⊕Bool)):=
 if decide (y.2.2.2 < y.2.2.1)then
  gX y.2.1 y.2.2.2 λr4=>
  Option.bind (α:=U73) (
    (Fj r4).bind λc5=>
    if(!c5)then
     some (y.2.1,y.2.2.1,y.2.2.2,true,r4)
    else
     (Jz r4).bind λc6=>
     some (y.2.1,y.2.2.1,y.2.2.2,decide (¬ c6=y.1),r4)) λv7=>
  if v7.2.2.2.1 then
   some (.inr (.inr false))
  else
   (Lm v7.2.2.2.2).bind λc8=>
   some (.inl (c8,v7.1,v7.2.1,wI (v7.2.2.1+1)))
 else
  some (.inr (.inl ()))
def Gf (x0:Int) (x1:LB) (x2:List (Int×Int)) (x3:List (List (Int×(Int×LB)))):Option (Bool):=
 Option.bind (α:=U70) (
   (Bw x0 0 60).bind λc1=>
   if(!c1)then
    some (true,x0,x1,x2,x3)
   else
   if decide (120 < (x1.length:Int))then
    some (true,x0,x1,x2,x3)
   else
    (Je x2 (x1.length:Int) x0).bind λc2=>
    if(!c2)then
     some (true,x0,x1,x2,x3)
    else
    some (decide (wI (60 - x0) < (x3.length:Int)),x0,x1,x2,x3)) λv3=>
 if v3.1 then
  some false
 else
  (Ab My ((v3.2.2.1.length:Int),v3.2.2.2.2,(v3.2.2.2.2.length:Int),0)).bind λv9=>
  match v9 with
  | .inl y10=>
   some true
  | .inr s11=>
   some s11
def KQ (x0:Int) (x1:LB) (x2:List (Int×Int)) (x3:List (List (Int×(Int×LB)))):Option (Int):=
 some (wI (x0+(x3.length:Int)))
def HO (y:Ajd):Option (Ajd⊕U69):=
 if decide (y.1 < (wI (y.2.2.2.2.2.2.1+y.2.2.2.2.2.2.2.1)))then
  cK (Aa (y.2.2.2.2.1.length+([decide (0 < y.2.2.2.2.2.2.1)]:List Bool).length) 1) <|
  cK (Aa (y.2.2.2.2.2.1.length+([([]:LB)]:List LB).length) 16) <|
  some (.inl (wI (y.1+1),y.2.1,y.2.2.1,y.2.2.2.1,y.2.2.2.2.1++([decide (0 < y.2.2.2.2.2.2.1)]:List Bool),y.2.2.2.2.2.1++([([]:LB)]:List LB),y.2.2.2.2.2.2.1,y.2.2.2.2.2.2.2.1,y.2.2.2.2.2.2.2.2))
 else
  some (.inr (y.2.1,y.2.2.1,y.2.2.2.1,y.2.2.2.2.1,y.2.2.2.2.2.1))
def H6 (y:U69):Option (U69⊕(List Bool×List LB)):=
 if decide (y.2.2.1 < y.2.1)then
  gX y.1 y.2.2.1 λr6=>
  cZ (wI ((y.2.2.2.2.length:Int) - 1)) <|
  cK (decide (wI ((y.2.2.2.2.length:Int) - 1) < (y.2.2.2.2.length:Int))) <|
  Option.bind (y.2.2.2.2[0+(wI ((y.2.2.2.2.length:Int) - 1)).toNat]?) λr7=>
  cK (decide ((r7.length+r6.2.2.length:Nat)<=9223372036854775807)) <|
  cZ (wI ((y.2.2.2.2.length:Int) - 1)) <|
  cK (decide (wI ((y.2.2.2.2.length:Int) - 1) < (y.2.2.2.2.length:Int))) <|
  Option.bind (y.2.2.2.2[0+(wI ((y.2.2.2.2.length:Int) - 1)).toNat]?) λr8=>
  Option.bind (y.2.2.2.2[0+(wI ((y.2.2.2.2.length:Int) - 1)).toNat]?) λr9=>
  (Ab HO (0,y.1,y.2.1,y.2.2.1,y.2.2.2.1,y.2.2.2.2.set (0+(wI ((y.2.2.2.2.length:Int) - 1)).toNat) ((r7:LB)++r6.2.2),r6.1,r6.2.1,r6.2.2)).bind λv10=>
  some (.inl (v10.1,v10.2.1,wI (v10.2.2.1+1),v10.2.2.2.1,v10.2.2.2.2))
 else
  some (.inr (y.2.2.2.1,y.2.2.2.2))
def LU (x0:List (Int×(Int×LB))):Option ((List Bool×List LB)):=
 (Ab H6 (x0,(x0.length:Int),0,[],[([]:LB)])).bind λv11=>
 some (v11.1,v11.2)
def LP (x0:List (Int×(Int×LB))) (x1 x2:Int) (x3:LB):Option (List (Int×(Int×LB))):=
 if decide (x1=0) && (decide (x2=0) && (((x3:LB) == []) && true))then
  some x0
 else
  Option.bind (α:=U83) (
    if decide (0 < (x0.length:Int))then
     cZ (wI ((x0.length:Int) - 1)) <|
     cK (decide (wI ((x0.length:Int) - 1) < (x0.length:Int))) <|
     Option.bind (x0[0+(wI ((x0.length:Int) - 1)).toNat]?) λr1=>
     Option.bind (x0[0+(wI ((x0.length:Int) - 1)).toNat]?) λr2=>
     Option.bind (x0[0+(wI ((x0.length:Int) - 1)).toNat]?) λr3=>
     (G7 r1.1 r2.2.1 r3.2.2).bind λc4=>
     (G7 x1 x2 x3).bind λc5=>
     some (x0,(x0.length:Int),decide (c4=c5),x1,x2,x3)
    else
    some (x0,(x0.length:Int),false,x1,x2,x3)) λv6=>
  if v6.2.2.1 then
   cZ (wI (v6.2.1 - 1)) <|
   cK (decide (wI (v6.2.1 - 1) < (v6.1.length:Int))) <|
   Option.bind (v6.1[0+(wI (v6.2.1 - 1)).toNat]?) λr7=>
   cZ (wI (v6.2.1 - 1)) <|
   cK (decide (wI (v6.2.1 - 1) < (v6.1.length:Int))) <|
   Option.bind (v6.1[0+(wI (v6.2.1 - 1)).toNat]?) λr8=>
   cZ (wI (v6.2.1 - 1)) <|
   cK (decide (wI (v6.2.1 - 1) < (v6.1.length:Int))) <|
   Option.bind (v6.1[0+(wI (v6.2.1 - 1)).toNat]?) λr9=>
   cK (decide ((r9.2.2.length+v6.2.2.2.2.2.length:Nat)<=9223372036854775807)) <|
   cZ (wI (v6.2.1 - 1)) <|
   cK (decide (wI (v6.2.1 - 1) < (v6.1.length:Int))) <|
   Option.bind (v6.1[0+(wI (v6.2.1 - 1)).toNat]?) λr10=>
   Option.bind (v6.1[0+(wI (v6.2.1 - 1)).toNat]?) λr11=>
   Option.bind ((v6.1.set (0+(wI (v6.2.1 - 1)).toNat) (wI (r7.1+v6.2.2.2.1),r11.2))[0+(wI (v6.2.1 - 1)).toNat]?) λr12=>
   Option.bind ((v6.1.set (0+(wI (v6.2.1 - 1)).toNat) (wI (r7.1+v6.2.2.2.1),r11.2))[0+(wI (v6.2.1 - 1)).toNat]?) λr13=>
   Option.bind (((v6.1.set (0+(wI (v6.2.1 - 1)).toNat) (wI (r7.1+v6.2.2.2.1),r11.2)).set (0+(wI (v6.2.1 - 1)).toNat) (r13.1,(wI (r8.2.1+v6.2.2.2.2.1),r13.2.2)))[0+(wI (v6.2.1 - 1)).toNat]?) λr14=>
   Option.bind (((v6.1.set (0+(wI (v6.2.1 - 1)).toNat) (wI (r7.1+v6.2.2.2.1),r11.2)).set (0+(wI (v6.2.1 - 1)).toNat) (r13.1,(wI (r8.2.1+v6.2.2.2.2.1),r13.2.2)))[0+(wI (v6.2.1 - 1)).toNat]?) λr15=>
   some (((v6.1.set (0+(wI (v6.2.1 - 1)).toNat) (wI (r7.1+v6.2.2.2.1),r11.2)).set (0+(wI (v6.2.1 - 1)).toNat) (r13.1,(wI (r8.2.1+v6.2.2.2.2.1),r13.2.2))).set (0+(wI (v6.2.1 - 1)).toNat) (r15.1,(r15.2.1,(r9.2.2:LB)++v6.2.2.2.2.2)))
  else
  cK (Aa (v6.1.length+([(v6.2.2.2.1,(v6.2.2.2.2.1,v6.2.2.2.2.2))]:List (Int×(Int×LB))).length) 32) <|
  some (v6.1++([(v6.2.2.2.1,(v6.2.2.2.2.1,v6.2.2.2.2.2))]:List (Int×(Int×LB))))
def QU (y:U93):Option (U93⊕(List (Int×(Int×LB)))):=
 if decide (y.2.2.2.1 < y.2.2.1)then
  gX y.2.1 y.2.2.2.1 λr8=>
  (LP y.1 0 0 r8).bind λc9=>
  Option.bind (α:=U93) (
   if decide (y.2.2.2.1 < (y.2.2.2.2.1.length:Int))then
    gX y.2.2.2.2.1 y.2.2.2.1 λr10=>
    Option.bind (α:=U93) (
     if r10 then
      (LP c9 1 0 []).bind λc11=>
      some (c11,y.2.1,y.2.2.1,y.2.2.2.1,y.2.2.2.2.1,y.2.2.2.2.2)
     else
      (LP c9 0 1 []).bind λc12=>
      some (c12,y.2.1,y.2.2.1,y.2.2.2.1,y.2.2.2.2.1,y.2.2.2.2.2)) λv13=>
    some (v13.1,v13.2.1,v13.2.2.1,v13.2.2.2.1,v13.2.2.2.2.1,v13.2.2.2.2.2)
   else
    some (c9,y.2.1,y.2.2.1,y.2.2.2.1,y.2.2.2.2.1,y.2.2.2.2.2)) λv14=>
  some (.inl (v14.1,v14.2.1,v14.2.2.1,wI (v14.2.2.2.1+1),v14.2.2.2.2.1,v14.2.2.2.2.2))
 else
  some (.inr y.1)
def Nd (x0:List Bool) (x1:List LB):Option (List (Int×(Int×LB))):=
 (Ab QU ([],x1,(x1.length:Int),0,x0,x1)).bind λv15=>
 some v15
def Ft (y:Ago):Option (Ago⊕AlF):=
 if decide (y.2.2.2.1 < (y.2.2.1.length:Int))then
  cZ y.1 <|
  cK (decide (y.1 < (y.2.2.2.2.2.2.2.2.1.length:Int))) <|
  Option.bind (y.2.2.2.2.2.2.2.2.1[0+y.1.toNat]?) λr26=>
  Option.bind (α:=Ago) (
   if r26 then
    cZ y.2.1 <|
    cK (decide (y.2.1 < (y.2.2.2.2.2.2.2.2.2.2.2.length:Int))) <|
    Option.bind (y.2.2.2.2.2.2.2.2.2.2.2[0+y.2.1.toNat]?) λr27=>
    sX y.2.2.2.1 (wI (y.2.2.2.1+1)) (y.2.2.1.length:Int) (y.2.2.1.length) <|
    cK (decide ((r27.length+(((y.2.2.1:LB).drop (y.2.2.2.1.toNat)).take ((wI (y.2.2.2.1+1)).toNat - y.2.2.2.1.toNat)).length:Nat)<=9223372036854775807)) <|
    cZ y.2.1 <|
    cK (decide (y.2.1 < (y.2.2.2.2.2.2.2.2.2.2.2.length:Int))) <|
    Option.bind (y.2.2.2.2.2.2.2.2.2.2.2[0+y.2.1.toNat]?) λr28=>
    Option.bind (y.2.2.2.2.2.2.2.2.2.2.2[0+y.2.1.toNat]?) λr29=>
    some (y.1,y.2.1,y.2.2.1,y.2.2.2.1,y.2.2.2.2.1,y.2.2.2.2.2.1,y.2.2.2.2.2.2.1,y.2.2.2.2.2.2.2.1,y.2.2.2.2.2.2.2.2.1,y.2.2.2.2.2.2.2.2.2.1,y.2.2.2.2.2.2.2.2.2.2.1,y.2.2.2.2.2.2.2.2.2.2.2.set (0+y.2.1.toNat) ((r27:LB)++(((y.2.2.1:LB).drop (y.2.2.2.1.toNat)).take ((wI (y.2.2.2.1+1)).toNat - y.2.2.2.1.toNat))))
   else
    some (y.1,y.2.1,y.2.2.1,y.2.2.2.1,y.2.2.2.2.1,y.2.2.2.2.2.1,y.2.2.2.2.2.2.1,y.2.2.2.2.2.2.2.1,y.2.2.2.2.2.2.2.2.1,y.2.2.2.2.2.2.2.2.2.1,y.2.2.2.2.2.2.2.2.2.2.1,y.2.2.2.2.2.2.2.2.2.2.2)) λv30=>
  cZ v30.2.1 <|
  cK (decide (v30.2.1 < (v30.2.2.2.2.2.2.2.2.2.2.2.length:Int))) <|
  Option.bind (v30.2.2.2.2.2.2.2.2.2.2.2[0+v30.2.1.toNat]?) λr31=>
  cZ (wI (v30.1+1)) <|
  cK (decide (wI (v30.1+1) < (v30.2.2.2.2.2.2.2.2.2.1.length:Int))) <|
  Option.bind (v30.2.2.2.2.2.2.2.2.2.1[0+(wI (v30.1+1)).toNat]?) λr32=>
  cK (decide ((r31.length+r32.length:Nat)<=9223372036854775807)) <|
  cZ v30.2.1 <|
  cK (decide (v30.2.1 < (v30.2.2.2.2.2.2.2.2.2.2.2.length:Int))) <|
  Option.bind (v30.2.2.2.2.2.2.2.2.2.2.2[0+v30.2.1.toNat]?) λr33=>
  Option.bind (v30.2.2.2.2.2.2.2.2.2.2.2[0+v30.2.1.toNat]?) λr34=>
  some (.inl (wI (v30.1+1),v30.2.1,v30.2.2.1,wI (v30.2.2.2.1+1),v30.2.2.2.2.1,v30.2.2.2.2.2.1,v30.2.2.2.2.2.2.1,v30.2.2.2.2.2.2.2.1,v30.2.2.2.2.2.2.2.2.1,v30.2.2.2.2.2.2.2.2.2.1,v30.2.2.2.2.2.2.2.2.2.2.1,v30.2.2.2.2.2.2.2.2.2.2.2.set (0+v30.2.1.toNat) ((r31:LB)++r32)))
 else
  some (.inr (y.1,y.2.1,y.2.2.2.2.1,y.2.2.2.2.2.1,y.2.2.2.2.2.2.1,y.2.2.2.2.2.2.2.1,y.2.2.2.2.2.2.2.2.1,y.2.2.2.2.2.2.2.2.2.1,y.2.2.2.2.2.2.2.2.2.2.1,y.2.2.2.2.2.2.2.2.2.2.2))
def JG (y:Z4):Option (Z4⊕(List Bool×List LB)):=
 if decide (y.2.2.2.1 < y.2.2.1)then
  Option.bind (α:=Z4⊕(List Bool×List LB)) (
    cZ y.2.2.2.1 <|
    cK (decide (y.2.2.2.1 < (y.2.1.length:Int))) <|
    Option.bind (y.2.1[0+y.2.2.2.1.toNat]?) λr25=>
    (Ab Ft (y.1,y.2.2.2.1,r25,0,y.2.1,y.2.2.1,y.2.2.2.1,y.2.2.2.2.1,y.2.2.2.2.2.1,y.2.2.2.2.2.2.1,y.2.2.2.2.2.2.2.1,y.2.2.2.2.2.2.2.2)).bind λv35=>
    if decide (v35.2.1=(v35.2.2.2.2.2.1.length:Int))then
     some (.inr (v35.2.2.2.2.2.2.2.2.1,v35.2.2.2.2.2.2.2.2.2))
    else
    cZ v35.2.1 <|
    cK (decide (v35.2.1 < (v35.2.2.2.2.2.1.length:Int))) <|
    Option.bind (v35.2.2.2.2.2.1[0+v35.2.1.toNat]?) λr36=>
    if(!r36)then
     cK (Aa (v35.2.2.2.2.2.2.2.2.1.length+([false]:List Bool).length) 1) <|
     some (.inl (v35.1,v35.2.2.1,v35.2.2.2.1,v35.2.2.2.2.1,v35.2.2.2.2.2.1,v35.2.2.2.2.2.2.1,v35.2.2.2.2.2.2.2.1,v35.2.2.2.2.2.2.2.2.1++([false]:List Bool),v35.2.2.2.2.2.2.2.2.2))
    else
    cZ v35.1 <|
    cK (decide (v35.1 < (v35.2.2.2.2.2.2.1.length:Int))) <|
    Option.bind (v35.2.2.2.2.2.2.1[0+v35.1.toNat]?) λr37=>
    cK (Aa (v35.2.2.2.2.2.2.2.2.1.length+([r37]:List Bool).length) 1) <|
    cZ (wI (v35.1+1)) <|
    cK (decide (wI (v35.1+1) < (v35.2.2.2.2.2.2.2.1.length:Int))) <|
    Option.bind (v35.2.2.2.2.2.2.2.1[0+(wI (v35.1+1)).toNat]?) λr38=>
    cZ (wI (v35.2.1+1)) <|
    cK (decide (wI (v35.2.1+1) < (v35.2.2.2.2.2.2.2.2.2.length:Int))) <|
    Option.bind (v35.2.2.2.2.2.2.2.2.2[0+(wI (v35.2.1+1)).toNat]?) λr39=>
    Option.bind (v35.2.2.2.2.2.2.2.2.2[0+(wI (v35.2.1+1)).toNat]?) λr40=>
    some (.inl (wI (v35.1+1),v35.2.2.1,v35.2.2.2.1,v35.2.2.2.2.1,v35.2.2.2.2.2.1,v35.2.2.2.2.2.2.1,v35.2.2.2.2.2.2.2.1,v35.2.2.2.2.2.2.2.2.1++([r37]:List Bool),v35.2.2.2.2.2.2.2.2.2.set (0+(wI (v35.2.1+1)).toNat) r38))) λv41=>
  match v41 with
  | .inl y42=>
   some (.inl (y42.1,y42.2.1,y42.2.2.1,wI (y42.2.2.2.1+1),y42.2.2.2.2.1,y42.2.2.2.2.2.1,y42.2.2.2.2.2.2.1,y42.2.2.2.2.2.2.2.1,y42.2.2.2.2.2.2.2.2))
  | .inr s43=>
   some (.inr (s43.1,s43.2))
 else
  some (.inr (y.2.2.2.2.2.2.2.1,y.2.2.2.2.2.2.2.2))
def Kj (x0 x1:List (Int×(Int×LB))):Option (List (Int×(Int×LB))):=
 (LU x0).bind λc1=>
 (LU x1).bind λc2=>
 cZ (c1.2.length:Int) <|
 cK (decide ((c1.2.length:Int)<=(c1.2.length:Int))) <|
 cK (Aa ((c1.2.length:Int).toNat) 16) <|
 cZ 0 <|
 cK (decide (0 < (c2.2.length:Int))) <|
 Option.bind (c2.2[0+Int.toNat 0]?) λr3=>
 cZ 0 <|
 cK (decide (0 < ((List.replicate ((c1.2.length:Int).toNat) ([]:LB)).length:Int))) <|
 Option.bind ((List.replicate ((c1.2.length:Int).toNat) ([]:LB))[0+Int.toNat 0]?) λr4=>
 Option.bind ((List.replicate ((c1.2.length:Int).toNat) ([]:LB))[0+Int.toNat 0]?) λr5=>
 (Ab JG (0,c1.2,(c1.2.length:Int),0,c1.1,c2.1,c2.2,[],(List.replicate ((c1.2.length:Int).toNat) ([]:LB)).set (0+Int.toNat 0) r3)).bind λv44=>
 Option.bind (α:=List (Int×(Int×LB))) (
  (Nd v44.1 v44.2).bind λc45=>
  some c45) λv46=>
 some v46
def H0 (y:Ag8):Option (Ag8⊕U0):=match y with
 | (a,b,c,d,e,f,g,h)=>
 if decide (d < c)then
  Option.bind (α:=Ag8) (
   cZ d <|
   cK (decide (d < (b.length:Int))) <|
   Option.bind (b[0+d.toNat]?) λr3=>
   Option.bind (b[0+d.toNat]?) λr4=>
   if decide (r3.1=0)then
    gX h (wI (r4.2 - e)) λr5=>
    cZ r4.2 <|
    cK (decide (r4.2 < (a.length:Int))) <|
    Option.bind (a[0+r4.2.toNat]?) λr6=>
    Option.bind (a[0+r4.2.toNat]?) λr7=>
    some (a.set (0+r4.2.toNat) r5,b,c,d,e,f,g,h)
   else
    (Gk r3.1 r4.2).bind λc8=>
    cZ (wI ((wI (64 * (wI (r3.1 - 1))))+(wI (2 * r4.2)))) <|
    cK (decide (wI ((wI (64 * (wI (r3.1 - 1))))+(wI (2 * r4.2))) < (a.length:Int))) <|
    Option.bind (a[0+(wI ((wI (64 * (wI (r3.1 - 1))))+(wI (2 * r4.2)))).toNat]?) λr9=>
    cZ (wI ((wI ((wI (64 * (wI (r3.1 - 1))))+(wI (2 * r4.2))))+1)) <|
    cK (decide (wI ((wI ((wI (64 * (wI (r3.1 - 1))))+(wI (2 * r4.2))))+1) < (a.length:Int))) <|
    Option.bind (a[0+(wI ((wI ((wI (64 * (wI (r3.1 - 1))))+(wI (2 * r4.2))))+1)).toNat]?) λr10=>
    (Kj r9 r10).bind λc11=>
    cZ c8 <|
    cK (decide (c8 < (a.length:Int))) <|
    Option.bind (a[0+c8.toNat]?) λr12=>
    Option.bind (a[0+c8.toNat]?) λr13=>
    some (a.set (0+c8.toNat) c11,b,c,d,e,f,g,h)) λ(i,j,k,l,m,n,o,p)=>
  some (.inl (i,j,k,wI (l+1),m,n,o,p))
 else
  some (.inr a)
def OG (x0:Int) (x1:LB) (x2:List (Int×Int)) (x3:List (List (Int×(Int×LB)))):Option U0:=
 cZ 384 <|
 cK (decide ((384:Int)<=384)) <|
 cK (Aa (Int.toNat 384) 24) <|
 (KQ x0 x1 x2 x3).bind λc1=>
 (LJ x0 c1).bind λc2=>
 (Ab H0 (List.replicate (Int.toNat 384) ([]:List (Int×(Int×LB))),c2,(c2.length:Int),0,x0,x1,x2,x3)).bind λv15=>
 some v15
def Ha (y:U41):Option (U41⊕LI):=
 if decide (y.2.2.2 < y.2.2.1)then
  gX y.2.1 y.2.2.2 λr3=>
  (G7 r3.1 r3.2.1 r3.2.2).bind λc4=>
  cK (Aa (y.1.length+([IntKind.wrap .u8 c4,wB (wI ((wI (r3.1+r3.2.1))+(r3.2.2.length:Int)))]:LI).length) 1) <|
  cK (Aa ((y.1++([IntKind.wrap .u8 c4,wB (wI ((wI (r3.1+r3.2.1))+(r3.2.2.length:Int)))]:LI)).length+(Ar r3.2.2).length) 1) <|
  some (.inl ((y.1++([IntKind.wrap .u8 c4,wB (wI ((wI (r3.1+r3.2.1))+(r3.2.2.length:Int)))]:LI))++(Ar r3.2.2),y.2.1,y.2.2.1,wI (y.2.2.2+1)))
 else
  some (.inr y.1)
def Kt (x0:List (Int×(Int×LB))):Option LI:=
 (Ab Ha ([],x0,(x0.length:Int),0)).bind λv5=>
 some v5
def Ms (y:U88):Option (U88⊕LB):=
 if decide (y.2.2.2.2.2 < y.2.2.2.2.1)then
  gX y.2.2.2.1 y.2.2.2.2.2 λr4=>
  sX y.2.2.1 (wI (y.2.2.1+r4.1)) (y.1.length:Int) (y.1.length) <|
  cK (decide (((((y.1:LB).drop (y.2.2.1.toNat)).take ((wI (y.2.2.1+r4.1)).toNat - y.2.2.1.toNat)).length+r4.2.2.length:Nat)<=9223372036854775807)) <|
  cK (decide ((y.2.1.length+((((y.1:LB).drop (y.2.2.1.toNat)).take ((wI (y.2.2.1+r4.1)).toNat - y.2.2.1.toNat):LB)++r4.2.2).length:Nat)<=9223372036854775807)) <|
  some (.inl (y.1,(y.2.1:LB)++((((y.1:LB).drop (y.2.2.1.toNat)).take ((wI (y.2.2.1+r4.1)).toNat - y.2.2.1.toNat):LB)++r4.2.2),wI (y.2.2.1+(wI (r4.1+r4.2.1))),y.2.2.2.1,y.2.2.2.2.1,wI (y.2.2.2.2.2+1)))
 else
  some (.inr y.2.1)
def Iq (x0:LB) (x1:List (Int×(Int×LB))):Option ((LB×Bool)):=
 Option.bind (α:=U18) (
   (Fj x1).bind λc1=>
   if(!c1)then
    some (x0,x1,true)
   else
    (Jz x1).bind λc2=>
    some (x0,x1,decide (¬ c2=(x0.length:Int)))) λv3=>
 if v3.2.2 then
  some (([]:LB),false)
 else
  (Ab Ms (v3.1,([]:LB),0,v3.2.1,(v3.2.1.length:Int),0)).bind λv5=>
  some (v5,true)
def GA (y:U46):Option (U46⊕LB):=
 if decide (y.2.2.2 < y.2.2.1)then
  gX y.2.1 y.2.2.2 λr1=>
  (Iq y.1 r1).bind λc2=>
  some (.inl (c2.1,y.2.1,y.2.2.1,wI (y.2.2.2+1)))
 else
  some (.inr y.1)
def Ku (x0:Int) (x1:LB) (x2:List (Int×Int)) (x3:List (List (Int×(Int×LB)))) (x4:Int):Option LB:=
 sX 0 (wI (x4 - x0)) (x3.length:Int) (x3.length) <|
 (Ab GA (x1,(List.drop (Int.toNat 0) x3).take ((wI (x4 - x0)).toNat - Int.toNat 0),(((List.drop (Int.toNat 0) x3).take ((wI (x4 - x0)).toNat - Int.toNat 0)).length:Int),0)).bind λv3=>
 some v3
def Cw (y:Vd):Option (Vd⊕Me):=match y with
 | (a,b,c,d,e,f,g,h,i,j,k)=>
 if decide (c < b)then
  gX a c λr1=>
  (Gt i r1).bind λc2=>
  Option.bind (α:=AlH) (
   if c2 then
    some (r1,a,b,c,d,e,f,g,h,i,j,false)
   else
    some (r1,a,b,c,d,e,f,g,h,i,j,k)) λ(l,m,n,o,p,q,r,s,t,u,v,w)=>
  (Dd u l).bind λc4=>
  some (.inl (m,n,wI (o+1),p,q,r,s,t,c4,v,w))
 else
  some (.inr (d,e,f,g,h,i,j,k))
def DV (x0:LI) (x1:LL) (x2 x3 x4 x5 x6 x7:LI) (x8:Bool):Option Me:=
 (Ab Cw (x0,(x0.length:Int),0,x1,x2,x3,x4,x5,x6,x7,x8)).bind λ(a,b,c,d,e,f,g,h)=>
 some (a,b,c,d,e,f,g,h)
def Ce (y:Vd):Option (Vd⊕AcR):=match y with
 | (a,b,c,d,e,f,g,h,i,j,k)=>
 if decide (c < b)then
  cZ c <|
  cK (decide (c < (a.length:Int))) <|
  Option.bind (a[0+c.toNat]?) λr1=>
  (Gt i r1).bind λc2=>
  Option.bind (α:=Ak0) (
   if c2 then
    some (a,r1,b,c,d,e,f,g,h,i,j,false)
   else
    some (a,r1,b,c,d,e,f,g,h,i,j,k)) λ(l,m,n,o,p,q,r,s,t,u,v,w)=>
  (Dd u m).bind λc4=>
  some (.inl (l,n,wI (o+1),p,q,r,s,t,c4,v,w))
 else
  some (.inr (a,d,e,f,g,h,i,j,k))
def B1 (x0:LI) (x1:LL) (x2 x3 x4 x5 x6 x7:LI) (x8:Bool):Option AcR:=
 (Ab Ce (x0,(x0.length:Int),0,x1,x2,x3,x4,x5,x6,x7,x8)).bind λ(a,b,c,d,e,f,g,h,i)=>
 some (a,b,c,d,e,f,g,h,i)
def CH (y:Ai8):Option (Ai8⊕Ajr):=match y with
 | (a,b,c,d,e,f,g,h,i,j,k,l)=>
 if decide (d < c)then
  gX b d λr4=>
  cZ r4 <|
  cK (decide (r4 < (k.length:Int))) <|
  Option.bind (k[0+r4.toNat]?) λr5=>
  cZ r4 <|
  cK (decide (r4 < (k.length:Int))) <|
  Option.bind (k[0+r4.toNat]?) λr6=>
  Option.bind (k[0+r4.toNat]?) λr7=>
  some (.inl (a,b,c,wI (d+1),e,f,g,h,i,j,k.set (0+r4.toNat) (wI (r5+1)),l))
 else
  some (.inr (a,e,f,g,h,i,j,k,l))
def BK (x0:Int) (x1:LL) (x2 x3 x4 x5 x6 x7:LI) (x8:Bool):Option Ajr:=
 Option.bind (α:=Alz) (
   (Oy x1 x2 x3 x4 x0).bind λ(a,b,c)=>
   some (a,b,c,x1,x2,x3,x4,x5,x6,x7,x8)) λ(d,e,f,g,h,i,j,k,l,m,n)=>
 if(!f)then
  some (([]:LB),g,h,i,j,k,l,m,false)
 else
 sX (wI ((e.length:Int) - 1)) (e.length:Int) (e.length:Int) (e.length) <|
 (DV ((List.drop ((wI ((e.length:Int) - 1)).toNat) e).take ((e.length:Int).toNat - (wI ((e.length:Int) - 1)).toNat)) g h i j k l m n).bind λ(o,p,q,r,s,t,u,v)=>
 sX 0 (wI ((e.length:Int) - 1)) (e.length:Int) (e.length) <|
 (Ab CH (d,(List.drop (Int.toNat 0) e).take ((wI ((e.length:Int) - 1)).toNat - Int.toNat 0),(((List.drop (Int.toNat 0) e).take ((wI ((e.length:Int) - 1)).toNat - Int.toNat 0)).length:Int),0,o,p,q,r,s,t,u,v)).bind λ(w,x,y,z,a0,b0,c0,d0,e0)=>
 some (w,x,y,z,a0,b0,c0,d0,e0)
def Cj (x0:Int) (x1:LL) (x2 x3 x4 x5 x6 x7:LI) (x8:Bool):Option AcR:=
 (La x1 x2 x3 x4 x0).bind λ(a,b,c)=>
 Option.bind (α:=Ak6) (
  if x8 then
   some (a,b,x1,x2,x3,x4,x5,x6,x7,c)
  else
  some (a,b,x1,x2,x3,x4,x5,x6,x7,false)) λ(d,e,f,g,h,i,j,k,l,m)=>
 (B1 e f g h i j k l m).bind λ(_,n,o,p,q,r,s,t,u)=>
 some (d,n,o,p,q,r,s,t,u)
def EY (y:Akf):Option (Akf⊕(Aly⊕AcJ)):=match y with
 | (a,b,c,d,e,f,g,h,i,j,k,l,m,n,o,p,q,r,s,t,u)=>
 if decide (e < d)then
  cZ e <|
  cK (decide (e < (a.length:Int))) <|
  Option.bind (a[0+e.toNat]?) λr13=>
  Option.bind (a[0+e.toNat]?) λr14=>
  cZ e <|
  cK (decide (e < (c.length:Int))) <|
  Option.bind (c[0+e.toNat]?) λr15=>
  if decide (¬ r13.1=r15)then
   some (.inr (.inr (false,0,0,0,0,0,0,[])))
  else
   some (.inl (a,b,c,d,wI (e+1),f,g,h,i,j,k,l,m,n,o,p,q,r,s,t,u))
 else
  some (.inr (.inl (a,b,f,g,h,i,j,k,l,m,n,o,p,q,r,s,t,u)))
def Hd (y:XF):Option (XF⊕Zv):=match y with
 | (a,b,c,d,e,f,g,h,i,j,k,l,m,n,o,p,q,r,s,t,u,v,w,x,z,a0,b0,c0,d0,e0,f0,g0,h0,i0,j0,k0,l0,m0,n0,o0,p0)=>
 Option.bind (α:=Agf) (
   if decide (a < j)then
    some (a,p0,b,c,d,e,f,g,h,i,j,k,l,m,n,o,p,q,r,s,t,u,v,w,x,z,a0,b0,c0,d0,e0,f0,g0,h0,i0,j0,k0,l0,m0,n0,o0,p0)
   else
   some (a,false,b,c,d,e,f,g,h,i,j,k,l,m,n,o,p,q,r,s,t,u,v,w,x,z,a0,b0,c0,d0,e0,f0,g0,h0,i0,j0,k0,l0,m0,n0,o0,p0)) λ(q0,r0,s0,t0,u0,v0,w0,x0,y0,z0,a1,b1,c1,d1,e1,f1,g1,h1,i1,j1,k1,l1,m1,n1,o1,p1,q1,r1,s1,t1,u1,v1,w1,x1,y1,z1,a2,b2,c2,d2,e2,f2)=>
 if r0 then
  (Gk 0 q0).bind λc32=>
  (DS i1 j1 k1 l1 m1 n1 o1 p1 q1 r1 s1 t1 [] [] [] c32).bind λc33=>
  (Cj c33 y1 z1 a2 b2 c2 d2 e2 f2).bind λ(g2,h2,i2,j2,k2,l2,m2,n2,o2)=>
  (I0 g2).bind λc35=>
  Option.bind (α:=AlG) (
    if o2 then
     some (q0,c35.1,s0,t0,u0,v0,w0,x0,y0,z0,a1,b1,c1,d1,e1,f1,g1,h1,i1,j1,k1,l1,m1,n1,o1,p1,q1,r1,s1,t1,u1,v1,w1,x1,h2,i2,j2,k2,l2,m2,n2,c35.2)
    else
    some (q0,c35.1,s0,t0,u0,v0,w0,x0,y0,z0,a1,b1,c1,d1,e1,f1,g1,h1,i1,j1,k1,l1,m1,n1,o1,p1,q1,r1,s1,t1,u1,v1,w1,x1,h2,i2,j2,k2,l2,m2,n2,false)) λ(p2,q2,r2,s2,t2,u2,v2,w2,x2,y2,z2,a3,b3,c3,d3,e3,f3,g3,h3,i3,j3,k3,l3,m3,n3,o3,p3,q3,r3,s3,t3,u3,v3,w3,x3,y3,z3,a4,b4,c4,d4,e4)=>
  cK (Aa (w3.length+([q2]:List (List (Int×(Int×LB)))).length) 24) <|
  some (.inl (wI (p2+1),r2,s2,t2,u2,v2,w2,x2,y2,z2,a3,b3,c3,d3,e3,f3,g3,h3,i3,j3,k3,l3,m3,n3,o3,p3,q3,r3,s3,t3,u3,v3,w3++([q2]:List (List (Int×(Int×LB)))),x3,y3,z3,a4,b4,c4,d4,e4))
 else
  some (.inr (s0,t0,u0,v0,w0,x0,y0,z0,a1,b1,c1,d1,e1,f1,g1,h1,i1,j1,k1,l1,m1,n1,o1,p1,q1,r1,s1,t1,u1,v1,w1,x1,y1,z1,a2,b2,c2,d2,e2,f2))
def Fg (y:AjR):Option (AjR⊕(Zv⊕AcJ)):=match y with
 | (a,b,c,d,e,f,g,h,i,j,k,l,m,n,o,p,q,r,s,t,u,v,w,x,z,a0,b0,c0,d0,e0,f0,g0,h0,i0,j0,k0,l0,m0,n0,o0,p0,q0,r0,s0)=>
 if decide (d < c)then
  cZ d <|
  cK (decide (d < (b.length:Int))) <|
  Option.bind (b[0+d.toNat]?) λr42=>
  Option.bind (b[0+d.toNat]?) λr43=>
  Option.bind (α:=AlD) (
    if decide (0 < r42.1)then
     (Gk r42.1 r43.2).bind λc44=>
     (DS u v w x z a0 b0 c0 d0 e0 f0 g0 [] [] [] c44).bind λc45=>
     (Cj c45 l0 m0 n0 o0 p0 q0 r0 s0).bind λ(t0,u0,v0,w0,x0,y0,z0,a1,b1)=>
     (Gk r42.1 r43.2).bind λc47=>
     cZ c47 <|
     cK (decide (c47 < (a.length:Int))) <|
     Option.bind (a[0+c47.toNat]?) λr48=>
     (Kt r48).bind λc49=>
     some (a,b,c,d,(!((AJ t0:LB) == (AJ c49))),e,f,g,h,i,j,k,l,m,n,o,p,q,r,s,t,u,v,w,x,z,a0,b0,c0,d0,e0,f0,g0,h0,i0,j0,k0,u0,v0,w0,x0,y0,z0,a1,b1)
    else
    some (a,b,c,d,false,e,f,g,h,i,j,k,l,m,n,o,p,q,r,s,t,u,v,w,x,z,a0,b0,c0,d0,e0,f0,g0,h0,i0,j0,k0,l0,m0,n0,o0,p0,q0,r0,s0)) λ(c1,d1,e1,f1,g1,h1,i1,j1,k1,l1,m1,n1,o1,p1,q1,r1,s1,t1,u1,v1,w1,x1,y1,z1,a2,b2,c2,d2,e2,f2,g2,h2,i2,j2,k2,l2,m2,n2,o2,p2,q2,r2,s2,t2,u2)=>
  if g1 then
   some (.inr (.inr (false,0,0,0,0,0,0,[])))
  else
   some (.inl (c1,d1,e1,wI (f1+1),h1,i1,j1,k1,l1,m1,n1,o1,p1,q1,r1,s1,t1,u1,v1,w1,x1,y1,z1,a2,b2,c2,d2,e2,f2,g2,h2,i2,j2,k2,l2,m2,n2,o2,p2,q2,r2,s2,t2,u2))
 else
  some (.inr (.inl (e,f,g,h,i,j,k,l,m,n,o,p,q,r,s,t,u,v,w,x,z,a0,b0,c0,d0,e0,f0,g0,h0,i0,j0,k0,l0,m0,n0,o0,p0,q0,r0,s0)))
def E2 (y:XF):Option (XF⊕(AlN⊕AcJ)):=match y with
 | (a,b,c,d,e,f,g,h,i,j,k,l,m,n,o,p,q,r,s,t,u,v,w,x,z,a0,b0,c0,d0,e0,f0,g0,h0,i0,j0,k0,l0,m0,n0,o0,p0)=>
 if decide (a<=j)then
  Option.bind (α:=Agf) (
    cK (decide (¬ k=0)) <|
    if decide (Int.tmod a k=0)then
     (DS r s t u v w x z a0 b0 c0 d0 [] [] [] (wI (384+a))).bind λc54=>
     (BK c54 i0 j0 k0 l0 m0 n0 o0 p0).bind λ(q0,r0,s0,t0,u0,v0,w0,x0,y0)=>
     (Ku e0 f0 g0 h0 a).bind λc56=>
     some (a,(!((q0:LB) == c56)),b,c,d,e,f,g,h,i,j,k,l,m,n,o,p,q,r,s,t,u,v,w,x,z,a0,b0,c0,d0,e0,f0,g0,h0,r0,s0,t0,u0,v0,w0,x0,y0)
    else
    some (a,false,b,c,d,e,f,g,h,i,j,k,l,m,n,o,p,q,r,s,t,u,v,w,x,z,a0,b0,c0,d0,e0,f0,g0,h0,i0,j0,k0,l0,m0,n0,o0,p0)) λ(z0,a1,b1,c1,d1,e1,f1,g1,h1,i1,j1,k1,l1,m1,n1,o1,p1,q1,r1,s1,t1,u1,v1,w1,x1,y1,z1,a2,b2,c2,d2,e2,f2,g2,h2,i2,j2,k2,l2,m2,n2,o2)=>
  if a1 then
   some (.inr (.inr (false,0,0,0,0,0,0,[])))
  else
   some (.inl (wI (z0+1),b1,c1,d1,e1,f1,g1,h1,i1,j1,k1,l1,m1,n1,o1,p1,q1,r1,s1,t1,u1,v1,w1,x1,y1,z1,a2,b2,c2,d2,e2,f2,g2,h2,i2,j2,k2,l2,m2,n2,o2))
 else
  some (.inr (.inl (b,c,d,e,f,g,h,n,o,p,q,r,s,t,u,v,w,x,z,a0,b0,c0,d0,e0,f0,g0,h0,i0,j0,k0,l0,m0,n0,o0,p0)))
def Fu (y:Ahj):Option (Ahj⊕(Ak5⊕AcJ)):=match y with
 | (a,b,c,d,e,f,g,h,i,j,k,l,m,n,o,p,q,r,s,t,u,v,w,x,z,a0,b0,c0,d0,e0,f0,g0,h0,i0,j0,k0,l0)=>
 if decide (c < b)then
  cZ c <|
  cK (decide (c < (a.length:Int))) <|
  Option.bind (a[0+c.toNat]?) λr61=>
  Option.bind (α:=Alk) (
    if decide (0 < r61)then
     (Gt k0 c).bind λc62=>
     if c62 then
      some (c,r61,a,b,c,true,d,e,f,g,h,i,j,k,l,m,n,o,p,q,r,s,t,u,v,w,x,z,a0,b0,c0,d0,e0,f0,g0,h0,i0,j0,k0,l0)
     else
     gX k c λr63=>
     gX r63 1 λr64=>
     some (c,r61,a,b,c,decide (¬ IntKind.wrap .i64 r64=r61),d,e,f,g,h,i,j,k,l,m,n,o,p,q,r,s,t,u,v,w,x,z,a0,b0,c0,d0,e0,f0,g0,h0,i0,j0,k0,l0)
    else
    some (c,r61,a,b,c,false,d,e,f,g,h,i,j,k,l,m,n,o,p,q,r,s,t,u,v,w,x,z,a0,b0,c0,d0,e0,f0,g0,h0,i0,j0,k0,l0)) λ(m0,n0,o0,p0,q0,r0,s0,t0,u0,v0,w0,x0,y0,z0,a1,b1,c1,d1,e1,f1,g1,h1,i1,j1,k1,l1,m1,n1,o1,p1,q1,r1,s1,t1,u1,v1,w1,x1,y1,z1)=>
  if r0 then
   some (.inr (.inr (false,0,0,0,0,0,0,[])))
  else
   Option.bind (α:=Alf) (
     if decide (0 < n0)then
      (Dd y1 m0).bind λc66=>
      some (m0,o0,p0,q0,s0,t0,u0,v0,w0,x0,y0,z0,a1,b1,c1,d1,e1,f1,g1,h1,i1,j1,k1,l1,m1,n1,o1,p1,q1,r1,s1,t1,u1,v1,w1,x1,c66,z1)
     else
      some (m0,o0,p0,q0,s0,t0,u0,v0,w0,x0,y0,z0,a1,b1,c1,d1,e1,f1,g1,h1,i1,j1,k1,l1,m1,n1,o1,p1,q1,r1,s1,t1,u1,v1,w1,x1,y1,z1)) λ(a2,b2,c2,d2,e2,f2,g2,h2,i2,j2,k2,l2,m2,n2,o2,p2,q2,r2,s2,t2,u2,v2,w2,x2,y2,z2,a3,b3,c3,d3,e3,f3,g3,h3,i3,j3,k3,l3)=>
   Option.bind (α:=Ajv) (
     if decide (33<=a2)then
      (GM m2 a2).bind λc68=>
      (Gt k3 a2).bind λc69=>
      some (b2,c2,d2,(c68 != c69),e2,f2,g2,h2,i2,j2,k2,l2,m2,n2,o2,p2,q2,r2,s2,t2,u2,v2,w2,x2,y2,z2,a3,b3,c3,d3,e3,f3,g3,h3,i3,j3,k3,l3)
     else
     some (b2,c2,d2,false,e2,f2,g2,h2,i2,j2,k2,l2,m2,n2,o2,p2,q2,r2,s2,t2,u2,v2,w2,x2,y2,z2,a3,b3,c3,d3,e3,f3,g3,h3,i3,j3,k3,l3)) λ(m3,n3,o3,p3,q3,r3,s3,t3,u3,v3,w3,x3,y3,z3,a4,b4,c4,d4,e4,f4,g4,h4,i4,j4,k4,l4,m4,n4,o4,p4,q4,r4,s4,t4,u4,v4,w4,x4)=>
   if p3 then
    some (.inr (.inr (false,0,0,0,0,0,0,[])))
   else
    some (.inl (m3,n3,wI (o3+1),q3,r3,s3,t3,u3,v3,w3,x3,y3,z3,a4,b4,c4,d4,e4,f4,g4,h4,i4,j4,k4,l4,m4,n4,o4,p4,q4,r4,s4,t4,u4,v4,w4,x4))
 else
  some (.inr (.inl (d,e,f,g,h,i,j,o,p,q,r,s,t,u,v,w,x,z,a0,b0,c0,d0,e0,f0,g0,h0,i0,j0,k0,a,l0)))
def DD (x0:LL) (x1:Int) (x2:Bool) (x3:Int):Option Alp:=
 Option.bind (α:=Alv) (
   (Jt x0 x1 x2 x3).bind λc1=>
   if(!c1)then
    some (true,x0,x1,x2,x3,0,0,0,0,0,0,[])
   else
    (Kk x0 x1 x2 x3).bind λc2=>
    some (decide (0 < (c2.length:Int)),x0,x1,x2,x3,0,0,0,0,0,0,[])) λ(a,b,c,d,e,f,g,h,i,j,k,l)=>
 if a then
  some (false,0,0,0,0,0,[],[],[],[],[],0,[],[],[],[])
 else
 gX b 0 λr4=>
 (M2 r4).bind λ(m,n,o,p,q,r)=>
 Option.bind (α:=Alj) (
   (Ka b c d e).bind λ(s,t,u)=>
   some (m,s,f,g,h,i,j,k,l,n,o,p,q,r,t,u,[],[])) λ(v,w,x,y,z,a0,b0,c0,d0,e0,f0,g0,h0,i0,j0,k0,l0,m0)=>
 Option.bind (α:=Akb) (
   if(!v)then
    some (true,x,y,z,a0,b0,c0,d0,e0,f0,g0,h0,i0,j0,k0,l0,m0)
   else
   if(!w)then
    some (true,x,y,z,a0,b0,c0,d0,e0,f0,g0,h0,i0,j0,k0,l0,m0)
   else
    (Hs j0 k0 l0 m0 h0).bind λc8=>
    some ((!c8),x,y,z,a0,b0,c0,d0,e0,f0,g0,h0,i0,j0,k0,l0,m0)) λ(n0,o0,p0,q0,r0,s0,t0,u0,v0,w0,y0,z0,a1,b1,d1,e1,f1)=>
 if n0 then
  some (false,0,0,0,0,0,[],[],[],[],[],0,[],[],[],[])
 else
  (OW b1 d1 e1 f1 z0).bind λc10=>
  (MR b1 d1 e1 f1 z0).bind λc11=>
  (Kh v0 w0 y0).bind λc12=>
  if decide (¬ (c10.1.length:Int)=(c12.length:Int))then
   some (false,0,0,0,0,0,[],[],[],[],[],0,[],[],[],[])
  else
   (Ab EY (c10.1,c11.1,c12,(c10.1.length:Int),0,o0,p0,q0,r0,s0,t0,u0,v0,w0,y0,z0,a1,b1,d1,e1,f1)).bind λv16=>
   match v16 with
   | .inl (g1,h1,i1,j1,k1,l1,m1,n1,o1,p1,q1,r1,s1,t1,u1,v1,w1,y1)=>
    cZ (u1.length:Int) <|
    cK (decide ((u1.length:Int)<=(u1.length:Int))) <|
    cK (Aa ((u1.length:Int).toNat) 8) <|
    (B1 h1 u1 v1 w1 y1 [] [] (List.replicate ((u1.length:Int).toNat) (0:Int)) true).bind λ(_,z1,a2,b2,d2,e2,f2,g2,h2)=>
    (BK t1 z1 a2 b2 d2 e2 f2 g2 h2).bind λ(i2,j2,k2,l2,m2,n2,o2,p2,q2)=>
    (DS p1 q1 r1 s1 t1 u1 v1 w1 y1 g1 0 [] [] [] [] 448).bind λc21=>
    (Cj c21 j2 k2 l2 m2 n2 o2 p2 q2).bind λ(r2,s2,t2,u2,v2,w2,y2,z2,a3)=>
    (Lz r2).bind λc23=>
    Option.bind (α:=Ak9) (
      if a3 then
       some (i1,j1,k1,l1,m1,n1,o1,p1,q1,r1,s1,t1,u1,v1,w1,y1,p1,q1,r1,s1,t1,u1,v1,w1,y1,g1,0,[],p1,i2,c23.1,s2,t2,u2,v2,w2,y2,z2,c23.2)
      else
      some (i1,j1,k1,l1,m1,n1,o1,p1,q1,r1,s1,t1,u1,v1,w1,y1,p1,q1,r1,s1,t1,u1,v1,w1,y1,g1,0,[],p1,i2,c23.1,s2,t2,u2,v2,w2,y2,z2,false)) λ(b3,c3,d3,e3,f3,g3,h3,i3,j3,k3,l3,m3,n3,o3,p3,q3,r3,s3,t3,u3,w3,y3,z3,a4,b4,c4,d4,e4,f4,g4,h4,i4,j4,k4,l4,m4,n4,o4,p4)=>
    (Ab Hd (i3,b3,c3,d3,e3,f3,g3,h3,i3,j3,k3,l3,m3,n3,o3,p3,q3,r3,s3,t3,u3,w3,y3,z3,a4,b4,c4,d4,e4,f4,g4,h4,[],i4,j4,k4,l4,m4,n4,o4,p4)).bind λ(q4,s4,t4,u4,v4,w4,x4,y4,z4,a5,b5,d5,e5,f5,g5,h5,i5,j5,k5,l5,m5,n5,o5,p5,q5,r5,s5,t5,u5,v5,w5,x5,y5,z5,a6,b6,d6,e6,f6,g6)=>
    Option.bind (α:=Akg) (
      if(!g6)then
       some (true,q4,s4,t4,u4,v4,w4,x4,y4,z4,a5,b5,d5,e5,f5,g5,h5,i5,j5,k5,l5,m5,n5,o5,p5,q5,r5,s5,t5,u5,v5,w5,x5,y5,z5,a6,b6,d6,e6,f6,g6)
      else
       (Gf u5 v5 w5 x5).bind λc38=>
       some ((!c38),q4,s4,t4,u4,v4,w4,x4,y4,z4,a5,b5,d5,e5,f5,g5,h5,i5,j5,k5,l5,m5,n5,o5,p5,q5,r5,s5,t5,u5,v5,w5,x5,y5,z5,a6,b6,d6,e6,f6,g6)) λ(h6,i6,j6,k6,l6,m6,n6,o6,p6,q6,r6,s6,t6,u6,v6,w6,x6,y6,z6,a7,b7,c7,d7,e7,f7,g7,h7,i7,j7,k7,l7,m7,n7,o7,p7,q7,r7,s7,t7,u7,w7)=>
    if h6 then
     some (false,0,0,0,0,0,[],[],[],[],[],0,[],[],[],[])
    else
     (OG k7 l7 m7 n7).bind λc40=>
     (LJ p6 q6).bind λc41=>
     (Ab Fg (c40,c41,(c41.length:Int),0,i6,j6,k6,l6,m6,n6,o6,p6,q6,r6,s6,t6,u6,v6,w6,x6,y6,z6,a7,b7,c7,d7,e7,f7,g7,h7,i7,j7,k7,l7,m7,n7,o7,p7,q7,r7,s7,t7,u7,w7)).bind λv51=>
     match v51 with
     | .inl (x7,y7,z7,a8,b8,d8,e8,f8,g8,h8,i8,j8,k8,l8,m8,n8,o8,p8,q8,r8,s8,t8,u8,v8,w8,x8,y8,z8,a9,b9,c9,d9,e9,f9,g9,h9,i9,j9,k9,l9)=>
      (Ab E2 (wI (f8+1),x7,y7,z7,a8,b8,d8,e8,f8,g8,h8,i8,j8,k8,l8,m8,n8,o8,p8,q8,r8,s8,t8,u8,v8,w8,x8,y8,z8,a9,b9,c9,d9,e9,f9,g9,h9,i9,j9,k9,l9)).bind λv58=>
      match v58 with
      | .inl (m9,n9,o9,p9,q9,r9,s9,t9,u9,w9,x9,y9,z9,a10,b10,d10,e10,f10,g10,h10,i10,j10,k10,l10,m10,n10,o10,p10,q10,r10,s10,t10,u10,v10,w10)=>
       (Ab Fu (v10,(v10.length:Int),0,m9,n9,o9,p9,q9,r9,s9,t9,u9,w9,x9,y9,z9,a10,b10,d10,e10,f10,g10,h10,i10,j10,k10,l10,m10,n10,o10,p10,q10,r10,s10,t10,u10,w10)).bind λv71=>
       match v71 with
       | .inl (_,_,_,_,_,_,_,x10,y10,z10,a11,b11,d11,e11,f11,g11,h11,_,_,i11,j11,k11,l11,_,_,_,_,_,m11,_,n11)=>
        some (n11,x10,y10,z10,a11,b11,d11,e11,f11,g11,h11,i11,j11,k11,l11,m11)
       | .inr (o11,p11,q11,r11,s11,t11,u11,v11)=>
        some (o11,p11,q11,r11,s11,t11,[],[],[],[],[],u11,v11,[],[],[])
      | .inr (w11,x11,y11,z11,a12,b12,d12,e12)=>
       some (w11,x11,y11,z11,a12,b12,[],[],[],[],[],d12,e12,[],[],[])
     | .inr (f12,g12,h12,i12,j12,k12,l12,m12)=>
      some (f12,g12,h12,i12,j12,k12,[],[],[],[],[],l12,m12,[],[],[])
   | .inr (n12,o12,p12,q12,r12,s12,t12,u12)=>
    some (n12,o12,p12,q12,r12,s12,[],[],[],[],[],t12,u12,[],[],[])
def Gr (x0:LL) (x1:Int) (x2:Bool) (x3:Int):Option U91:=
 (DD x0 x1 x2 x3).bind λ(a,_,_,b,_,_,_,_,_,_,_,c,d,e,f,_)=>
 if(!a)then
  some (0,false,0,[],[],[])
 else
  some (b,true,c,d,e,f)
def Lh (x0:Int) (x1:LB) (x2:List (Int×Int)) (x3:List (List (Int×(Int×LB)))) (x4 x5:Int):Option (Int):=
 (Gf x0 x1 x2 x3).bind λc1=>
 if(!c1)then
  some 1
 else
  Option.bind (α:=Bool) (
    (Bw x4 x0 x5).bind λc2=>
    if(!c2)then
     some true
    else
     (KQ x0 x1 x2 x3).bind λc3=>
     some (decide (c3 < x5))) λv4=>
  if v4 then
   some 2
  else
   some 0
def HR (y:U99):Option (U99⊕U34):=
 if decide (y.2.1 < y.2.2.2.2.2.2)then
  cK (Aa (y.1.length+([y.2.2.2.2.2.1]:LI).length) 8) <|
  some (.inl (y.1++([y.2.2.2.2.2.1]:LI),wI (y.2.1+1),y.2.2.1,y.2.2.2.1,y.2.2.2.2.1,y.2.2.2.2.2.1,y.2.2.2.2.2.2))
 else
  some (.inr (y.1,y.2.2.1,y.2.2.2.1,y.2.2.2.2.1))
def H9 (y:U34):Option (U34⊕LI):=
 if decide (y.2.2.2 < y.2.2.1)then
  gX y.2.1 y.2.2.2 λr3=>
  (Ab HR (y.1,0,y.2.1,y.2.2.1,y.2.2.2,r3.1,r3.2)).bind λv4=>
  some (.inl (v4.1,v4.2.1,v4.2.2.1,wI (v4.2.2.2+1)))
 else
  some (.inr y.1)
def OJ (x0:List (Int×Int)):Option LI:=
 (Ab H9 ([],x0,(x0.length:Int),0)).bind λv5=>
 some v5
def N4 (x0:List (Int×Int)) (x1 x2:Int):Option (List (Int×Int)):=
 if decide (x2=0)then
  some x0
 else
  Option.bind (α:=U55) (
    if decide (0 < (x0.length:Int))then
     cZ (wI ((x0.length:Int) - 1)) <|
     cK (decide (wI ((x0.length:Int) - 1) < (x0.length:Int))) <|
     Option.bind (x0[0+(wI ((x0.length:Int) - 1)).toNat]?) λr1=>
     some (x0,(x0.length:Int),decide (r1.1=x1),x1,x2)
    else
    some (x0,(x0.length:Int),false,x1,x2)) λv2=>
  if v2.2.2.1 then
   cZ (wI (v2.2.1 - 1)) <|
   cK (decide (wI (v2.2.1 - 1) < (v2.1.length:Int))) <|
   Option.bind (v2.1[0+(wI (v2.2.1 - 1)).toNat]?) λr3=>
   cZ (wI (v2.2.1 - 1)) <|
   cK (decide (wI (v2.2.1 - 1) < (v2.1.length:Int))) <|
   Option.bind (v2.1[0+(wI (v2.2.1 - 1)).toNat]?) λr4=>
   Option.bind (v2.1[0+(wI (v2.2.1 - 1)).toNat]?) λr5=>
   some (v2.1.set (0+(wI (v2.2.1 - 1)).toNat) (r5.1,wI (r3.2+v2.2.2.2.2)))
  else
  cK (Aa (v2.1.length+([(v2.2.2.2.1,v2.2.2.2.2)]:List (Int×Int)).length) 16) <|
  some (v2.1++([(v2.2.2.2.1,v2.2.2.2.2)]:List (Int×Int)))
def GO (y:Aka):Option (Aka⊕Alt):=
 if decide (y.2.2.2.2.1 < y.2.2.2.2.2.2.2.2.1)then
  cZ (wI (y.2.2.2.1+y.2.2.2.2.1)) <|
  cK (decide (wI (y.2.2.2.1+y.2.2.2.2.1) < (y.2.1.length:Int))) <|
  Option.bind (y.2.1[0+(wI (y.2.2.2.1+y.2.2.2.2.1)).toNat]?) λr10=>
  (N4 y.2.2.1 r10 1).bind λc11=>
  some (.inl (y.1,y.2.1,c11,y.2.2.2.1,wI (y.2.2.2.2.1+1),y.2.2.2.2.2.1,y.2.2.2.2.2.2.1,y.2.2.2.2.2.2.2.1,y.2.2.2.2.2.2.2.2.1,y.2.2.2.2.2.2.2.2.2.1,y.2.2.2.2.2.2.2.2.2.2))
 else
  some (.inr (y.1,y.2.1,y.2.2.1,y.2.2.2.1,y.2.2.2.2.2.1,y.2.2.2.2.2.2.1,y.2.2.2.2.2.2.2.1,y.2.2.2.2.2.2.2.2.1,y.2.2.2.2.2.2.2.2.2.1,y.2.2.2.2.2.2.2.2.2.2))
def G8 (y:Ajp):Option (Ajp⊕(List (Int×Int))):=
 if decide (y.2.2.2.2.2.2 < y.2.2.2.2.2.1)then
  gX y.2.2.2.2.1 y.2.2.2.2.2.2 λr9=>
  (Ab GO (y.1,y.2.1,y.2.2.1,y.2.2.2.1,0,y.2.2.2.2.1,y.2.2.2.2.2.1,y.2.2.2.2.2.2,r9.1,r9.2.1,r9.2.2)).bind λv12=>
  (N4 v12.2.2.1 v12.1 (v12.2.2.2.2.2.2.2.2.2.length:Int)).bind λc13=>
  some (.inl (v12.1,v12.2.1,c13,wI (v12.2.2.2.1+(wI (v12.2.2.2.2.2.2.2.1+v12.2.2.2.2.2.2.2.2.1))),v12.2.2.2.2.1,v12.2.2.2.2.2.1,wI (v12.2.2.2.2.2.2.1+1)))
 else
  some (.inr y.2.2.1)
def Ng (x0:List (Int×Int)) (x1:List (Int×(Int×LB))) (x2:Int):Option (List (Int×Int)):=
 (OJ x0).bind λc1=>
 (Ab G8 (x2,c1,[],0,x1,(x1.length:Int),0)).bind λv14=>
 some v14
def F4 (y:Adk):Option (Adk⊕(List (Int×Int))):=
 if decide (y.2.2.2.1 < y.2.2.1)then
  gX y.2.1 y.2.2.2.1 λr1=>
  (Ng y.1 r1 (wI ((wI (y.2.2.2.2.1+y.2.2.2.1))+1))).bind λc2=>
  some (.inl (c2,y.2.1,y.2.2.1,wI (y.2.2.2.1+1),y.2.2.2.2.1,y.2.2.2.2.2.1,y.2.2.2.2.2.2.1,y.2.2.2.2.2.2.2))
 else
  some (.inr y.1)
def K8 (x0:Int) (x1:LB) (x2:List (Int×Int)) (x3:List (List (Int×(Int×LB)))) (x4:Int):Option (List (Int×Int)):=
 cK (Aa (([]:List (Int×Int)).length+x2.length) 16) <|
 sX 0 (wI (x4 - x0)) (x3.length:Int) (x3.length) <|
 (Ab F4 (([]:List (Int×Int))++x2,(List.drop (Int.toNat 0) x3).take ((wI (x4 - x0)).toNat - Int.toNat 0),(((List.drop (Int.toNat 0) x3).take ((wI (x4 - x0)).toNat - Int.toNat 0)).length:Int),0,x0,x1,x2,x3)).bind λv3=>
 some v3
def GG (y:U34):Option (U34⊕LI):=
 if decide (y.2.2.2 < y.2.2.1)then
  gX y.2.1 y.2.2.2 λr2=>
  cK (Aa (y.1.length+([IntKind.wrap .u8 r2.1,IntKind.wrap .u8 r2.2]:LI).length) 1) <|
  some (.inl (y.1++([IntKind.wrap .u8 r2.1,IntKind.wrap .u8 r2.2]:LI),y.2.1,y.2.2.1,wI (y.2.2.2+1)))
 else
  some (.inr y.1)
def MV (x0:List (Int×Int)):Option LI:=
 (Ab GG ([],x0,(x0.length:Int),0)).bind λv3=>
 some v3
def D8 (y:U45):Option (U45⊕LI):=
 if decide (y.2.2.2 < y.2.2.1)then
  gX y.2.1 y.2.2.2 λr5=>
  (Kt r5).bind λc6=>
  cK (decide (¬ (256:Int)=0)) <|
  cK (Aa (y.1.length+([wB (wI (Int.tdiv (c6.length:Int) 256)),wB (c6.length:Int)]:LI).length) 1) <|
  cK (Aa ((y.1++([wB (wI (Int.tdiv (c6.length:Int) 256)),wB (c6.length:Int)]:LI)).length+c6.length) 1) <|
  some (.inl ((y.1++([wB (wI (Int.tdiv (c6.length:Int) 256)),wB (c6.length:Int)]:LI))++c6,y.2.1,y.2.2.1,wI (y.2.2.2+1)))
 else
  some (.inr y.1)
def Ij (x0:Int) (x1:LB) (x2:List (Int×Int)) (x3:List (List (Int×(Int×LB)))) (x4 x5:Int):Option ((LI×Int)):=
 (Lh x0 x1 x2 x3 x4 x5).bind λc1=>
 if decide (c1=1)then
  some ([],1)
 else
 if decide (c1=2)then
  some ([],2)
 else
  (Ku x0 x1 x2 x3 x4).bind λc2=>
  (K8 x0 x1 x2 x3 x4).bind λc3=>
  (MV c3).bind λc4=>
  cK (Aa (([66,78,68,49,IntKind.wrap .u8 x4,IntKind.wrap .u8 x5,wB (c2.length:Int)]:LI).length+(Ar c2).length) 1) <|
  cK (decide (¬ (256:Int)=0)) <|
  cK (Aa ((([66,78,68,49,IntKind.wrap .u8 x4,IntKind.wrap .u8 x5,wB (c2.length:Int)]:LI)++(Ar c2)).length+([wB (wI (Int.tdiv (c4.length:Int) 256)),wB (c4.length:Int)]:LI).length) 1) <|
  cK (Aa (((([66,78,68,49,IntKind.wrap .u8 x4,IntKind.wrap .u8 x5,wB (c2.length:Int)]:LI)++(Ar c2))++([wB (wI (Int.tdiv (c4.length:Int) 256)),wB (c4.length:Int)]:LI)).length+c4.length) 1) <|
  sX (wI (x4 - x0)) (wI (x5 - x0)) (x3.length:Int) (x3.length) <|
  (Ab D8 (((([66,78,68,49,IntKind.wrap .u8 x4,IntKind.wrap .u8 x5,wB (c2.length:Int)]:LI)++(Ar c2))++([wB (wI (Int.tdiv (c4.length:Int) 256)),wB (c4.length:Int)]:LI))++c4,(List.drop ((wI (x4 - x0)).toNat) x3).take ((wI (x5 - x0)).toNat - (wI (x4 - x0)).toNat),(((List.drop ((wI (x4 - x0)).toNat) x3).take ((wI (x5 - x0)).toNat - (wI (x4 - x0)).toNat)).length:Int),0)).bind λv7=>
  (HK v7).bind λc8=>
  cZ 24 <|
  cZ 16 <|
  cZ 8 <|
  cK (Aa (v7.length+([wB (Int.fdiv c8 (2 ^ (min (Int.toNat 24) (IntKind.bits .u32)))),wB (Int.fdiv c8 (2 ^ (min (Int.toNat 16) (IntKind.bits .u32)))),wB (Int.fdiv c8 (2 ^ (min (Int.toNat 8) (IntKind.bits .u32)))),IntKind.wrap .u8 c8]:LI).length) 1) <|
  if decide (20000 < ((v7++([wB (Int.fdiv c8 (2 ^ (min (Int.toNat 24) (IntKind.bits .u32)))),wB (Int.fdiv c8 (2 ^ (min (Int.toNat 16) (IntKind.bits .u32)))),wB (Int.fdiv c8 (2 ^ (min (Int.toNat 8) (IntKind.bits .u32)))),IntKind.wrap .u8 c8]:LI)).length:Int))then
   some ([],6)
  else
   some (v7++([wB (Int.fdiv c8 (2 ^ (min (Int.toNat 24) (IntKind.bits .u32)))),wB (Int.fdiv c8 (2 ^ (min (Int.toNat 16) (IntKind.bits .u32)))),wB (Int.fdiv c8 (2 ^ (min (Int.toNat 8) (IntKind.bits .u32)))),IntKind.wrap .u8 c8]:LI),0)
def Hf (x0:LL) (x1:Int) (x2:Bool) (x3 x4 x5:Int):Option ((LI×Int)):=
 (Gr x0 x1 x2 x3).bind λ(_,a,b,c,d,e)=>
 if(!a)then
  some ([],1)
 else
  (Ij b c d e x4 x5).bind λc2=>
  some (c2.1,c2.2)
def Bt (x0 x1 x2:Int):Option (Bool):=
 Option.bind (α:=Bool) (
  if decide (x1<=x0)then
   some (decide (x0<=x2))
  else
  some false) λv1=>
 some v1
def PM (x0:LI):Option (Bool):=
 some (decide (¬ (x0.length:Int)=128))
def CL (y:(LL×(Int×Int))):Option ((LL×(Int×Int))⊕(Unit⊕Int)):=
 if decide (y.2.2 < y.2.1)then
  gX y.1 y.2.2 λr1=>
  (PM r1).bind λc2=>
  if c2 then
   some (.inr (.inr y.2.2))
  else
   some (.inl (y.1,y.2.1,wI (y.2.2+1)))
 else
  some (.inr (.inl ()))
def Bj (x0:LL):Option (Int):=
 (Ab CL (x0,(x0.length:Int),0)).bind λv3=>
 match v3 with
 | .inl y4=>
  some (-1)
 | .inr s5=>
  some s5
def Bg (x0:LL):Option (Bool):=
 (Bj x0).bind λc1=>
 some (decide (0<=c1))
def EE (x0:LL):Option (Bool):=
 Option.bind (α:=Bool) (
  (Bt (x0.length:Int) 40 160).bind λc1=>
  if c1 then
   (Bg x0).bind λc2=>
   some (!c2)
  else
  some false) λv3=>
 some v3
def Hj (x0:LL) (x1:Int) (x2:Bool) (x3:Int):Option (Bool):=
 Option.bind (α:=Bool) (
  (EE x0).bind λc1=>
  if c1 then
   (Bt x1 0 1000000000).bind λc2=>
   if c2 then
    (Bt x3 (-1) 1000000).bind λc3=>
    some c3
   else
   some false
  else
  some false) λv4=>
 some v4
def CJ (x0:LI) (x1:Int):Option (Int):=
 gX x0 x1 λr1=>
 cZ 8 <|
 gX x0 (wI (x1+1)) λr2=>
 some (wI (((BitVec.ofInt (IntKind.bits .i64) (wI ((IntKind.wrap .i64 r1) * 2 ^ (min (Int.toNat 8) (IntKind.bits .i64)))) ||| BitVec.ofInt (IntKind.bits .i64) (IntKind.wrap .i64 r2)).toNat:Int)))
def GZ (y:U44):Option (U44⊕(List (Int×LI)⊕Bool)):=match y with
 | (a,b,c,d)=>
 if decide (d < c)then
  gX b d λr1=>
  Option.bind (α:=U67) (
    if decide (r1.1 < 0)then
     some (a,b,c,d,true)
    else
    if decide (160<=r1.1)then
     some (a,b,c,d,true)
    else
    if decide (1 < r1.1)then
     if decide (r1.1 < 33)then
      some (a,b,c,d,true)
     else
     if decide (0 < d)then
      gX a (wI (d - 1)) λr2=>
      if decide (r1.1<=r2.1)then
       some (a,b,c,d,true)
      else
      some (a,b,c,d,decide (¬ (r1.2.length:Int)=128))
     else
     some (a,b,c,d,decide (¬ (r1.2.length:Int)=128))
    else
    if decide (0 < d)then
     gX a (wI (d - 1)) λr4=>
     if decide (r1.1<=r4.1)then
      some (a,b,c,d,true)
     else
     some (a,b,c,d,decide (¬ (r1.2.length:Int)=128))
    else
    some (a,b,c,d,decide (¬ (r1.2.length:Int)=128))) λ(e,f,g,h,i)=>
  if i then
   some (.inr (.inr false))
  else
   some (.inl (e,f,g,wI (h+1)))
 else
  some (.inr (.inl a))
def Nf (x0:List (Int×LI)):Option (Bool):=
 (Ab GZ (x0,x0,(x0.length:Int),0)).bind λv6=>
 match v6 with
 | .inl y7=>
  (Bt (y7.length:Int) 1 30).bind λc9=>
  some c9
 | .inr s8=>
  some s8
def OX (x0:LL) (x1:Int) (x2:Bool) (x3 x4:Int):Option (Bool):=
 (Bt x4 0 (wI ((x0.length:Int) - 1))).bind λc1=>
 some c1
def Km (x0:LL) (x1:Int) (x2:Bool) (x3:Int) (x4:List (Int×LI)):Option (Bool):=
 Option.bind (α:=Bool) (
  (Hj x0 x1 x2 x3).bind λc1=>
  if c1 then
   (Nf x4).bind λc2=>
   if c2 then
    gX x4 (wI ((x4.length:Int) - 1)) λr3=>
    (OX x0 x1 x2 x3 r3.1).bind λc4=>
    some c4
   else
   some false
  else
  some false) λv5=>
 some v5
def Ic (x0:Int):Option LI:=
 cZ 8 <|
 some [wB (Int.fdiv x0 (2 ^ (min (Int.toNat 8) (IntKind.bits .i64)))),IntKind.wrap .u8 x0]
def LX (x0:LI) (x1:Int):Option LI:=
 cZ (wI (x1 - (x0.length:Int))) <|
 cK (Aa (x0.length+(List.replicate ((wI (x1 - (x0.length:Int))).toNat) (0:Int)).length) 1) <|
 some (x0++(List.replicate ((wI (x1 - (x0.length:Int))).toNat) (0:Int)))
def H3 (y:(Int×(LI×(Int×Int)))):Option ((Int×(LI×(Int×Int)))⊕Int):=
 if decide (y.2.2.2 < y.2.2.1)then
  gX y.2.1 y.2.2.2 λr1=>
  some (.inl (IntKind.wrap .u32 ((IntKind.wrap .u32 (((BitVec.ofInt (IntKind.bits .u32) y.1 ^^^ BitVec.ofInt (IntKind.bits .u32) (IntKind.wrap .u32 r1)).toNat:Int))) * 16777619),y.2.1,y.2.2.1,wI (y.2.2.2+1)))
 else
  some (.inr y.1)
def Mv (x0:Int) (x1:LI):Option (Int):=
 (Ab H3 (x0,x1,(x1.length:Int),0)).bind λv2=>
 some v2
def Hr (x0:LI):Option (Int):=
 (Mv 2166136261 x0).bind λc1=>
 some c1
def QH (x0:Int):Option LI:=
 cZ 24 <|
 cZ 16 <|
 cZ 8 <|
 some [wB (Int.fdiv x0 (2 ^ (min (Int.toNat 24) (IntKind.bits .u32)))),wB (Int.fdiv x0 (2 ^ (min (Int.toNat 16) (IntKind.bits .u32)))),wB (Int.fdiv x0 (2 ^ (min (Int.toNat 8) (IntKind.bits .u32)))),IntKind.wrap .u8 x0]
def H5 (y:U68):Option (U68⊕U2):=
 if decide (y.2.2.2.2 < y.2.2.2.1)then
  gX y.2.2.1 y.2.2.2.2 λr1=>
  (Ic r1.1).bind λc2=>
  cK (Aa (y.2.1.length+c2.length) 1) <|
  some (.inl (y.1,y.2.1++c2,y.2.2.1,y.2.2.2.1,wI (y.2.2.2.2+1)))
 else
  some (.inr (y.1,y.2.1))
def HQ (y:U57):Option (U57⊕(LI×Int)):=
 if decide (y.2.2.2.2 < y.2.2.2.1)then
  gX y.2.2.1 y.2.2.2.2 λr6=>
  (Mv y.2.1 r6.2).bind λc7=>
  some (.inl (y.1,c7,y.2.2.1,y.2.2.2.1,wI (y.2.2.2.2+1)))
 else
  some (.inr (y.1,y.2.1))
def Pu (x0:List (Int×LI)):Option LI:=
 (Ab H5 (x0,[76,79,71,49,wB (x0.length:Int)],x0,(x0.length:Int),0)).bind λv3=>
 (LX v3.2 124).bind λc4=>
 (Hr c4).bind λc5=>
 (Ab HQ (c4,c5,v3.1,(v3.1.length:Int),0)).bind λv8=>
 (QH v8.2).bind λc9=>
 cK (Aa (v8.1.length+c9.length) 1) <|
 some (v8.1++c9)
def CX (y:U27):Option (U27⊕(Unit⊕Bool)):=
 if decide (y.2.2.2 < y.2.2.1)then
  gX y.1 y.2.2.2 λr1=>
  gX y.2.1 y.2.2.2 λr2=>
  if decide (¬ r1=r2)then
   some (.inr (.inr false))
  else
   some (.inl (y.1,y.2.1,y.2.2.1,wI (y.2.2.2+1)))
 else
  some (.inr (.inl ()))
def CE (x0 x1:LI):Option (Bool):=
 if decide (¬ (x0.length:Int)=(x1.length:Int))then
  some false
 else
  (Ab CX (x0,x1,(x0.length:Int),0)).bind λv3=>
  match v3 with
  | .inl y4=>
   some true
  | .inr s5=>
   some s5
def DO (y:Aj9):Option (Aj9⊕U82):=match y with
 | (a,b,c,d,e,f,g,h)=>
 if decide (d < c)then
  (CJ a (wI (5+(wI (2 * d))))).bind λc4=>
  gX e (wI (3+d)) λr5=>
  cK (Aa (b.length+([(c4,r5)]:List (Int×LI)).length) 32) <|
  some (.inl (a,b++([(c4,r5)]:List (Int×LI)),c,wI (d+1),e,f,g,h))
 else
  some (.inr (a,b,e,f,g,h))
def HC (x0:LL) (x1:Int) (x2:Bool) (x3:Int):Option (List (Int×LI)):=
 gX x0 2 λr1=>
 gX r1 4 λr2=>
 (Bt (IntKind.wrap .i64 r2) 1 30).bind λc3=>
 if(!c3)then
  some []
 else
  (Ab DO (r1,[],IntKind.wrap .i64 r2,0,x0,x1,x2,x3)).bind λ(a,b,c,d,e,f)=>
  Option.bind (α:=(List (Int×LI)×Bool)) (
    (Km c d e f b).bind λc7=>
    if(!c7)then
     some (b,true)
    else
     (Pu b).bind λc8=>
     (CE c8 a).bind λc9=>
     some (b,(!c9))) λv10=>
  if v10.2 then
   some []
  else
   some v10.1
def HP (x0 x1:Int):Option (Bool):=
 Option.bind (α:=Bool) (
  if decide (0<=x0)then
   if decide (x0<=x1)then
    some (decide (x1<=60))
   else
   some false
  else
  some false) λv1=>
 some v1
def KM (x0:Int):Option (Bool):=
 (Bt x0 33 159).bind λc1=>
 some c1
def E9 (x0 x1 x2 x3 x4:Int):Option ((LI×Bool)):=
 Option.bind (α:=U74) (
   (HP x0 x1).bind λc1=>
   if(!c1)then
    some (true,x0,x1,x2,x3,x4)
   else
    (Bt x2 1 30).bind λc2=>
    if(!c2)then
     some (true,x0,x1,x2,x3,x4)
    else
     (KM x3).bind λc3=>
     if(!c3)then
      some (true,x0,x1,x2,x3,x4)
     else
      (KM x4).bind λc4=>
      some ((!c4),x0,x1,x2,x3,x4)) λv5=>
 if v5.1 then
  some ([],false)
 else
  (Ic v5.2.2.2.2.1).bind λc6=>
  cK (Aa (([83,84,82,49,IntKind.wrap .u8 v5.2.1,IntKind.wrap .u8 v5.2.2.1,IntKind.wrap .u8 v5.2.2.2.1,0]:LI).length+c6.length) 1) <|
  (Ic v5.2.2.2.2.2).bind λc7=>
  cK (Aa ((([83,84,82,49,IntKind.wrap .u8 v5.2.1,IntKind.wrap .u8 v5.2.2.1,IntKind.wrap .u8 v5.2.2.2.1,0]:LI)++c6).length+c7.length) 1) <|
  (LX ((([83,84,82,49,IntKind.wrap .u8 v5.2.1,IntKind.wrap .u8 v5.2.2.1,IntKind.wrap .u8 v5.2.2.2.1,0]:LI)++c6)++c7) 124).bind λc8=>
  (Hr c8).bind λc9=>
  (QH c9).bind λc10=>
  cK (Aa (c8.length+c10.length) 1) <|
  some (c8++c10,true)
def MD (x0:LI):Option U74:=
 if decide (¬ (x0.length:Int)=128)then
  some (false,0,0,0,0,0)
 else
 gX x0 4 λr1=>
 gX x0 5 λr2=>
 gX x0 6 λr3=>
 (CJ x0 8).bind λc4=>
 (CJ x0 10).bind λc5=>
 (E9 (IntKind.wrap .i64 r1) (IntKind.wrap .i64 r2) (IntKind.wrap .i64 r3) c4 c5).bind λc6=>
 Option.bind (α:=Aj8) (
   if(!c6.2)then
    some (true,0,0,0,0,0,IntKind.wrap .i64 r1,IntKind.wrap .i64 r2,IntKind.wrap .i64 r3,c4,c5)
   else
    (CE c6.1 x0).bind λc7=>
    some ((!c7),0,0,0,0,0,IntKind.wrap .i64 r1,IntKind.wrap .i64 r2,IntKind.wrap .i64 r3,c4,c5)) λ(a,_,_,_,_,_,b,c,d,e,f)=>
 if a then
  some (false,0,0,0,0,0)
 else
  some (true,b,c,d,e,f)
def B3 (x0:LI):Option LI:=
 Option.bind (α:=LI) (Gy (List.isEmpty x0) (
  some []) (
  cK (Aa (([]:LI).length+x0.length) 1) <|
  some (([]:LI)++x0))) λv1=>
 some v1
def Nb (y:U37):Option (U37⊕LL):=
 if decide (y.2.2.2 < y.2.2.1)then
  gX y.2.1 y.2.2.2 λr1=>
  (B3 r1).bind λc2=>
  cK (Aa (y.1.length+([c2]:LL).length) 24) <|
  some (.inl (y.1++([c2]:LL),y.2.1,y.2.2.1,wI (y.2.2.2+1)))
 else
  some (.inr y.1)
def Jf (x0:LL):Option LL:=
 (Ab Nb ([],x0,(x0.length:Int),0)).bind λv3=>
 some v3
def DM (x0:Int) (x1:LL) (x2 x3 x4:LI):Option U61:=
 cK (decide (¬ (8:Int)=0)) <|
 gX x2 (wI (Int.tdiv x0 8)) λr1=>
 cK (decide (¬ (8:Int)=0)) <|
 cZ (Int.tmod x0 8) <|
 some (decide (wB (((BitVec.ofInt (IntKind.bits .u8) (Int.fdiv r1 (2 ^ (min ((Int.tmod x0 8).toNat) (IntKind.bits .u8)))) &&& BitVec.ofInt (IntKind.bits .u8) 1).toNat:Int))=1),x1,x2,x3,x4)
def FT (x0:Int) (x1:LL) (x2 x3 x4:LI):Option U61:=
 Option.bind (α:=U61) (
  (Bt x0 33 (wI ((x1.length:Int) - 1))).bind λc1=>
  if c1 then
   (DM x0 x1 x2 x3 x4).bind λc2=>
   some (c2.1,c2.2.1,c2.2.2.1,c2.2.2.2.1,c2.2.2.2.2)
  else
  some (false,x1,x2,x3,x4)) λv3=>
 some (v3.1,v3.2.1,v3.2.2.1,v3.2.2.2.1,v3.2.2.2.2)
def Dh (y:Ajo):Option (Ajo⊕(U39⊕U61)):=
 if decide (y.2.2.2.1 < y.2.2.1)then
  gX y.2.1 y.2.2.2.1 λr1=>
  Option.bind (α:=AjW) (
    (FT r1 y.2.2.2.2.1 y.2.2.2.2.2.1 y.2.2.2.2.2.2.1 y.2.2.2.2.2.2.2).bind λc2=>
    if(!c2.1)then
     some (y.1,y.2.1,y.2.2.1,y.2.2.2.1,true,c2.2.1,c2.2.2.1,c2.2.2.2.1,c2.2.2.2.2)
    else
    if decide (0 < y.2.2.2.1)then
     gX y.1 (wI (y.2.2.2.1 - 1)) λr3=>
     some (y.1,y.2.1,y.2.2.1,y.2.2.2.1,decide (r1<=r3),c2.2.1,c2.2.2.1,c2.2.2.2.1,c2.2.2.2.2)
    else
    some (y.1,y.2.1,y.2.2.1,y.2.2.2.1,false,c2.2.1,c2.2.2.1,c2.2.2.2.1,c2.2.2.2.2)) λv4=>
  if v4.2.2.2.2.1 then
   some (.inr (.inr (false,v4.2.2.2.2.2.1,v4.2.2.2.2.2.2.1,v4.2.2.2.2.2.2.2.1,v4.2.2.2.2.2.2.2.2)))
  else
   some (.inl (v4.1,v4.2.1,v4.2.2.1,wI (v4.2.2.2.1+1),v4.2.2.2.2.2.1,v4.2.2.2.2.2.2.1,v4.2.2.2.2.2.2.2.1,v4.2.2.2.2.2.2.2.2))
 else
  some (.inr (.inl (y.2.2.2.2.1,y.2.2.2.2.2.1,y.2.2.2.2.2.2.1,y.2.2.2.2.2.2.2)))
def Dc (x0:LI) (x1:LL) (x2 x3 x4:LI):Option U61:=
 (Ab Dh (x0,x0,(x0.length:Int),0,x1,x2,x3,x4)).bind λv5=>
 match v5 with
 | .inl y6=>
  some (true,y6.1,y6.2.1,y6.2.2.1,y6.2.2.2)
 | .inr s7=>
  some (s7.1,s7.2.1,s7.2.2.1,s7.2.2.2.1,s7.2.2.2.2)
def Fr (y:U59):Option (U59⊕(U39⊕Bool)):=
 if decide (y.1 < 160)then
  (DM y.1 y.2.1 y.2.2.1 y.2.2.2.1 y.2.2.2.2).bind λc3=>
  Option.bind (α:=U78) (
    if decide (y.1 < 33)then
     if(!c3.1)then
      some (y.1,true,c3.2.1,c3.2.2.1,c3.2.2.2.1,c3.2.2.2.2)
     else
     if decide ((c3.2.1.length:Int)<=y.1)then
      some (y.1,c3.1,c3.2.1,c3.2.2.1,c3.2.2.2.1,c3.2.2.2.2)
     else
     some (y.1,false,c3.2.1,c3.2.2.1,c3.2.2.2.1,c3.2.2.2.2)
    else
    if decide ((c3.2.1.length:Int)<=y.1)then
     some (y.1,c3.1,c3.2.1,c3.2.2.1,c3.2.2.2.1,c3.2.2.2.2)
    else
    some (y.1,false,c3.2.1,c3.2.2.1,c3.2.2.2.1,c3.2.2.2.2)) λv4=>
  if v4.2.1 then
   some (.inr (.inr false))
  else
   some (.inl (wI (v4.1+1),v4.2.2.1,v4.2.2.2.1,v4.2.2.2.2.1,v4.2.2.2.2.2))
 else
  some (.inr (.inl (y.2.1,y.2.2.1,y.2.2.2.1,y.2.2.2.2)))
def J6 (x0:LL) (x1 x2 x3:LI):Option (Bool):=
 Option.bind (α:=U61) (
   (EE x0).bind λc1=>
   if(!c1)then
    some (true,x0,x1,x2,x3)
   else
   some (decide (¬ (x1.length:Int)=20),x0,x1,x2,x3)) λv2=>
 if v2.1 then
  some false
 else
  (Ab Fr (0,v2.2.1,v2.2.2.1,v2.2.2.2.1,v2.2.2.2.2)).bind λv5=>
  match v5 with
  | .inl y6=>
   Option.bind (α:=Bool) (
     (Dc y6.2.2.1 y6.1 y6.2.1 y6.2.2.1 y6.2.2.2).bind λc8=>
     if c8.1 then
      (Dc c8.2.2.2.2 c8.2.1 c8.2.2.1 c8.2.2.2.1 c8.2.2.2.2).bind λc9=>
      some c9.1
     else
     some false) λv10=>
   some v10
  | .inr s7=>
   some s7
def KY (x0:Int):Option (Bool):=
 some (decide (¬ x0=0))
def Bf (y:(LI×(Int×Int))):Option ((LI×(Int×Int))⊕(Unit⊕Int)):=match y with
 | (a,b,c)=>
 if decide (c < b)then
  gX a c λr1=>
  (KY r1).bind λc2=>
  if c2 then
   some (.inr (.inr c))
  else
   some (.inl (a,b,wI (c+1)))
 else
  some (.inr (.inl ()))
def BV (x0:LI):Option (Int):=
 (Ab Bf (x0,(x0.length:Int),0)).bind λv3=>
 match v3 with
 | .inl y4=>
  some (-1)
 | .inr s5=>
  some s5
def Be (x0:LI):Option (Bool):=
 (BV x0).bind λc1=>
 some (decide (0<=c1))
def Ki (x0:LL) (x1:Int) (x2:Bool) (x3:Int):Option U13:=
 (Hj x0 x1 x2 x3).bind λc1=>
 if(!c1)then
  some (false,[],[])
 else
 gX x0 1 λr2=>
 (Jf x0).bind λc3=>
 sX 0 20 (r2.length:Int) (r2.length) <|
 (B3 ((List.drop (Int.toNat 0) r2).take (Int.toNat 20 - Int.toNat 0))).bind λc4=>
 Option.bind (α:=U13) (
   (J6 c3 c4 [] []).bind λc5=>
   if(!c5)then
    some (true,c3,c4)
   else
   sX 20 (r2.length:Int) (r2.length:Int) (r2.length) <|
   (Be ((List.drop (Int.toNat 20) r2).take ((r2.length:Int).toNat - Int.toNat 20))).bind λc6=>
   some (c6,c3,c4)) λ(a,b,c)=>
 if a then
  some (false,[],[])
 else
  some (true,b,c)
def HN (y:(LI×(Int×(Int×Int)))):Option ((LI×(Int×(Int×Int)))⊕(Unit⊕Int)):=
 if decide (y.2.2.2 < y.2.2.1)then
  gX y.1 y.2.2.2 λr1=>
  if decide (y.2.1=r1)then
   some (.inr (.inr y.2.2.2))
  else
   some (.inl (y.1,y.2.1,y.2.2.1,wI (y.2.2.2+1)))
 else
  some (.inr (.inl ()))
def DU (x0:LI) (x1:Int):Option (Int):=
 (Ab HN (x0,x1,(x0.length:Int),0)).bind λv2=>
 match v2 with
 | .inl y3=>
  some (-1)
 | .inr s4=>
  some s4
def AN (x0:LI) (x1:Int):Option (Bool):=
 (DU x0 x1).bind λc1=>
 some (decide (0<=c1))
def J1 (x0:Int):Option (Bool):=
 some (decide (¬ x0=0))
def Fs (x0:U39) (x1:Int):Option (Bool):=
 cK (decide (¬ (8:Int)=0)) <|
 gX x0.2.1 (wI (Int.tdiv x1 8)) λr1=>
 cK (decide (¬ (8:Int)=0)) <|
 cZ (Int.tmod x1 8) <|
 some (decide (wB (((BitVec.ofInt (IntKind.bits .u8) (Int.fdiv r1 (2 ^ (min ((Int.tmod x1 8).toNat) (IntKind.bits .u8)))) &&& BitVec.ofInt (IntKind.bits .u8) 1).toNat:Int))=1))
def DN (x0:U39) (x1:Int):Option (Bool):=
 Option.bind (α:=Bool) (
  (Bt x1 33 (wI ((x0.1.length:Int) - 1))).bind λc1=>
  if c1 then
   (Fs x0 x1).bind λc2=>
   some c2
  else
  some false) λv3=>
 some v3
def CN (x0:U39) (x1:Int):Option (Bool):=
 Option.bind (α:=Bool) (
  (DN x0 x1).bind λc1=>
  if c1 then
   (AN x0.2.2.1 x1).bind λc2=>
   some (!c2)
  else
  some false) λv3=>
 some v3
def A8 (y:(LI×(Int×Int))):Option ((LI×(Int×Int))⊕(Unit⊕Int)):=
 if decide (y.2.2 < y.2.1)then
  gX y.1 y.2.2 λr1=>
  (J1 r1).bind λc2=>
  if c2 then
   some (.inr (.inr y.2.2))
  else
   some (.inl (y.1,y.2.1,wI (y.2.2+1)))
 else
  some (.inr (.inl ()))
def BR (x0:LI):Option (Int):=
 (Ab A8 (x0,(x0.length:Int),0)).bind λv3=>
 match v3 with
 | .inl y4=>
  some (-1)
 | .inr s5=>
  some s5
def Ba (x0:LI):Option (Bool):=
 (BR x0).bind λc1=>
 some (decide (0<=c1))
def Ep (y:(LI×(LI×Int))):Option ((LI×(LI×Int))⊕LI):=
 if decide (y.2.2 < 32)then
  (CJ y.1 (wI (1+(wI (2 * y.2.2))))).bind λc7=>
  cK (Aa (y.2.1.length+([c7]:LI).length) 8) <|
  some (.inl (y.1,y.2.1++([c7]:LI),wI (y.2.2+1)))
 else
  some (.inr y.2.1)
def GU (x0:U39) (x1 x2:Int):Option ((LI×Bool)):=
 Option.bind (α:=U19) (
   (CN x0 x1).bind λc1=>
   if(!c1)then
    some (x0,x1,true)
   else
   gX x0.1 x1 λr2=>
   gX r2 0 λr3=>
   some (x0,x1,decide (¬ r3=x2))) λv4=>
 if v4.2.2 then
  some ([],false)
 else
 gX v4.1.1 v4.2.1 λr5=>
 sX 65 (r5.length:Int) (r5.length:Int) (r5.length) <|
 (Ba ((List.drop (Int.toNat 65) r5).take ((r5.length:Int).toNat - Int.toNat 65))).bind λc6=>
 if c6 then
  some ([],false)
 else
  (Ab Ep (r5,[],0)).bind λv8=>
  some (v8,true)
def NL (x0:Int):Option (Bool):=
 some (decide (¬ x0=0))
def Bp (y:(LI×(Int×Int))):Option ((LI×(Int×Int))⊕(Unit⊕Int)):=
 if decide (y.2.2 < y.2.1)then
  gX y.1 y.2.2 λr1=>
  (NL r1).bind λc2=>
  if c2 then
   some (.inr (.inr y.2.2))
  else
   some (.inl (y.1,y.2.1,wI (y.2.2+1)))
 else
  some (.inr (.inl ()))
def Cn (x0:LI):Option (Int):=
 (Ab Bp (x0,(x0.length:Int),0)).bind λv3=>
 match v3 with
 | .inl y4=>
  some (-1)
 | .inr s5=>
  some s5
def BZ (x0:LI):Option (Bool):=
 (Cn x0).bind λc1=>
 some (decide (0<=c1))
def Kq (x0:LI):Option (Bool):=
 (BZ x0).bind λc1=>
 some (!c1)
def HI (x0:Int) (x1:U1):Option U6:=
 Option.bind (α:=U6) (
  if decide (¬ x0=0)then
   Option.bind (x1) λp1=>
   (DN p1 x0).bind λc2=>
   some ((!c2),x1)
  else
  some (false,x1)) λv3=>
 some (v3.1,v3.2)
def AF (y:U51):Option (U51⊕(U9⊕U21)):=
 if decide (y.2.2.1 < y.2.1)then
  cZ y.2.2.1 <|
  cK (decide (y.2.2.1 < (y.1.length:Int))) <|
  Option.bind (y.1[0+y.2.2.1.toNat]?) λr1=>
  (HI r1 y.2.2.2).bind λc2=>
  if c2.1 then
   some (.inr (.inr (y.1,y.2.2.1,c2.2)))
  else
   some (.inl (y.1,y.2.1,wI (y.2.2.1+1),c2.2))
 else
  some (.inr (.inl (y.1,y.2.2.2)))
def BQ (x0:LI) (x1:U1):Option U21:=
 (Ab AF (x0,(x0.length:Int),0,x1)).bind λv3=>
 match v3 with
 | .inl y4=>
  some (y4.1,(-1),y4.2)
 | .inr s5=>
  some (s5.1,s5.2.1,s5.2.2)
def A9 (x0:LI) (x1:U1):Option U23:=
 (BQ x0 x1).bind λc1=>
 some (c1.1,decide (0<=c1.2.1),c1.2.2)
def Er (y:Ajx):Option (Ajx⊕U95):=
 if decide (y.2.2.1 < y.2.1)then
  cZ 32 <|
  cK (decide ((32:Int)<=32)) <|
  cK (Aa (Int.toNat 32) 8) <|
  cZ y.2.2.1 <|
  cK (decide (y.2.2.1 < (y.2.2.2.2.2.2.2.length:Int))) <|
  Option.bind (y.2.2.2.2.2.2.2[0+y.2.2.1.toNat]?) λr1=>
  Option.bind (y.2.2.2.2.2.2.2[0+y.2.2.1.toNat]?) λr2=>
  some (.inl (y.1,y.2.1,wI (y.2.2.1+1),y.2.2.2.1,y.2.2.2.2.1,y.2.2.2.2.2.1,y.2.2.2.2.2.2.1,y.2.2.2.2.2.2.2.set (0+y.2.2.1.toNat) (List.replicate (Int.toNat 32) (0:Int))))
 else
  some (.inr (y.1,y.2.2.2.1,y.2.2.2.2.1,y.2.2.2.2.2.1,y.2.2.2.2.2.2.1,y.2.2.2.2.2.2.2))
def Da (y:AgI):Option (AgI⊕(U33⊕(Bool×Int))):=
 if decide (y.2.2.1 < y.2.1)then
  Option.bind (α:=AgI⊕(Bool×Int)) (
    cZ y.2.2.1 <|
    cK (decide (y.2.2.1 < (y.1.length:Int))) <|
    Option.bind (y.1[0+y.2.2.1.toNat]?) λr8=>
    if decide (r8=0)then
     some (.inl (y.1,y.2.1,y.2.2.1,y.2.2.2.1,y.2.2.2.2.1,y.2.2.2.2.2.1,y.2.2.2.2.2.2.1,y.2.2.2.2.2.2.2))
    else
     Option.bind (y.2.2.2.1) λp9=>
     (GU p9 r8 81).bind λc10=>
     Option.bind (α:=AlB) (
       if(!c10.2)then
        some (y.1,y.2.2.1,r8,c10.1,y.2.1,y.2.2.1,true,y.2.2.2.1,y.2.2.2.2.1,y.2.2.2.2.2.1,y.2.2.2.2.2.2.1,y.2.2.2.2.2.2.2)
       else
        (Kq c10.1).bind λc11=>
        if c11 then
         some (y.1,y.2.2.1,r8,c10.1,y.2.1,y.2.2.1,true,y.2.2.2.1,y.2.2.2.2.1,y.2.2.2.2.2.1,y.2.2.2.2.2.2.1,y.2.2.2.2.2.2.2)
        else
        sX 0 y.2.2.1 (y.1.length:Int) (y.1.length) <|
        (AN ((y.1.drop (Int.toNat 0)).take (y.2.2.1.toNat - Int.toNat 0)) r8).bind λc12=>
        if c12 then
         some (y.1,y.2.2.1,r8,c10.1,y.2.1,y.2.2.1,true,y.2.2.2.1,y.2.2.2.2.1,y.2.2.2.2.2.1,y.2.2.2.2.2.2.1,y.2.2.2.2.2.2.2)
        else
         (A9 c10.1 y.2.2.2.1).bind λc13=>
         some (y.1,y.2.2.1,r8,c13.1,y.2.1,y.2.2.1,c13.2.1,c13.2.2,y.2.2.2.2.1,y.2.2.2.2.2.1,y.2.2.2.2.2.2.1,y.2.2.2.2.2.2.2)) λv14=>
     if v14.2.2.2.2.2.2.1 then
      some (.inr (false,0))
     else
     cZ v14.2.1 <|
     cK (decide (v14.2.1 < (v14.2.2.2.2.2.2.2.2.2.2.1.length:Int))) <|
     Option.bind (v14.2.2.2.2.2.2.2.2.2.2.1[0+v14.2.1.toNat]?) λr15=>
     Option.bind (v14.2.2.2.2.2.2.2.2.2.2.1[0+v14.2.1.toNat]?) λr16=>
     cZ v14.2.1 <|
     cK (decide (v14.2.1 < (v14.2.2.2.2.2.2.2.2.2.2.2.length:Int))) <|
     Option.bind (v14.2.2.2.2.2.2.2.2.2.2.2[0+v14.2.1.toNat]?) λr17=>
     Option.bind (v14.2.2.2.2.2.2.2.2.2.2.2[0+v14.2.1.toNat]?) λr18=>
     some (.inl (v14.1,v14.2.2.2.2.1,v14.2.2.2.2.2.1,v14.2.2.2.2.2.2.2.1,v14.2.2.2.2.2.2.2.2.1,v14.2.2.2.2.2.2.2.2.2.1,v14.2.2.2.2.2.2.2.2.2.2.1.set (0+v14.2.1.toNat) v14.2.2.1,v14.2.2.2.2.2.2.2.2.2.2.2.set (0+v14.2.1.toNat) v14.2.2.2.1))) λv19=>
  match v19 with
  | .inl y20=>
   some (.inl (y20.1,y20.2.1,wI (y20.2.2.1+1),y20.2.2.2.1,y20.2.2.2.2.1,y20.2.2.2.2.2.1,y20.2.2.2.2.2.2.1,y20.2.2.2.2.2.2.2))
  | .inr s21=>
   some (.inr (.inr (s21.1,s21.2)))
 else
  some (.inr (.inl (y.2.2.2.2.1,y.2.2.2.2.2.1,y.2.2.2.2.2.2.1,y.2.2.2.2.2.2.2)))
def GX (x0:U39) (x1:Int):Option U36:=
 cZ 32 <|
 cK (decide ((32:Int)<=32)) <|
 cK (Aa (Int.toNat 32) 8) <|
 cZ 32 <|
 cK (decide ((32:Int)<=32)) <|
 cK (Aa (Int.toNat 32) 24) <|
 (Ab Er (x1,((List.replicate (Int.toNat 32) ([]:LI)).length:Int),0,some x0,0,x1,List.replicate (Int.toNat 32) (0:Int),List.replicate (Int.toNat 32) ([]:LI))).bind λv3=>
 if decide (v3.1=0)then
  some (true,v3.2.2.2.1,v3.2.2.2.2.1,v3.2.2.2.2.2)
 else
  Option.bind (v3.2.1) λp4=>
  (GU p4 v3.1 80).bind λc5=>
  Option.bind (α:=Alx) (
    if(!c5.2)then
     some (c5.1,true,v3.2.1,v3.2.2.1,v3.2.2.2.1,v3.2.2.2.2.1,v3.2.2.2.2.2)
    else
     (Kq c5.1).bind λc6=>
     some (c5.1,c6,v3.2.1,v3.2.2.1,v3.2.2.2.1,v3.2.2.2.2.1,v3.2.2.2.2.2)) λv7=>
  if v7.2.1 then
   some (false,0,[],[])
  else
   (Ab Da (v7.1,(v7.1.length:Int),0,v7.2.2.1,v7.2.2.2.1,v7.2.2.2.2.1,v7.2.2.2.2.2.1,v7.2.2.2.2.2.2)).bind λv22=>
   match v22 with
   | .inl y23=>
    some (true,y23.2.1,y23.2.2.1,y23.2.2.2)
   | .inr s24=>
    some (s24.1,s24.2,[],[])
def DP (x0:LI):Option LI:=
 Option.bind (α:=LI) (Gy (List.isEmpty x0) (
  some []) (
  cK (Aa (([]:LI).length+x0.length) 8) <|
  some (([]:LI)++x0))) λv1=>
 some v1
def Ip (x0:Int):Option (Bool):=
 some (decide (¬ x0=x0))
def I4 (x0 x1:Int):Option (Bool):=
 Option.bind (α:=Bool) (
  Option.bind (Ip x0) λc1=>
  if c1 then
   Option.bind (Ip x1) λc2=>
   if(!c2)then
    some true
   else
   some (decide (x0 < x1))
  else
  some (decide (x0 < x1))) λv3=>
 some v3
def FV (x0:Int):Option (Bool):=
 some (decide (¬ x0=x0))
def C3 (y:U52):Option (U52⊕(LI×(Int×(Int×Int)))):=
 if decide (y.2.2.2.1 < y.2.2.2.2)then
  cZ 1 <|
  gX y.1 (wI (Int.fdiv (IntKind.wrap .u64 (wI (y.2.2.2.1+y.2.2.2.2))) (2 ^ (min (Int.toNat 1) (IntKind.bits .u64))))) λr1=>
  Option.bind (I4 r1 y.2.1) λc2=>
  Option.bind (α:=U52) (
   if c2 then
    some (y.1,y.2.1,y.2.2.1,wI ((wI (Int.fdiv (IntKind.wrap .u64 (wI (y.2.2.2.1+y.2.2.2.2))) (2 ^ (min (Int.toNat 1) (IntKind.bits .u64)))))+1),y.2.2.2.2)
   else
    some (y.1,y.2.1,y.2.2.1,y.2.2.2.1,wI (Int.fdiv (IntKind.wrap .u64 (wI (y.2.2.2.1+y.2.2.2.2))) (2 ^ (min (Int.toNat 1) (IntKind.bits .u64)))))) λv3=>
  some (.inl (v3.1,v3.2.1,v3.2.2.1,v3.2.2.2.1,v3.2.2.2.2))
 else
  some (.inr (y.1,y.2.1,y.2.2.1,y.2.2.2.1))
def CB (x0:LI) (x1:Int):Option ((Int×Bool)):=
 (Ab C3 (x0,x1,(x0.length:Int),0,(x0.length:Int))).bind λv4=>
 Option.bind (α:=(Int×Bool)) (
  if decide (v4.2.2.2 < v4.2.2.1)then
   gX v4.1 v4.2.2.2 λr5=>
   if decide (r5=v4.2.1)then
    some (v4.2.2.2,true)
   else
   gX v4.1 v4.2.2.2 λr6=>
   (FV r6).bind λc7=>
   if c7 then
    (FV v4.2.1).bind λc8=>
    some (v4.2.2.2,c8)
   else
   some (v4.2.2.2,false)
  else
  some (v4.2.2.2,false)) λv9=>
 some (v9.1,v9.2)
def Fc (x0:List Int) (x1:Int) (x2:List Int):Option (List Int):=
 if 0<=x1/\x1.toNat<=x0.length/\x2≠[]/\(x0.length+x2.length) * 8<=140737488355328 then some (x0.take x1.toNat++(x2++x0.drop x1.toNat))else none
def Iv (x0:LI) (x1:Int):Option LI:=
 (CB x0 x1).bind λc1=>
 if c1.2 then
  some x0
 else
  (Fc x0 c1.1 [x1]).bind λc2=>
  some c2
def Eu (y:U27):Option (U27⊕LI):=match y with
 | (a,b,c,d)=>
 if decide (d < c)then
  cZ d <|
  cK (decide (d < (b.length:Int))) <|
  Option.bind (b[0+d.toNat]?) λr2=>
  Option.bind (α:=U27) (
   if decide (¬ r2=0)then
    (Iv a r2).bind λc3=>
    some (c3,b,c,d)
   else
    some (a,b,c,d)) λ(e,f,g,h)=>
  some (.inl (e,f,g,wI (h+1)))
 else
  some (.inr a)
def Jr (x0:Int) (x1:LI) (x2:LL):Option LI:=
 (DP x1).bind λc1=>
 cK (Aa (c1.length+([x0]:LI).length) 8) <|
 (Ab Eu ([],c1++([x0]:LI),((c1++([x0]:LI)).length:Int),0)).bind λv5=>
 some v5
def Iu (x0:Int):Option (Bool):=
 some (decide (¬ x0=0))
def I1 (x0:Int):Option (Bool):=
 some (decide (¬ x0=0))
def A5 (y:(LI×(Int×Int))):Option ((LI×(Int×Int))⊕(Unit⊕Int)):=
 if decide (y.2.2 < y.2.1)then
  gX y.1 y.2.2 λr1=>
  (I1 r1).bind λc2=>
  if c2 then
   some (.inr (.inr y.2.2))
  else
   some (.inl (y.1,y.2.1,wI (y.2.2+1)))
 else
  some (.inr (.inl ()))
def BN (x0:LI):Option (Int):=
 (Ab A5 (x0,(x0.length:Int),0)).bind λv3=>
 match v3 with
 | .inl y4=>
  some (-1)
 | .inr s5=>
  some s5
def A6 (x0:LI):Option (Bool):=
 (BN x0).bind λc1=>
 some (decide (0<=c1))
def Gg (x0:U39) (x1:Int):Option U25:=
 Option.bind (α:=U92) (
   (CN x0 x1).bind λc1=>
   if(!c1)then
    some (x0,x1,true,0,0,[])
   else
   gX x0.1 x1 λr2=>
   gX r2 0 λr3=>
   some (x0,x1,decide (¬ r3=83),0,0,[])) λv4=>
 if v4.2.2.1 then
  some (false,0,0,[])
 else
 gX v4.1.1 v4.2.1 λr5=>
 gX r5 1 λr6=>
 gX r5 2 λr7=>
 Option.bind (α:=AlK) (
   (Bt (IntKind.wrap .i64 r6) 1 250).bind λc8=>
   if(!c8)then
    some (v4.2.1,r5,IntKind.wrap .i64 r6,IntKind.wrap .i64 r7,true,v4.2.2.2.1,v4.2.2.2.2.1,v4.2.2.2.2.2)
   else
    (Bt (IntKind.wrap .i64 r7) 1 40).bind λc9=>
    if(!c9)then
     some (v4.2.1,r5,IntKind.wrap .i64 r6,IntKind.wrap .i64 r7,true,v4.2.2.2.1,v4.2.2.2.2.1,v4.2.2.2.2.2)
    else
    sX (wI (3+(IntKind.wrap .i64 r7))) (r5.length:Int) (r5.length:Int) (r5.length) <|
    (A6 ((List.drop ((wI (3+(IntKind.wrap .i64 r7))).toNat) r5).take ((r5.length:Int).toNat - (wI (3+(IntKind.wrap .i64 r7))).toNat))).bind λc10=>
    some (v4.2.1,r5,IntKind.wrap .i64 r6,IntKind.wrap .i64 r7,c10,v4.2.2.2.1,v4.2.2.2.2.1,v4.2.2.2.2.2)) λv11=>
 if v11.2.2.2.2.1 then
  some (false,0,0,[])
 else
 sX 3 (wI (3+v11.2.2.2.1)) (v11.2.1.length:Int) (v11.2.1.length) <|
 some (true,v11.1,v11.2.2.1,AJ ((List.drop (Int.toNat 3) v11.2.1).take ((wI (3+v11.2.2.2.1)).toNat - Int.toNat 3)))
def A4 (y:(LI×(Int×Int))):Option ((LI×(Int×Int))⊕(Unit⊕Int)):=
 if decide (y.2.2 < y.2.1)then
  gX y.1 y.2.2 λr1=>
  (Iu r1).bind λc2=>
  if c2 then
   some (.inr (.inr y.2.2))
  else
   some (.inl (y.1,y.2.1,wI (y.2.2+1)))
 else
  some (.inr (.inl ()))
def BJ (x0:LI):Option (Int):=
 (Ab A4 (x0,(x0.length:Int),0)).bind λv3=>
 match v3 with
 | .inl y4=>
  some (-1)
 | .inr s5=>
  some s5
def A3 (x0:LI):Option (Bool):=
 (BJ x0).bind λc1=>
 some (decide (0<=c1))
def It (x0 x1:Int) (x2:LB) (x3 x4:Int) (x5:LB):Option U25:=
 some (decide (x0=x3),x3,x4,x5)
def Al (y:U81):Option (U81⊕((Int×(Int×LB))⊕U24)):=
 if decide (y.2.2.1 < y.2.1)then
  gX y.1 y.2.2.1 λr1=>
  (It r1.1 r1.2.1 r1.2.2 y.2.2.2.1 y.2.2.2.2.1 y.2.2.2.2.2).bind λc2=>
  if c2.1 then
   some (.inr (.inr (y.2.2.1,c2.2.1,c2.2.2.1,c2.2.2.2)))
  else
   some (.inl (y.1,y.2.1,wI (y.2.2.1+1),c2.2.1,c2.2.2.1,c2.2.2.2))
 else
  some (.inr (.inl (y.2.2.2.1,y.2.2.2.2.1,y.2.2.2.2.2)))
def Au (x0:List (Int×(Int×LB))) (x1 x2:Int) (x3:LB):Option U24:=
 (Ab Al (x0,(x0.length:Int),0,x1,x2,x3)).bind λv3=>
 match v3 with
 | .inl y4=>
  some ((-1),y4.1,y4.2.1,y4.2.2)
 | .inr s5=>
  some (s5.1,s5.2.1,s5.2.2.1,s5.2.2.2)
def Ah (x0:List (Int×(Int×LB))) (x1 x2:Int) (x3:LB):Option U25:=
 (Au x0 x1 x2 x3).bind λc1=>
 some (decide (0<=c1.1),c1.2.1,c1.2.2.1,c1.2.2.2)
def Df (y:U96):Option (U96⊕(List (Int×(Int×LB))⊕Bool)):=
 if decide (y.2.2.2.2.2 < y.2.2.2.2.1)then
  (CJ y.2.1 (wI (2+(wI (2 * y.2.2.2.2.2))))).bind λc9=>
  (Gg y.1 c9).bind λc10=>
  Option.bind (α:=Alr) (
    if(!c10.1)then
     some (y.1,y.2.1,y.2.2.1,y.2.2.2.1,y.2.2.2.2.1,y.2.2.2.2.2,true,c10.2.1,c10.2.2.1,c10.2.2.2)
    else
    if decide (wI (y.2.2.2.2.2+1) < y.2.2.1)then
     if decide ((c10.2.2.2.length:Int) < 40)then
      some (y.1,y.2.1,y.2.2.1,y.2.2.2.1,y.2.2.2.2.1,y.2.2.2.2.2,true,c10.2.1,c10.2.2.1,c10.2.2.2)
     else
      (Ah y.2.2.2.1 c10.2.1 c10.2.2.1 c10.2.2.2).bind λc11=>
      some (y.1,y.2.1,y.2.2.1,y.2.2.2.1,y.2.2.2.2.1,y.2.2.2.2.2,c11.1,c11.2.1,c11.2.2.1,c11.2.2.2)
    else
    (Ah y.2.2.2.1 c10.2.1 c10.2.2.1 c10.2.2.2).bind λc13=>
    some (y.1,y.2.1,y.2.2.1,y.2.2.2.1,y.2.2.2.2.1,y.2.2.2.2.2,c13.1,c13.2.1,c13.2.2.1,c13.2.2.2)) λv14=>
  if v14.2.2.2.2.2.2.1 then
   some (.inr (.inr false))
  else
  cK (Aa (v14.2.2.2.1.length+([(v14.2.2.2.2.2.2.2.1,(v14.2.2.2.2.2.2.2.2.1,v14.2.2.2.2.2.2.2.2.2))]:List (Int×(Int×LB))).length) 32) <|
  some (.inl (v14.1,v14.2.1,v14.2.2.1,v14.2.2.2.1++([(v14.2.2.2.2.2.2.2.1,(v14.2.2.2.2.2.2.2.2.1,v14.2.2.2.2.2.2.2.2.2))]:List (Int×(Int×LB))),v14.2.2.2.2.1,wI (v14.2.2.2.2.2.1+1)))
 else
  some (.inr (.inl y.2.2.2.1))
def HH (x0:U39) (x1:Int):Option U3:=
 Option.bind (α:=U19) (
   (CN x0 x1).bind λc1=>
   if(!c1)then
    some (x0,x1,true)
   else
   gX x0.1 x1 λr2=>
   gX r2 0 λr3=>
   some (x0,x1,decide (¬ r3=84))) λv4=>
 if v4.2.2 then
  some ([],false)
 else
 gX v4.1.1 v4.2.1 λr5=>
 gX r5 1 λr6=>
 Option.bind (α:=U48) (
   if decide (3 < (IntKind.wrap .i64 r6))then
    some (v4.1,r5,IntKind.wrap .i64 r6,true)
   else
   sX (wI (2+(wI (2 * (IntKind.wrap .i64 r6))))) (r5.length:Int) (r5.length:Int) (r5.length) <|
   (A3 ((List.drop ((wI (2+(wI (2 * (IntKind.wrap .i64 r6))))).toNat) r5).take ((r5.length:Int).toNat - (wI (2+(wI (2 * (IntKind.wrap .i64 r6))))).toNat))).bind λc7=>
   some (v4.1,r5,IntKind.wrap .i64 r6,c7)) λv8=>
 if v8.2.2.2 then
  some ([],false)
 else
  (Ab Df (v8.1,v8.2.1,v8.2.2.1,[],v8.2.2.1,0)).bind λv15=>
  match v15 with
  | .inl y16=>
   some (y16,true)
  | .inr s17=>
   some ([],s17)
def Ez (y:U86):Option (U86⊕(Int×(LB×LI))):=match y with
 | (a,b,c,d,e,f)=>
 if decide (f < e)then
  cZ f <|
  cK (decide (f < (d.length:Int))) <|
  Option.bind (d[0+f.toNat]?) λr2=>
  Option.bind (d[0+f.toNat]?) λr3=>
  Option.bind (d[0+f.toNat]?) λr4=>
  cK (decide ((b.length+r4.2.2.length:Nat)<=9223372036854775807)) <|
  cK (Aa (c.length+([r2.1]:LI).length) 8) <|
  some (.inl (a,(b:LB)++r4.2.2,c++([r2.1]:LI),d,e,wI (f+1)))
 else
  some (.inr (a,b,c))
def I9 (x0:U39) (x1:Int):Option U11:=
 (HH x0 x1).bind λc1=>
 if(!c1.2)then
  some (([]:LB),[],false)
 else
  (Ab Ez (x1,([]:LB),[],c1.1,(c1.1.length:Int),0)).bind λ(a,b,c)=>
  cK (Aa (c.length+([a]:LI).length) 8) <|
  some (b,c++([a]:LI),true)
def HA (y:U76):Option (U76⊕U29):=match y with
 | (a,b,c,d,e,f)=>
 cZ d <|
 if decide (wI ((wI (e+1)) * 2 ^ (min (d.toNat) (IntKind.bits .i64)))<=b)then
  cK (Aa (c.length+([(d,e)]:List (Int×Int)).length) 16) <|
  some (.inl (a,b,c++([(d,e)]:List (Int×Int)),d,wI (e+1),f))
 else
  some (.inr (a,b,c,f))
def Ff (y:U29):Option (U29⊕(List (Int×Int))):=match y with
 | (a,b,c,d)=>
 if decide (d < 6)then
  cZ d <|
  cZ d <|
  (Ab HA (a,b,c,d,Int.fdiv (wI ((wI (a+(wI (1 * 2 ^ (min (d.toNat) (IntKind.bits .i64)))))) - 1)) (2 ^ (min (d.toNat) (IntKind.bits .i64))),d)).bind λ(e,f,g,h)=>
  some (.inl (e,f,g,wI (h+1)))
 else
  some (.inr c)
def Kd (x0 x1:Int):Option (List (Int×Int)):=
 (Ab Ff (x0,x1,[],0)).bind λv2=>
 some v2
def Oe (x0 x1:Int):Option (Int):=
 Option.bind (α:=(Bool×(Int×Int))) (
   (Bt x0 0 5).bind λc1=>
   if(!c1)then
    some (true,x0,x1)
   else
    (Bt x1 0 63).bind λc2=>
    some ((!c2),x0,x1)) λ(a,b,c)=>
 if a then
  some (-1)
 else
  some (wI ((wI (64 * b))+c))
def Fo (x0:Int) (x1:LI) (x2:LL) (x3:Int):Option (Int):=
 cK (decide (¬ (32:Int)=0)) <|
 gX x2 (wI (Int.tdiv x3 32)) λr1=>
 cK (decide (¬ (32:Int)=0)) <|
 gX r1 (Int.tmod x3 32) λr2=>
 some r2
def IC (x0:Int):Option (Bool):=
 some (decide (¬ x0=0))
def AY (y:(LI×(Int×Int))):Option ((LI×(Int×Int))⊕(Unit⊕Int)):=
 if decide (y.2.2 < y.2.1)then
  gX y.1 y.2.2 λr1=>
  (IC r1).bind λc2=>
  if c2 then
   some (.inr (.inr y.2.2))
  else
   some (.inl (y.1,y.2.1,wI (y.2.2+1)))
 else
  some (.inr (.inl ()))
def BI (x0:LI):Option (Int):=
 (Ab AY (x0,(x0.length:Int),0)).bind λv3=>
 match v3 with
 | .inl y4=>
  some (-1)
 | .inr s5=>
  some s5
def Av (x0:LI):Option (Bool):=
 (BI x0).bind λc1=>
 some (decide (0<=c1))
def EQ (y:U49):Option (U49⊕(LI×(LI×Bool))):=match y with
 | (a,b,c,d)=>
 Option.bind (α:=U72) (
   (CN a b).bind λc1=>
   if(!c1)then
    some (a,b,c,d,true)
   else
    (AN d b).bind λc2=>
    if c2 then
     some (a,b,c,d,true)
    else
    some (a,b,c,d,decide ((d.length:Int)=9))) λ(e,f,g,h,i)=>
 if i then
  some (.inr ([],[],false))
 else
 gX e.1 f λr4=>
 (CJ r4 1).bind λc5=>
 gX r4 3 λr6=>
 Option.bind (α:=Als) (
   gX r4 0 λr7=>
   if decide (¬ r7=82)then
    some (e,f,g,h,r4,c5,IntKind.wrap .i64 r6,true)
   else
   if decide (124 < (IntKind.wrap .i64 r6))then
    some (e,f,g,h,r4,c5,IntKind.wrap .i64 r6,true)
   else
   if decide (¬ c5=0)then
    if decide (IntKind.wrap .i64 r6 < 124)then
     some (e,f,g,h,r4,c5,IntKind.wrap .i64 r6,true)
    else
    if decide (IntKind.wrap .i64 r6=0)then
     if(!(decide ((h.length:Int)=0)))then
      some (e,f,g,h,r4,c5,IntKind.wrap .i64 r6,true)
     else
     sX (wI (4+(IntKind.wrap .i64 r6))) (r4.length:Int) (r4.length:Int) (r4.length) <|
     (Av ((List.drop ((wI (4+(IntKind.wrap .i64 r6))).toNat) r4).take ((r4.length:Int).toNat - (wI (4+(IntKind.wrap .i64 r6))).toNat))).bind λc8=>
     some (e,f,g,h,r4,c5,IntKind.wrap .i64 r6,c8)
    else
    sX (wI (4+(IntKind.wrap .i64 r6))) (r4.length:Int) (r4.length:Int) (r4.length) <|
    (Av ((List.drop ((wI (4+(IntKind.wrap .i64 r6))).toNat) r4).take ((r4.length:Int).toNat - (wI (4+(IntKind.wrap .i64 r6))).toNat))).bind λc10=>
    some (e,f,g,h,r4,c5,IntKind.wrap .i64 r6,c10)
   else
   if decide (IntKind.wrap .i64 r6=0)then
    if(!(decide ((h.length:Int)=0)))then
     some (e,f,g,h,r4,c5,IntKind.wrap .i64 r6,true)
    else
    sX (wI (4+(IntKind.wrap .i64 r6))) (r4.length:Int) (r4.length:Int) (r4.length) <|
    (Av ((List.drop ((wI (4+(IntKind.wrap .i64 r6))).toNat) r4).take ((r4.length:Int).toNat - (wI (4+(IntKind.wrap .i64 r6))).toNat))).bind λc14=>
    some (e,f,g,h,r4,c5,IntKind.wrap .i64 r6,c14)
   else
   sX (wI (4+(IntKind.wrap .i64 r6))) (r4.length:Int) (r4.length:Int) (r4.length) <|
   (Av ((List.drop ((wI (4+(IntKind.wrap .i64 r6))).toNat) r4).take ((r4.length:Int).toNat - (wI (4+(IntKind.wrap .i64 r6))).toNat))).bind λc16=>
   some (e,f,g,h,r4,c5,IntKind.wrap .i64 r6,c16)) λ(j,k,l,m,n,o,p,q)=>
 if q then
  some (.inr ([],[],false))
 else
 sX 4 (wI (4+p)) (n.length:Int) (n.length) <|
 cK (Aa (l.length+((List.drop (Int.toNat 4) n).take ((wI (4+p)).toNat - Int.toNat 4)).length) 1) <|
 cK (Aa (m.length+([k]:LI).length) 8) <|
 if decide (o=0)then
  some (.inr (l++((List.drop (Int.toNat 4) n).take ((wI (4+p)).toNat - Int.toNat 4)),m++([k]:LI),true))
 else
  some (.inl (j,o,l++((List.drop (Int.toNat 4) n).take ((wI (4+p)).toNat - Int.toNat 4)),m++([k]:LI)))
def Hn (x0:U39) (x1:Int):Option ((LI×(LI×Bool))):=
 (Ab EQ (x0,x1,[],[])).bind λ(a,b,c)=>
 some (a,b,c)
def DZ (x0 x1:Int) (x2:LB):Option (Int):=
 Option.bind (α:=U25) (
   if decide (0 < x0)then
    if decide (x1=0)then
     some (((x2:LB) == ([]:LB)),x0,x1,x2)
    else
    some (false,x0,x1,x2)
   else
   some (false,x0,x1,x2)) λv1=>
 if v1.1 then
  some 1
 else
  Option.bind (α:=U25) (
    if decide (0 < v1.2.2.1)then
     if decide (v1.2.1=0)then
      some (((v1.2.2.2:LB) == ([]:LB)),v1.2.1,v1.2.2.1,v1.2.2.2)
     else
     some (false,v1.2.1,v1.2.2.1,v1.2.2.2)
    else
    some (false,v1.2.1,v1.2.2.1,v1.2.2.2)) λv2=>
  if v2.1 then
   some 2
  else
   Option.bind (α:=Bool) (
     if(!((v2.2.2.2:LB) == ([]:LB)))then
      if decide (v2.2.1=0)then
       some (decide (v2.2.2.1=0))
      else
      some false
     else
     some false) λv3=>
   if v3 then
    some 3
   else
    some 0
def QE (y:U62):Option (U62⊕((Int×Int)⊕(Int×(Int×Bool)))):=
 if decide (y.2.2.2.2 < y.2.2.2.1)then
  gX y.2.2.1 y.2.2.2.2 λr1=>
  Option.bind (α:=Ajm) (
    if decide (120 < r1.1)then
     some (y.1,y.2.1,y.2.2.1,y.2.2.2.1,y.2.2.2.2,true,r1.1,r1.2.1,r1.2.2)
    else
    some (y.1,y.2.1,y.2.2.1,y.2.2.2.1,y.2.2.2.2,decide (120 < r1.2.1),r1.1,r1.2.1,r1.2.2)) λv2=>
  if v2.2.2.2.2.2.1 then
   some (.inr (.inr (0,0,false)))
  else
   Option.bind (α:=U79) (
     if decide (120 < (wI (v2.1+(wI (v2.2.2.2.2.2.2.1+v2.2.2.2.2.2.2.2.1)))))then
      some (wI (v2.1+(wI (v2.2.2.2.2.2.2.1+v2.2.2.2.2.2.2.2.1))),wI (v2.2.1+(wI (v2.2.2.2.2.2.2.1+(v2.2.2.2.2.2.2.2.2.length:Int)))),v2.2.2.1,v2.2.2.2.1,v2.2.2.2.2.1,true)
     else
     some (wI (v2.1+(wI (v2.2.2.2.2.2.2.1+v2.2.2.2.2.2.2.2.1))),wI (v2.2.1+(wI (v2.2.2.2.2.2.2.1+(v2.2.2.2.2.2.2.2.2.length:Int)))),v2.2.2.1,v2.2.2.2.1,v2.2.2.2.2.1,decide (120 < (wI (v2.2.1+(wI (v2.2.2.2.2.2.2.1+(v2.2.2.2.2.2.2.2.2.length:Int)))))))) λv3=>
   if v3.2.2.2.2.2 then
    some (.inr (.inr (0,0,false)))
   else
    some (.inl (v3.1,v3.2.1,v3.2.2.1,v3.2.2.2.1,wI (v3.2.2.2.2.1+1)))
 else
  some (.inr (.inl (y.1,y.2.1)))
def KD (x0:List (Int×(Int×LB))):Option ((Int×(Int×Bool))):=
 (Ab QE (0,0,x0,(x0.length:Int),0)).bind λv4=>
 match v4 with
 | .inl y5=>
  some (y5.1,y5.2,true)
 | .inr s6=>
  some (s6.1,s6.2.1,s6.2.2)
def Jp (y:U47):Option (U47⊕(List (Int×(Int×LB))⊕Bool)):=
 if decide (y.2.2.2 < y.2.2.1)then
  gX y.2.1 y.2.2.2 λr1=>
  (DZ r1.1 r1.2.1 r1.2.2).bind λc2=>
  Option.bind (α:=U71) (
    if decide (c2=0)then
     some (y.1,y.2.1,y.2.2.1,y.2.2.2,true)
    else
    if decide (0 < y.2.2.2)then
     gX y.1 (wI (y.2.2.2 - 1)) λr3=>
     (DZ r3.1 r3.2.1 r3.2.2).bind λc4=>
     some (y.1,y.2.1,y.2.2.1,y.2.2.2,decide (c4=c2))
    else
    some (y.1,y.2.1,y.2.2.1,y.2.2.2,false)) λv5=>
  if v5.2.2.2.2 then
   some (.inr (.inr false))
  else
   some (.inl (v5.1,v5.2.1,v5.2.2.1,wI (v5.2.2.2.1+1)))
 else
  some (.inr (.inl y.1))
def Fq (x0:List (Int×(Int×LB))):Option (Bool):=
 (Ab Jp (x0,x0,(x0.length:Int),0)).bind λv6=>
 match v6 with
 | .inl y7=>
  (KD y7).bind λc9=>
  some c9.2.2
 | .inr s8=>
  some s8
def AE (y:U4):Option (U4⊕(List (Int×(Int×LB))⊕Bool)):=
 if decide (0 < (y.1.length:Int))then
  if decide ((y.1.length:Int) < 2)then
   some (.inr (.inr false))
  else
  gX y.1 0 λr1=>
  gX y.1 1 λr2=>
  sX 2 (y.1.length:Int) (y.1.length:Int) (y.1.length) <|
  Option.bind (α:=U4⊕Bool) (
    if decide (r1=1)then
     cK (Aa (y.2.length+([(IntKind.wrap .i64 r2,(0,[]))]:List (Int×(Int×LB))).length) 32) <|
     some (.inl ((List.drop (Int.toNat 2) y.1).take ((y.1.length:Int).toNat - Int.toNat 2),y.2++([(IntKind.wrap .i64 r2,(0,[]))]:List (Int×(Int×LB)))))
    else
     Option.bind (α:=U4⊕Bool) (
       if decide (r1=2)then
        cK (Aa (y.2.length+([(0,(IntKind.wrap .i64 r2,[]))]:List (Int×(Int×LB))).length) 32) <|
        some (.inl ((List.drop (Int.toNat 2) y.1).take ((y.1.length:Int).toNat - Int.toNat 2),y.2++([(0,(IntKind.wrap .i64 r2,[]))]:List (Int×(Int×LB)))))
       else
        Option.bind (α:=U42) (
          if decide (r1=3)then
           some ((List.drop (Int.toNat 2) y.1).take ((y.1.length:Int).toNat - Int.toNat 2),y.2,IntKind.wrap .i64 r2,decide (IntKind.wrap .i64 r2<=(((List.drop (Int.toNat 2) y.1).take ((y.1.length:Int).toNat - Int.toNat 2)).length:Int)))
          else
          some ((List.drop (Int.toNat 2) y.1).take ((y.1.length:Int).toNat - Int.toNat 2),y.2,IntKind.wrap .i64 r2,false)) λv3=>
        if v3.2.2.2 then
         sX 0 v3.2.2.1 (v3.1.length:Int) (v3.1.length) <|
         cK (Aa (v3.2.1.length+([(0,(0,AJ ((List.drop (Int.toNat 0) v3.1).take (v3.2.2.1.toNat - Int.toNat 0))))]:List (Int×(Int×LB))).length) 32) <|
         sX v3.2.2.1 (v3.1.length:Int) (v3.1.length:Int) (v3.1.length) <|
         some (.inl ((List.drop (v3.2.2.1.toNat) v3.1).take ((v3.1.length:Int).toNat - v3.2.2.1.toNat),v3.2.1++([(0,(0,AJ ((List.drop (Int.toNat 0) v3.1).take (v3.2.2.1.toNat - Int.toNat 0))))]:List (Int×(Int×LB)))))
        else
         some (.inr false)) λv4=>
     match v4 with
     | .inl y5=>
      some (.inl (y5.1,y5.2))
     | .inr s6=>
      some (.inr s6)) λv7=>
  match v7 with
  | .inl y8=>
   some (.inl (y8.1,y8.2))
  | .inr s9=>
   some (.inr (.inr s9))
 else
  some (.inr (.inl y.2))
def E4 (x0:LI):Option U3:=
 (Ab AE (x0,[])).bind λv10=>
 match v10 with
 | .inl y11=>
  (Fq y11).bind λc13=>
  if(!c13)then
   some ([],false)
  else
   some (y11,true)
 | .inr s12=>
  some ([],s12)
def PG (y:AcE):Option (AcE⊕((Int×Int)⊕Bool)):=
 if decide (y.2.2.2.2.2.2 < y.2.2.2.2.2.1)then
  gX y.2.2.2.2.1 y.2.2.2.2.2.2 λr4=>
  Option.bind (α:=Aj5) (
    (Bt r4.1 0 y.2.2.1).bind λc5=>
    if(!c5)then
     some (y.1,y.2.1,y.2.2.1,y.2.2.2.1,y.2.2.2.2.1,y.2.2.2.2.2.1,y.2.2.2.2.2.2,true,r4.1,r4.2)
    else
     (Bt r4.2 1 120).bind λc6=>
     if(!c6)then
      some (y.1,y.2.1,y.2.2.1,y.2.2.2.1,y.2.2.2.2.1,y.2.2.2.2.2.1,y.2.2.2.2.2.2,true,r4.1,r4.2)
     else
     if decide (0 < y.2.2.2.2.2.2)then
      gX y.1 (wI (y.2.2.2.2.2.2 - 1)) λr7=>
      some (y.1,y.2.1,y.2.2.1,y.2.2.2.1,y.2.2.2.2.1,y.2.2.2.2.2.1,y.2.2.2.2.2.2,decide (r7.1=r4.1),r4.1,r4.2)
     else
     some (y.1,y.2.1,y.2.2.1,y.2.2.2.1,y.2.2.2.2.1,y.2.2.2.2.2.1,y.2.2.2.2.2.2,false,r4.1,r4.2)) λv8=>
  if v8.2.2.2.2.2.2.2.1 then
   some (.inr (.inr false))
  else
  if decide (v8.2.1 < (wI (v8.2.2.2.1+v8.2.2.2.2.2.2.2.2.2)))then
   some (.inr (.inr false))
  else
   some (.inl (v8.1,v8.2.1,v8.2.2.1,wI (v8.2.2.2.1+v8.2.2.2.2.2.2.2.2.2),v8.2.2.2.2.1,v8.2.2.2.2.2.1,wI (v8.2.2.2.2.2.2.1+1)))
 else
  some (.inr (.inl (y.2.1,y.2.2.2.1)))
def Jg (x0:List (Int×Int)) (x1 x2:Int):Option (Bool):=
 Option.bind (α:=U31) (
   (Bt x1 0 120).bind λc1=>
   if(!c1)then
    some (x0,x1,x2,true)
   else
    (Bt x2 0 60).bind λc2=>
    some (x0,x1,x2,(!c2))) λv3=>
 if v3.2.2.2 then
  some false
 else
  (Ab PG (v3.1,v3.2.1,v3.2.2.1,0,v3.1,(v3.1.length:Int),0)).bind λv9=>
  match v9 with
  | .inl y10=>
   some (decide (y10.2=y10.1))
  | .inr s11=>
   some s11
def Cr (y:U58):Option (U58⊕((List (Int×Int)×Int)⊕Bool)):=
 if decide (y.2.2.2.2 < y.2.2.2.1)then
  gX y.2.2.1 y.2.2.2.2 λr1=>
  Option.bind (α:=AkY) (
    (Bt r1.2 1 120).bind λc2=>
    if(!c2)then
     some (y.1,y.2.1,y.2.2.1,y.2.2.2.1,y.2.2.2.2,true,r1.1,r1.2)
    else
    some (y.1,y.2.1,y.2.2.1,y.2.2.2.1,y.2.2.2.2,decide (120 < y.2.1),r1.1,r1.2)) λv3=>
  if v3.2.2.2.2.2.1 then
   some (.inr (.inr false))
  else
   some (.inl (v3.1,wI (v3.2.1+v3.2.2.2.2.2.2.2),v3.2.2.1,v3.2.2.2.1,wI (v3.2.2.2.2.1+1)))
 else
  some (.inr (.inl (y.1,y.2.1)))
def Jo (x0:List (Int×Int)):Option (Bool):=
 (Ab Cr (x0,0,x0,(x0.length:Int),0)).bind λv4=>
 match v4 with
 | .inl y5=>
  (Jg y5.1 y5.2 60).bind λc7=>
  some c7
 | .inr s6=>
  some s6
def BA:List Int->List (Int×Int)
 | a::b::r=>(a,b)::BA r
 | _=>[]
def Hm (x0:List Int):Option (List (Int×Int)×Bool):=
 if x0.length<=1048576/\∀x∈x0,0<=x/\x<=255 then(if x0.length % 2=0 then Option.bind (Jo (BA x0)) λok=>some (if ok=true then(BA x0,true)else([],false))else some ([],false))else none
def Kb (x0:List (Int×(Int×LB))):Option ((Int×(Int×Bool))):=
 (Fq x0).bind λc1=>
 if(!c1)then
  some (0,0,false)
 else
  (KD x0).bind λc2=>
  some (c2.1,c2.2.1,c2.2.2)
def QK (y:U43):Option (U43⊕(Unit⊕Bool)):=
 if decide (y.2.2.2 < y.2.2.1)then
  gX y.2.1 y.2.2.2 λr1=>
  (Kb r1).bind λc2=>
  Option.bind (α:=U66) (
    if(!c2.2.2)then
     some (c2.2.1,y.2.1,y.2.2.1,y.2.2.2,true)
    else
    some (c2.2.1,y.2.1,y.2.2.1,y.2.2.2,decide (¬ c2.1=y.1))) λv3=>
  if v3.2.2.2.2 then
   some (.inr (.inr false))
  else
   some (.inl (v3.1,v3.2.1,v3.2.2.1,wI (v3.2.2.2.1+1)))
 else
  some (.inr (.inl ()))
def M1 (x0:Int) (x1:List (List (Int×(Int×LB)))):Option (Bool):=
 (Ab QK (x0,x1,(x1.length:Int),0)).bind λv4=>
 match v4 with
 | .inl y5=>
  some true
 | .inr s6=>
  some s6
def F8 (x0:Int) (x1:LB) (x2:List (Int×Int)) (x3:List (List (Int×(Int×LB)))):Option (Bool):=
 Option.bind (α:=Bool) (
  (Bt x0 0 60).bind λc1=>
  if c1 then
   if decide ((x1.length:Int)<=120)then
    (Jg x2 (x1.length:Int) x0).bind λc2=>
    if c2 then
     if decide ((x3.length:Int)<=(wI (60 - x0)))then
      (M1 (x1.length:Int) x3).bind λc3=>
      some c3
     else
     some false
    else
    some false
   else
   some false
  else
  some false) λv4=>
 some v4
def E8 (x0 x1:Int):Option (Int):=
 cZ x0 <|
 some (wI (x1 * 2 ^ (min (x0.toNat) (IntKind.bits .i64))))
def Hb (x0 x1:Int):Option (Int):=
 cZ x0 <|
 some (wI ((wI (x1+1)) * 2 ^ (min (x0.toNat) (IntKind.bits .i64))))
def Hl (y:U88):Option (U88⊕LB):=
 if decide (y.2.2.2.2.2 < y.2.2.2.2.1)then
  gX y.2.2.2.1 y.2.2.2.2.2 λr1=>
  sX y.2.2.1 (wI (y.2.2.1+r1.1)) (y.1.length:Int) (y.1.length) <|
  cK (decide (((((y.1:LB).drop (y.2.2.1.toNat)).take ((wI (y.2.2.1+r1.1)).toNat - y.2.2.1.toNat)).length+r1.2.2.length:Nat)<=9223372036854775807)) <|
  cK (decide ((y.2.1.length+((((y.1:LB).drop (y.2.2.1.toNat)).take ((wI (y.2.2.1+r1.1)).toNat - y.2.2.1.toNat):LB)++r1.2.2).length:Nat)<=9223372036854775807)) <|
  some (.inl (y.1,(y.2.1:LB)++((((y.1:LB).drop (y.2.2.1.toNat)).take ((wI (y.2.2.1+r1.1)).toNat - y.2.2.1.toNat):LB)++r1.2.2),wI (y.2.2.1+(wI (r1.1+r1.2.1))),y.2.2.2.1,y.2.2.2.2.1,wI (y.2.2.2.2.2+1)))
 else
  some (.inr y.2.1)
def Oj (x0:LB) (x1:List (Int×(Int×LB))):Option LB:=
 (Ab Hl (x0,([]:LB),0,x1,(x1.length:Int),0)).bind λv2=>
 some v2
def DL (y:U46):Option (U46⊕LB):=
 if decide (y.2.2.2 < y.2.2.1)then
  gX y.2.1 y.2.2.2 λr1=>
  (Oj y.1 r1).bind λc2=>
  some (.inl (c2,y.2.1,y.2.2.1,wI (y.2.2.2+1)))
 else
  some (.inr y.1)
def D2 (x0:Int) (x1:LB) (x2:List (Int×Int)) (x3:List (List (Int×(Int×LB)))) (x4:Int):Option LB:=
 sX 0 (wI (x4 - x0)) (x3.length:Int) (x3.length) <|
 (Ab DL (x1,(List.drop (Int.toNat 0) x3).take ((wI (x4 - x0)).toNat - Int.toNat 0),(((List.drop (Int.toNat 0) x3).take ((wI (x4 - x0)).toNat - Int.toNat 0)).length:Int),0)).bind λv3=>
 some v3
def TH (x0:Int):Option (List (Int×(Int×LB))):=
 if decide (x0=0)then
  some []
 else
  some [(x0,(0,[]))]
def KN (y:Ajn):Option (Ajn⊕U69):=
 if decide (y.2.2.2.2.1 < y.2.2.2.1)then
  cK (Aa (y.2.2.2.2.2.1.length+([decide (0 < y.2.2.2.2.2.2.2.1)]:List Bool).length) 1) <|
  cK (Aa (y.2.2.2.2.2.2.1.length+([([]:LB)]:List LB).length) 16) <|
  some (.inl (y.1,y.2.1,y.2.2.1,y.2.2.2.1,wI (y.2.2.2.2.1+1),y.2.2.2.2.2.1++([decide (0 < y.2.2.2.2.2.2.2.1)]:List Bool),y.2.2.2.2.2.2.1++([([]:LB)]:List LB),y.2.2.2.2.2.2.2.1,y.2.2.2.2.2.2.2.2.1,y.2.2.2.2.2.2.2.2.2))
 else
  some (.inr (y.1,y.2.1,y.2.2.1,y.2.2.2.2.2.1,y.2.2.2.2.2.2.1))
def Kz (y:U69):Option (U69⊕(List Bool×List LB)):=
 if decide (y.2.2.1 < y.2.1)then
  gX y.1 y.2.2.1 λr6=>
  cZ (wI ((y.2.2.2.2.length:Int) - 1)) <|
  cK (decide (wI ((y.2.2.2.2.length:Int) - 1) < (y.2.2.2.2.length:Int))) <|
  Option.bind (y.2.2.2.2[0+(wI ((y.2.2.2.2.length:Int) - 1)).toNat]?) λr7=>
  cK (decide ((r7.length+r6.2.2.length:Nat)<=9223372036854775807)) <|
  cZ (wI ((y.2.2.2.2.length:Int) - 1)) <|
  cK (decide (wI ((y.2.2.2.2.length:Int) - 1) < (y.2.2.2.2.length:Int))) <|
  Option.bind (y.2.2.2.2[0+(wI ((y.2.2.2.2.length:Int) - 1)).toNat]?) λr8=>
  Option.bind (y.2.2.2.2[0+(wI ((y.2.2.2.2.length:Int) - 1)).toNat]?) λr9=>
  (Ab KN (y.1,y.2.1,y.2.2.1,wI (r6.1+r6.2.1),0,y.2.2.2.1,y.2.2.2.2.set (0+(wI ((y.2.2.2.2.length:Int) - 1)).toNat) ((r7:LB)++r6.2.2),r6.1,r6.2.1,r6.2.2)).bind λv10=>
  some (.inl (v10.1,v10.2.1,wI (v10.2.2.1+1),v10.2.2.2.1,v10.2.2.2.2))
 else
  some (.inr (y.2.2.2.1,y.2.2.2.2))
def P3 (x0:List (Int×(Int×LB))):Option ((List Bool×List LB)):=
 (Ab Kz (x0,(x0.length:Int),0,[],[([]:LB)])).bind λv11=>
 some (v11.1,v11.2)
def DF (x0 x1:Int) (x2:LB) (x3:List (Int×(Int×LB))):Option (List (Int×(Int×LB))):=
 Option.bind (α:=List (Int×(Int×LB))) (
  if decide (x0=0) && (decide (x1=0) && (((x2:LB) == []) && true))then
   some x3
  else
   Option.bind (α:=U84) (
    if decide (0 < (x3.length:Int))then
     cZ (wI ((x3.length:Int) - 1)) <|
     cK (decide (wI ((x3.length:Int) - 1) < (x3.length:Int))) <|
     Option.bind (x3[0+(wI ((x3.length:Int) - 1)).toNat]?) λr1=>
     Option.bind (x3[0+(wI ((x3.length:Int) - 1)).toNat]?) λr2=>
     Option.bind (x3[0+(wI ((x3.length:Int) - 1)).toNat]?) λr3=>
     (DZ r1.1 r2.2.1 r3.2.2).bind λc4=>
     (DZ x0 x1 x2).bind λc5=>
     some ((x3.length:Int),decide (c4=c5),x0,x1,x2,x3)
    else
    some ((x3.length:Int),false,x0,x1,x2,x3)) λv6=>
   Option.bind (α:=List (Int×(Int×LB))) (
    if v6.2.1 then
     cZ (wI (v6.1 - 1)) <|
     cK (decide (wI (v6.1 - 1) < (v6.2.2.2.2.2.length:Int))) <|
     Option.bind (v6.2.2.2.2.2[0+(wI (v6.1 - 1)).toNat]?) λr7=>
     Option.bind (v6.2.2.2.2.2[0+(wI (v6.1 - 1)).toNat]?) λr8=>
     Option.bind (v6.2.2.2.2.2[0+(wI (v6.1 - 1)).toNat]?) λr9=>
     cK (decide ((r9.2.2.length+v6.2.2.2.2.1.length:Nat)<=9223372036854775807)) <|
     Option.bind (v6.2.2.2.2.2[0+(wI (v6.1 - 1)).toNat]?) λr10=>
     Option.bind (v6.2.2.2.2.2[0+(wI (v6.1 - 1)).toNat]?) λr11=>
     Option.bind ((v6.2.2.2.2.2.set (0+(wI (v6.1 - 1)).toNat) (wI (r7.1+v6.2.2.1),r11.2))[0+(wI (v6.1 - 1)).toNat]?) λr12=>
     Option.bind ((v6.2.2.2.2.2.set (0+(wI (v6.1 - 1)).toNat) (wI (r7.1+v6.2.2.1),r11.2))[0+(wI (v6.1 - 1)).toNat]?) λr13=>
     Option.bind (((v6.2.2.2.2.2.set (0+(wI (v6.1 - 1)).toNat) (wI (r7.1+v6.2.2.1),r11.2)).set (0+(wI (v6.1 - 1)).toNat) (r13.1,(wI (r8.2.1+v6.2.2.2.1),r13.2.2)))[0+(wI (v6.1 - 1)).toNat]?) λr14=>
     Option.bind (((v6.2.2.2.2.2.set (0+(wI (v6.1 - 1)).toNat) (wI (r7.1+v6.2.2.1),r11.2)).set (0+(wI (v6.1 - 1)).toNat) (r13.1,(wI (r8.2.1+v6.2.2.2.1),r13.2.2)))[0+(wI (v6.1 - 1)).toNat]?) λr15=>
     some (((v6.2.2.2.2.2.set (0+(wI (v6.1 - 1)).toNat) (wI (r7.1+v6.2.2.1),r11.2)).set (0+(wI (v6.1 - 1)).toNat) (r13.1,(wI (r8.2.1+v6.2.2.2.1),r13.2.2))).set (0+(wI (v6.1 - 1)).toNat) (r15.1,(r15.2.1,(r9.2.2:LB)++v6.2.2.2.2.1)))
    else
    cK (Aa (v6.2.2.2.2.2.length+([(v6.2.2.1,(v6.2.2.2.1,v6.2.2.2.2.1))]:List (Int×(Int×LB))).length) 32) <|
    some (v6.2.2.2.2.2++([(v6.2.2.1,(v6.2.2.2.1,v6.2.2.2.2.1))]:List (Int×(Int×LB))))) λv16=>
   some v16) λv17=>
 some v17
def Ni (y:U94):Option (U94⊕(List (Int×(Int×LB)))):=
 if decide (y.2.2.1 < y.2.1)then
  gX y.1 y.2.2.1 λr9=>
  Option.bind (α:=Alh) (
   if(!((r9:LB) == ([]:LB)))then
    (DF 0 0 r9 y.2.2.2.2.2).bind λc10=>
    some (y.2.2.1,y.1,y.2.1,y.2.2.1,y.2.2.2.1,y.2.2.2.2.1,c10)
   else
    some (y.2.2.1,y.1,y.2.1,y.2.2.1,y.2.2.2.1,y.2.2.2.2.1,y.2.2.2.2.2)) λv11=>
  Option.bind (α:=U94) (
   if decide (v11.1=(v11.2.2.2.2.1.length:Int))then
    some (v11.2.1,v11.2.2.1,v11.2.2.2.1,v11.2.2.2.2.1,v11.2.2.2.2.2.1,v11.2.2.2.2.2.2)
   else
   gX v11.2.2.2.2.1 v11.1 λr12=>
   Option.bind (α:=U94) (
     if r12 then
      (DF 1 0 [] v11.2.2.2.2.2.2).bind λc13=>
      some (v11.2.1,v11.2.2.1,v11.2.2.2.1,v11.2.2.2.2.1,v11.2.2.2.2.2.1,c13)
     else
      (DF 0 1 [] v11.2.2.2.2.2.2).bind λc14=>
      some (v11.2.1,v11.2.2.1,v11.2.2.2.1,v11.2.2.2.2.1,v11.2.2.2.2.2.1,c14)) λv15=>
   some (v15.1,v15.2.1,v15.2.2.1,v15.2.2.2.1,v15.2.2.2.2.1,v15.2.2.2.2.2)) λv16=>
  some (.inl (v16.1,v16.2.1,wI (v16.2.2.1+1),v16.2.2.2.1,v16.2.2.2.2.1,v16.2.2.2.2.2))
 else
  some (.inr y.2.2.2.2.2)
def Jl (x0:List Bool) (x1:List LB):Option (List (Int×(Int×LB))):=
 (Ab Ni (x1,(x1.length:Int),0,x0,x1,[])).bind λv17=>
 some v17
def Hh (y:Ahk):Option (Ahk⊕Alw):=
 if decide (y.2.2.2.2.2.2.2.2.1 < y.2.2.2.2.2.2.2.1)then
  cZ y.1 <|
  cK (decide (y.1 < (y.2.2.2.2.2.2.2.2.2.2.1.length:Int))) <|
  Option.bind (y.2.2.2.2.2.2.2.2.2.2.1[0+y.1.toNat]?) λr16=>
  Option.bind (α:=Ahk) (
   if r16 then
    sX y.2.2.2.2.2.2.2.2.1 (wI (y.2.2.2.2.2.2.2.2.1+1)) (y.2.2.1.length:Int) (y.2.2.1.length) <|
    cK (decide ((y.2.2.2.1.length+(((y.2.2.1:LB).drop (y.2.2.2.2.2.2.2.2.1.toNat)).take ((wI (y.2.2.2.2.2.2.2.2.1+1)).toNat - y.2.2.2.2.2.2.2.2.1.toNat)).length:Nat)<=9223372036854775807)) <|
    some (y.1,y.2.1,y.2.2.1,(y.2.2.2.1:LB)++(((y.2.2.1:LB).drop (y.2.2.2.2.2.2.2.2.1.toNat)).take ((wI (y.2.2.2.2.2.2.2.2.1+1)).toNat - y.2.2.2.2.2.2.2.2.1.toNat)),y.2.2.2.2.1,y.2.2.2.2.2.1,y.2.2.2.2.2.2.1,y.2.2.2.2.2.2.2.1,y.2.2.2.2.2.2.2.2.1,y.2.2.2.2.2.2.2.2.2.1,y.2.2.2.2.2.2.2.2.2.2.1,y.2.2.2.2.2.2.2.2.2.2.2.1,y.2.2.2.2.2.2.2.2.2.2.2.2.1,y.2.2.2.2.2.2.2.2.2.2.2.2.2)
   else
    some (y.1,y.2.1,y.2.2.1,y.2.2.2.1,y.2.2.2.2.1,y.2.2.2.2.2.1,y.2.2.2.2.2.2.1,y.2.2.2.2.2.2.2.1,y.2.2.2.2.2.2.2.2.1,y.2.2.2.2.2.2.2.2.2.1,y.2.2.2.2.2.2.2.2.2.2.1,y.2.2.2.2.2.2.2.2.2.2.2.1,y.2.2.2.2.2.2.2.2.2.2.2.2.1,y.2.2.2.2.2.2.2.2.2.2.2.2.2)) λv17=>
  cZ (wI (v17.1+1)) <|
  cK (decide (wI (v17.1+1) < (v17.2.2.2.2.2.2.2.2.2.2.2.1.length:Int))) <|
  Option.bind (v17.2.2.2.2.2.2.2.2.2.2.2.1[0+(wI (v17.1+1)).toNat]?) λr18=>
  cK (decide ((v17.2.2.2.1.length+r18.length:Nat)<=9223372036854775807)) <|
  some (.inl (wI (v17.1+1),v17.2.1,v17.2.2.1,(v17.2.2.2.1:LB)++r18,v17.2.2.2.2.1,v17.2.2.2.2.2.1,v17.2.2.2.2.2.2.1,v17.2.2.2.2.2.2.2.1,wI (v17.2.2.2.2.2.2.2.2.1+1),v17.2.2.2.2.2.2.2.2.2.1,v17.2.2.2.2.2.2.2.2.2.2.1,v17.2.2.2.2.2.2.2.2.2.2.2.1,v17.2.2.2.2.2.2.2.2.2.2.2.2.1,v17.2.2.2.2.2.2.2.2.2.2.2.2.2))
 else
  some (.inr (y.1,y.2.1,y.2.2.2.1,y.2.2.2.2.1,y.2.2.2.2.2.1,y.2.2.2.2.2.2.1,y.2.2.2.2.2.2.2.2.2.1,y.2.2.2.2.2.2.2.2.2.2.1,y.2.2.2.2.2.2.2.2.2.2.2.1,y.2.2.2.2.2.2.2.2.2.2.2.2.1,y.2.2.2.2.2.2.2.2.2.2.2.2.2))
def Mb (y:Adb):Option (Adb⊕(List Bool×List LB)):=
 if decide (y.2.2.2.2.1 < y.2.2.2.1)then
  Option.bind (α:=Adb⊕(List Bool×List LB)) (
    cZ y.2.2.2.2.1 <|
    cK (decide (y.2.2.2.2.1 < (y.2.2.1.length:Int))) <|
    Option.bind (y.2.2.1[0+y.2.2.2.2.1.toNat]?) λr15=>
    (Ab Hh (y.1,y.2.2.2.2.1,r15,y.2.1,y.2.2.1,y.2.2.2.1,y.2.2.2.2.1,(r15.length:Int),0,y.2.2.2.2.2.1,y.2.2.2.2.2.2.1,y.2.2.2.2.2.2.2.1,y.2.2.2.2.2.2.2.2.1,y.2.2.2.2.2.2.2.2.2)).bind λv19=>
    cK (Aa (v19.2.2.2.2.2.2.2.2.2.2.length+([v19.2.2.1]:List LB).length) 16) <|
    if decide (v19.2.1=(v19.2.2.2.2.2.2.1.length:Int))then
     some (.inr (v19.2.2.2.2.2.2.2.2.2.1,v19.2.2.2.2.2.2.2.2.2.2++([v19.2.2.1]:List LB)))
    else
    cZ v19.2.1 <|
    cK (decide (v19.2.1 < (v19.2.2.2.2.2.2.1.length:Int))) <|
    Option.bind (v19.2.2.2.2.2.2.1[0+v19.2.1.toNat]?) λr20=>
    if(!r20)then
     cK (Aa (v19.2.2.2.2.2.2.2.2.2.1.length+([false]:List Bool).length) 1) <|
     some (.inl (v19.1,([]:LB),v19.2.2.2.1,v19.2.2.2.2.1,v19.2.2.2.2.2.1,v19.2.2.2.2.2.2.1,v19.2.2.2.2.2.2.2.1,v19.2.2.2.2.2.2.2.2.1,v19.2.2.2.2.2.2.2.2.2.1++([false]:List Bool),v19.2.2.2.2.2.2.2.2.2.2++([v19.2.2.1]:List LB)))
    else
    cZ v19.1 <|
    cK (decide (v19.1 < (v19.2.2.2.2.2.2.2.1.length:Int))) <|
    Option.bind (v19.2.2.2.2.2.2.2.1[0+v19.1.toNat]?) λr21=>
    cK (Aa (v19.2.2.2.2.2.2.2.2.2.1.length+([r21]:List Bool).length) 1) <|
    cZ (wI (v19.1+1)) <|
    cK (decide (wI (v19.1+1) < (v19.2.2.2.2.2.2.2.2.1.length:Int))) <|
    Option.bind (v19.2.2.2.2.2.2.2.2.1[0+(wI (v19.1+1)).toNat]?) λr22=>
    some (.inl (wI (v19.1+1),r22,v19.2.2.2.1,v19.2.2.2.2.1,v19.2.2.2.2.2.1,v19.2.2.2.2.2.2.1,v19.2.2.2.2.2.2.2.1,v19.2.2.2.2.2.2.2.2.1,v19.2.2.2.2.2.2.2.2.2.1++([r21]:List Bool),v19.2.2.2.2.2.2.2.2.2.2++([v19.2.2.1]:List LB)))) λv23=>
  match v23 with
  | .inl y24=>
   some (.inl (y24.1,y24.2.1,y24.2.2.1,y24.2.2.2.1,wI (y24.2.2.2.2.1+1),y24.2.2.2.2.2.1,y24.2.2.2.2.2.2.1,y24.2.2.2.2.2.2.2.1,y24.2.2.2.2.2.2.2.2.1,y24.2.2.2.2.2.2.2.2.2))
  | .inr s25=>
   some (.inr (s25.1,s25.2))
 else
  some (.inr (y.2.2.2.2.2.2.2.2.1,y.2.2.2.2.2.2.2.2.2))
def M4 (x0 x1:List (Int×(Int×LB))):Option (List (Int×(Int×LB))):=
 (P3 x0).bind λc1=>
 (P3 x1).bind λc2=>
 cZ 0 <|
 cK (decide (0 < (c2.2.length:Int))) <|
 Option.bind (c2.2[0+Int.toNat 0]?) λr3=>
 (Ab Mb (0,r3,c1.2,(c1.2.length:Int),0,c1.1,c2.1,c2.2,[],[])).bind λv26=>
 (Jl v26.1 v26.2).bind λc27=>
 some c27
def F5 (y:U50):Option (U50⊕(List (Int×(Int×LB)))):=
 if decide (y.2.2.2 < y.2.2.1)then
  gX y.2.1 y.2.2.2 λr4=>
  (M4 y.1 r4).bind λc5=>
  some (.inl (c5,y.2.1,y.2.2.1,wI (y.2.2.2+1)))
 else
  some (.inr y.1)
def Lx (x0:List (List (Int×(Int×LB)))):Option (List (Int×(Int×LB))):=
 gX x0 0 λr1=>
 sX 1 (x0.length:Int) (x0.length:Int) (x0.length) <|
 (Ab F5 (r1,(List.drop (Int.toNat 1) x0).take ((x0.length:Int).toNat - Int.toNat 1),(((List.drop (Int.toNat 1) x0).take ((x0.length:Int).toNat - Int.toNat 1)).length:Int),0)).bind λv6=>
 cK (Aa (([]:List (Int×(Int×LB))).length+v6.length) 32) <|
 some (([]:List (Int×(Int×LB)))++v6)
def EU (x0:Int) (x1:LB) (x2:List (Int×Int)) (x3:List (List (Int×(Int×LB)))) (x4 x5:Int):Option (List (Int×(Int×LB))):=
 if decide (x4=x5)then
  (D2 x0 x1 x2 x3 x4).bind λc1=>
  (TH (c1.length:Int)).bind λc2=>
  some c2
 else
 sX (wI (x4 - x0)) (wI (x5 - x0)) (x3.length:Int) (x3.length) <|
 (Lx ((List.drop ((wI (x4 - x0)).toNat) x3).take ((wI (x5 - x0)).toNat - (wI (x4 - x0)).toNat))).bind λc3=>
 some c3
def Ao (y:U47):Option (U47⊕(Unit⊕Bool)):=match y with
 | (a,b,c,d)=>
 if decide (d < c)then
  gX a d λr1=>
  gX b d λr2=>
  if(!(decide (r1.1=r2.1) && (decide (r1.2.1=r2.2.1) && (((r1.2.2:LB) == r2.2.2) && true))))then
   some (.inr (.inr false))
  else
   some (.inl (a,b,c,wI (d+1)))
 else
  some (.inr (.inl ()))
def Aw (x0 x1:List (Int×(Int×LB))):Option (Bool):=
 if decide (¬ (x0.length:Int)=(x1.length:Int))then
  some false
 else
  (Ab Ao (x0,x1,(x0.length:Int),0)).bind λv3=>
  match v3 with
  | .inl y4=>
   some true
  | .inr s5=>
   some s5
def Jn (x0 x1:List (Int×(Int×LB))):Option (Bool):=
 (Aw x0 x1).bind λc1=>
 some c1
def EZ (x0:Int) (x1:LB) (x2:List (Int×Int)) (x3:List (List (Int×(Int×LB)))):Option (Int):=
 some (wI (x0+(x3.length:Int)))
def HU (y:(Int×(Int×(LI×Int)))):Option ((Int×(Int×(LI×Int)))⊕LI):=match y with
 | (a,b,c,d)=>
 if decide (d<=a)then
  cK (decide (¬ b=0)) <|
  Option.bind (α:=(Int×(Int×(LI×Int)))) (
   if decide (Int.tmod d b=0)then
    cK (Aa (c.length+([d]:LI).length) 8) <|
    some (a,b,c++([d]:LI),d)
   else
    some (a,b,c,d)) λ(e,f,g,h)=>
  some (.inl (e,f,g,wI (h+1)))
 else
  some (.inr c)
def Or (x0 x1 x2:Int):Option LI:=
 (Ab HU (x1,x2,[],wI (x0+1))).bind λv2=>
 some v2
def Fp (y:U64):Option (U64⊕(List (Int×Int))):=
 if decide (y.2.1 < 1024)then
  (Fo y.2.2.1 y.2.2.2.1 y.2.2.2.2 y.2.1).bind λc1=>
  Option.bind (α:=U64) (
   if decide (¬ c1=0)then
    cK (Aa (y.1.length+([(y.2.1,c1)]:List (Int×Int)).length) 16) <|
    some (y.1++([(y.2.1,c1)]:List (Int×Int)),y.2.1,y.2.2.1,y.2.2.2.1,y.2.2.2.2)
   else
    some (y.1,y.2.1,y.2.2.1,y.2.2.2.1,y.2.2.2.2)) λv2=>
  some (.inl (v2.1,wI (v2.2.1+1),v2.2.2.1,v2.2.2.2.1,v2.2.2.2.2))
 else
  some (.inr y.1)
def J7 (x0:Int) (x1:LI) (x2:LL):Option (List (Int×Int)):=
 (Ab Fp ([],0,x0,x1,x2)).bind λv3=>
 some v3
def Gw (x0:List Int):Option (List Int):=
 if x0.length < 4611686018427387904 then some (x0.mergeSort λx y=>decide (x<=y))else none
def Dk (y:U20):Option (U20⊕LI):=match y with
 | (a,b,c)=>
 if decide (c < (a.1.length:Int))then
  (Fs a c).bind λc1=>
  Option.bind (α:=U20) (
   if c1 then
    cK (Aa (b.length+([c]:LI).length) 8) <|
    some (a,b++([c]:LI),c)
   else
    some (a,b,c)) λ(d,e,f)=>
  some (.inl (d,e,wI (f+1)))
 else
  some (.inr b)
def FM (x0:U39):Option LI:=
 (Ab Dk (x0,[],33)).bind λv3=>
 some v3
def Cy (y:U27):Option (U27⊕(Unit⊕Bool)):=match y with
 | (a,b,c,d)=>
 if decide (d < c)then
  gX a d λr1=>
  gX b d λr2=>
  if decide (¬ r1=r2)then
   some (.inr (.inr false))
  else
   some (.inl (a,b,c,wI (d+1)))
 else
  some (.inr (.inl ()))
def DT (x0 x1:LI):Option (Bool):=
 if decide (¬ (x0.length:Int)=(x1.length:Int))then
  some false
 else
  (Ab Cy (x0,x1,(x0.length:Int),0)).bind λv3=>
  match v3 with
  | .inl y4=>
   some true
  | .inr s5=>
   some s5
def Nr (y:SY):Option (SY⊕U87):=match y with
 | (a,b,c,d,e,f,g,h,i)=>
 if decide (c < b)then
  gX a c λr1=>
  Option.bind (α:=Ai3) (
   if g then
    some (r1,a,b,c,d,e,f,true,h,i)
   else
    (AN e r1).bind λc2=>
    some (r1,a,b,c,d,e,f,c2,h,i)) λ(j,k,l,m,n,o,p,q,r,s)=>
  cK (Aa (o.length+([j]:LI).length) 8) <|
  some (.inl (k,l,wI (m+1),n,o++([j]:LI),p,q,r,s))
 else
  some (.inr (d,e,f,g,h,i))
def PO (x0 x1 x2 x3:LI) (x4:Bool) (x5:LL) (x6:List (Int×Int)):Option U87:=
 (Ab Nr (x0,(x0.length:Int),0,x1,x2,x3,x4,x5,x6)).bind λ(a,b,c,d,e,f)=>
 some (a,b,c,d,e,f)
def Cp (y:SY):Option (SY⊕Ai6):=match y with
 | (a,b,c,d,e,f,g,h,i)=>
 if decide (c < b)then
  cZ c <|
  cK (decide (c < (a.length:Int))) <|
  Option.bind (a[0+c.toNat]?) λr1=>
  Option.bind (α:=AlL) (
   if g then
    some (a,r1,b,c,d,e,f,true,h,i)
   else
    (AN e r1).bind λc2=>
    some (a,r1,b,c,d,e,f,c2,h,i)) λ(j,k,l,m,n,o,p,q,r,s)=>
  cK (Aa (o.length+([k]:LI).length) 8) <|
  some (.inl (j,l,wI (m+1),n,o++([k]:LI),p,q,r,s))
 else
  some (.inr (a,d,e,f,g,h,i))
def BO (x0 x1 x2 x3:LI) (x4:Bool) (x5:LL) (x6:List (Int×Int)):Option Ai6:=
 (Ab Cp (x0,(x0.length:Int),0,x1,x2,x3,x4,x5,x6)).bind λ(a,b,c,d,e,f,g)=>
 some (a,b,c,d,e,f,g)
def CU (y:SY):Option (SY⊕U87):=match y with
 | (a,b,c,d,e,f,g,h,i)=>
 if decide (c < b)then
  gX a c λr1=>
  Option.bind (α:=Ai3) (
   if g then
    some (r1,a,b,c,d,e,f,true,h,i)
   else
    (AN e r1).bind λc2=>
    some (r1,a,b,c,d,e,f,c2,h,i)) λ(j,k,l,m,n,o,p,q,r,s)=>
  cK (Aa (o.length+([j]:LI).length) 8) <|
  some (.inl (k,l,wI (m+1),n,o++([j]:LI),p,q,r,s))
 else
  some (.inr (d,e,f,g,h,i))
def Ey (x0 x1 x2 x3:LI) (x4:Bool) (x5:LL) (x6:List (Int×Int)):Option U87:=
 (Ab CU (x0,(x0.length:Int),0,x1,x2,x3,x4,x5,x6)).bind λ(a,b,c,d,e,f)=>
 some (a,b,c,d,e,f)
def B7 (y:Ajz):Option (Ajz⊕Ai5):=match y with
 | (a,b,c,d,e,f,g,h,i,j,k,l,m,n,o,p,q,r,s,t,u,v)=>
 if decide (d < c)then
  gX b d λr4=>
  Option.bind (α:=Ala) (
   if decide (CM v r4=0)then
    (BO [r4] e f g h i v).bind λ(_,w,x,z,a0,b0,c0)=>
    some (a,r4,b,c,d,w,x,z,a0,b0,j,k,l,m,n,o,p,q,r,s,t,u,c0)
   else
    some (a,r4,b,c,d,e,f,g,h,i,j,k,l,m,n,o,p,q,r,s,t,u,v)) λ(d0,e0,f0,g0,h0,i0,j0,k0,l0,m0,n0,o0,p0,q0,r0,s0,t0,u0,v0,w0,x0,y0,z0)=>
  some (.inl (d0,f0,g0,wI (h0+1),i0,j0,k0,l0,m0,n0,o0,p0,q0,r0,s0,t0,u0,v0,w0,x0,y0,DA z0 e0 (wI ((CM z0 e0)+1))))
 else
  some (.inr (a,e,f,g,h,i,j,k,l,m,n,o,p,q,r,s,t,u,v))
def Bo (x0:Int) (x1 x2 x3:LI) (x4:Bool) (x5:LL) (x6:Int) (x7:Bool) (x8 x9 x10 x11 x12 x13:Int) (x14:LL) (x15 x16 x17:LI) (x18:List (Int×Int)):Option Ai5:=
 Option.bind (α:=Alg) (
   (I9 (x14,(x15,(x16,x17))) x0).bind λ(a,b,c)=>
   some (a,b,c,x1,x2,x3,x4,x5,x6,x7,x8,x9,x10,x11,x12,x13,x14,x15,x16,x17,x18)) λ(d,e,f,g,h,i,j,k,l,m,n,o,p,q,r,s,t,u,v,w,x)=>
 if(!f)then
  some (([]:LB),g,h,i,true,k,l,m,n,o,p,q,r,s,t,u,v,w,x)
 else
 sX (wI ((e.length:Int) - 1)) (e.length:Int) (e.length:Int) (e.length) <|
 (Ey ((List.drop ((wI ((e.length:Int) - 1)).toNat) e).take ((e.length:Int).toNat - (wI ((e.length:Int) - 1)).toNat)) g h i j k x).bind λ(y,z,a0,b0,c0,d0)=>
 sX 0 (wI ((e.length:Int) - 1)) (e.length:Int) (e.length) <|
 (Ab B7 (d,(List.drop (Int.toNat 0) e).take ((wI ((e.length:Int) - 1)).toNat - Int.toNat 0),(((List.drop (Int.toNat 0) e).take ((wI ((e.length:Int) - 1)).toNat - Int.toNat 0)).length:Int),0,y,z,a0,b0,c0,l,m,n,o,p,q,r,s,t,u,v,w,d0)).bind λ(e0,f0,g0,h0,i0,j0,k0,l0,m0,n0,o0,p0,q0,r0,s0,t0,u0,v0,w0)=>
 some (e0,f0,g0,h0,i0,j0,k0,l0,m0,n0,o0,p0,q0,r0,s0,t0,u0,v0,w0)
def Bz (x0:Int) (x1 x2 x3:LI) (x4:Bool) (x5:LL) (x6:Int) (x7:Bool) (x8 x9 x10 x11 x12 x13:Int) (x14:LL) (x15 x16 x17:LI) (x18:Int) (x19:LI) (x20:LL) (x21:List (Int×Int)):Option AjL:=
 cK (Aa (x1.length+([x0]:LI).length) 8) <|
 (Fo x18 x19 x20 x0).bind λc1=>
 (Hn (x14,(x15,(x16,x17))) c1).bind λ(a,b,c)=>
 Option.bind (α:=AlI) (
  if x4 then
   some (a,b,x1++([x0]:LI),x2,x3,true,x5,x6,x7,x8,x9,x10,x11,x12,x13,x14,x15,x16,x17,x18,x19,x20,x21)
  else
  some (a,b,x1++([x0]:LI),x2,x3,(!c),x5,x6,x7,x8,x9,x10,x11,x12,x13,x14,x15,x16,x17,x18,x19,x20,x21)) λ(d,e,f,g,h,i,j,k,l,m,n,o,p,q,r,s,t,u,v,w,x,y,z)=>
 (BO e f g h i j z).bind λ(_,a0,b0,c0,d0,e0,f0)=>
 some (d,a0,b0,c0,d0,e0,k,l,m,n,o,p,q,r,s,t,u,v,w,x,y,f0)
def Cd (y:AfV):Option (AfV⊕AlJ):=match y with
 | (a,b,c,d,e,f,g,h,i,j,k,l,m,n,o,p,q,r,s,t,u,v,w,x,z,a0,b0,c0,d0)=>
 if decide (d < c)then
  cZ d <|
  cK (decide (d < (a.length:Int))) <|
  Option.bind (a[0+d.toNat]?) λr5=>
  Option.bind (a[0+d.toNat]?) λr6=>
  Option.bind (α:=Ali) (
   (Oe r5.1 r6.2).bind λc7=>
   (Bz c7 e f g h j k l m n o p q r s t u v w x z i).bind λ(e0,f0,g0,h0,i0,j0,k0,l0,m0,n0,o0,p0,q0,r0,s0,t0,u0,v0,w0,x0,y0,z0)=>
   (E4 e0).bind λc9=>
   some (a,b,c9.1,c9.2,c,d,r5.1,r6.2,f0,g0,h0,i0,z0,j0,k0,l0,m0,n0,o0,p0,q0,r0,s0,t0,u0,v0,w0,x0,y0,a0,b0,c0,d0)) λ(a1,b1,c1,d1,e1,f1,g1,h1,i1,j1,k1,l1,m1,n1,o1,p1,q1,r1,s1,t1,u1,v1,w1,x1,y1,z1,a2,b2,c2,d2,e2,f2,g2)=>
  Option.bind (α:=Alu) (
   if l1 then
    some (a1,b1,c1,e1,f1,g1,h1,i1,j1,k1,true,m1,n1,o1,p1,q1,r1,s1,t1,u1,v1,w1,x1,y1,z1,a2,b2,c2,d2,e2,f2,g2)
   else
   some (a1,b1,c1,e1,f1,g1,h1,i1,j1,k1,(!d1),m1,n1,o1,p1,q1,r1,s1,t1,u1,v1,w1,x1,y1,z1,a2,b2,c2,d2,e2,f2,g2)) λ(h2,i2,j2,k2,l2,m2,_,n2,o2,p2,q2,r2,s2,t2,u2,v2,w2,x2,y2,z2,a3,b3,c3,d3,e3,f3,g3,h3,i3,j3,k3,l3)=>
  cK (Aa (i2.length+([j2]:List (List (Int×(Int×LB)))).length) 24) <|
  Option.bind (α:=AfV) (
   if decide (m2=0)then
    cK (Aa (l3.length+([j2]:List (List (Int×(Int×LB)))).length) 24) <|
    some (h2,i2++([j2]:List (List (Int×(Int×LB)))),k2,l2,n2,o2,p2,q2,r2,s2,t2,u2,v2,w2,x2,y2,z2,a3,b3,c3,d3,e3,f3,g3,h3,i3,j3,k3,l3++([j2]:List (List (Int×(Int×LB)))))
   else
    some (h2,i2++([j2]:List (List (Int×(Int×LB)))),k2,l2,n2,o2,p2,q2,r2,s2,t2,u2,v2,w2,x2,y2,z2,a3,b3,c3,d3,e3,f3,g3,h3,i3,j3,k3,l3)) λ(m3,n3,o3,p3,q3,r3,s3,t3,u3,v3,w3,x3,y3,z3,a4,b4,c4,d4,e4,f4,g4,h4,i4,j4,k4,l4,m4,n4,o4)=>
  some (.inl (m3,n3,o3,wI (p3+1),q3,r3,s3,t3,u3,v3,w3,x3,y3,z3,a4,b4,c4,d4,e4,f4,g4,h4,i4,j4,k4,l4,m4,n4,o4))
 else
  some (.inr (a,b,e,f,g,h,i,j,k,l,m,n,o,p,q,r,s,t,u,v,w,x,z,a0,b0,c0,d0))
def BE (y:AjZ):Option (AjZ⊕(Po⊕Ym)):=match y with
 | (a,b,c,d,e,f,g,h,i,j,k,l,m,n,o,p,q,r,s,t,u,v,w,x,z,a0,b0,c0,d0)=>
 if decide (d < c)then
  cZ d <|
  cK (decide (d < (b.length:Int))) <|
  Option.bind (b[0+d.toNat]?) λr18=>
  Option.bind (b[0+d.toNat]?) λr19=>
  cZ d <|
  cK (decide (d < (a.length:Int))) <|
  Option.bind (a[0+d.toNat]?) λr20=>
  (E8 r18.1 r19.2).bind λc21=>
  (Hb r18.1 r19.2).bind λc22=>
  (EU a0 b0 c0 d0 c21 c22).bind λc23=>
  (Jn r20 c23).bind λc24=>
  if(!c24)then
   some (.inr (.inr (false,j,k,l,m,n,o,p,q,r,s,t,u,v,w,x,z,a0,b0,c0,d0)))
  else
   some (.inl (a,b,c,wI (d+1),e,f,g,h,i,j,k,l,m,n,o,p,q,r,s,t,u,v,w,x,z,a0,b0,c0,d0))
 else
  some (.inr (.inl (e,f,g,h,i,j,k,l,m,n,o,p,q,r,s,t,u,v,w,x,z,a0,b0,c0,d0)))
def BF (y:Ajg):Option (Ajg⊕(Po⊕Ym)):=match y with
 | (a,b,c,d,e,f,g,h,i,j,k,l,m,n,o,p,q,r,s,t,u,v,w,x,z,a0,b0,c0)=>
 if decide (c < b)then
  cZ c <|
  cK (decide (c < (a.length:Int))) <|
  Option.bind (a[0+c.toNat]?) λr30=>
  cK (Aa (d.length+([wI (384+r30)]:LI).length) 8) <|
  (Fo v w x (wI (384+r30))).bind λc31=>
  (Bo c31 (d++([wI (384+r30)]:LI)) e f g i j k l m n o p q r s t u h).bind λ(d0,e0,f0,g0,h0,i0,j0,k0,l0,m0,n0,o0,p0,q0,r0,s0,t0,u0,v0)=>
  (D2 z a0 b0 c0 r30).bind λc33=>
  if(!((d0:LB) == c33))then
   some (.inr (.inr (false,i0,j0,k0,l0,m0,n0,o0,p0,q0,r0,s0,t0,u0,v,w,x,z,a0,b0,c0)))
  else
   some (.inl (a,b,wI (c+1),e0,f0,g0,h0,v0,i0,j0,k0,l0,m0,n0,o0,p0,q0,r0,s0,t0,u0,v,w,x,z,a0,b0,c0))
 else
  some (.inr (.inl (d,e,f,g,h,i,j,k,l,m,n,o,p,q,r,s,t,u,v,w,x,z,a0,b0,c0)))
def Cf (y:YW) (e:Int×Int):Option YW:=match y with
 | (a,b,c,d,f,g,h,i,j,k,l,m,n,o,p,q,r,s,t,u,v,w,x,z)=>
 (Gg (o,(p,(q,r))) e.1).bind λ(_,_,a0,_)=>
 Option.bind (α:=YW) (
  if d then
   some (a,b,c,true,f,g,h,i,j,k,l,m,n,o,p,q,r,s,t,u,v,w,x,z)
  else
  some (a,b,c,decide (¬ a0=e.2),f,g,h,i,j,k,l,m,n,o,p,q,r,s,t,u,v,w,x,z)) λ(b0,c0,d0,e0,f0,g0,h0,i0,j0,k0,l0,m0,n0,o0,p0,q0,r0,s0,t0,u0,v0,w0,x0,y0)=>
 some (b0,c0,d0,e0,f0,g0,h0,i0,j0,k0,l0,m0,n0,o0,p0,q0,r0,s0,t0,u0,v0,w0,x0,y0)
def Cb (y:AgJ):Option (AgJ⊕YW):=match y with
 | (a,b,c,d,e,f,g,h,i,j,k,l,m,n,o,p,q,r,s,t,u,v,w,x,z,a0,b0)=>
 if decide (c < b)then
  cZ c <|
  cK (decide (c < (a.length:Int))) <|
  Option.bind (a[0+c.toNat]?) λr41=>
  Option.bind (a[0+c.toNat]?) λr42=>
  Option.bind (α:=AgJ) (
   if g then
    some (a,b,c,d,e,f,true,h,i,j,k,l,m,n,o,p,q,r,s,t,u,v,w,x,z,a0,b0)
   else
    (AN d r41.1).bind λc43=>
    some (a,b,c,d,e,f,(!c43),h,i,j,k,l,m,n,o,p,q,r,s,t,u,v,w,x,z,a0,b0)) λ(c0,d0,e0,f0,g0,h0,i0,j0,k0,l0,m0,n0,o0,p0,q0,r0,s0,t0,u0,v0,w0,x0,y0,z0,a1,b1,c1)=>
  some (.inl (c0,d0,wI (e0+1),f0,g0,h0,i0,j0,k0,l0,m0,n0,o0,p0,q0,r0,s0,t0,u0,v0,w0,x0,y0,z0,a1,b1,c1))
 else
  some (.inr (d,e,f,g,h,i,j,k,l,m,n,o,p,q,r,s,t,u,v,w,x,z,a0,b0))
def CF (x0:LL) (x1:Int) (x2:Bool) (x3 x4 x5 x6 x7 x8:Int) (x9:LL) (x10 x11 x12:LI) (x13:Int) (x14:LI) (x15:LL) (x16:Int) (x17:LB) (x18:List (Int×Int)) (x19:List (List (Int×(Int×LB)))):Option Ym:=
 (Jr x13 x14 x15).bind λc1=>
 (BO c1 [] [] [] false x0 []).bind λ(_,a,b,c,d,e,f)=>
 (Bo x8 a b c d e x1 x2 x3 x4 x5 x6 x7 x8 x9 x10 x11 x12 f).bind λ(g,h,i,j,k,l,m,n,o,p,q,r,s,t,u,v,w,x,y)=>
 cK (decide (x4=p)) <|
 (Kd x4 q).bind λc4=>
 (Ab Cd (c4,[],(c4.length:Int),0,h,i,j,k,y,l,m,n,o,x4,q,r,s,t,u,v,w,x,x13,x14,x15,x4,g,x18,x19)).bind λ(z,a0,b0,c0,d0,e0,f0,g0,h0,i0,j0,k0,l0,m0,n0,o0,p0,q0,r0,s0,t0,u0,v0,w0,y0,_,z0)=>
 (Bz 448 b0 c0 d0 e0 g0 h0 i0 j0 k0 l0 m0 n0 o0 p0 q0 r0 s0 t0 u0 v0 f0).bind λ(a1,b1,d1,e1,f1,g1,h1,i1,j1,k1,l1,m1,n1,o1,p1,q1,r1,s1,t1,u1,v1,w1)=>
 (Hm a1).bind λc15=>
 Option.bind (α:=AlM) (
   if(!c15.2)then
    some (z,a0,true,b1,d1,e1,f1,w1,g1,h1,i1,j1,k1,l1,m1,n1,o1,p1,q1,r1,s1,t1,u1,v1,w0,y0,c15.1,z0)
   else
   if f1 then
    some (z,a0,true,b1,d1,e1,f1,w1,g1,h1,i1,j1,k1,l1,m1,n1,o1,p1,q1,r1,s1,t1,u1,v1,w0,y0,c15.1,z0)
   else
    (F8 w0 y0 c15.1 z0).bind λc16=>
    some (z,a0,(!c16),b1,d1,e1,f1,w1,g1,h1,i1,j1,k1,l1,m1,n1,o1,p1,q1,r1,s1,t1,u1,v1,w0,y0,c15.1,z0)) λ(y1,z1,a2,b2,d2,e2,f2,g2,h2,i2,j2,k2,l2,m2,n2,o2,p2,q2,r2,s2,t2,u2,v2,w2,y2,z2,a3,b3)=>
 if a2 then
  some (false,h2,i2,j2,k2,l2,m2,n2,o2,p2,q2,r2,s2,t2,u2,v2,w2,y2,z2,a3,b3)
 else
  (Ab BE (z1,y1,(y1.length:Int),0,b2,d2,e2,f2,g2,h2,i2,j2,k2,l2,m2,n2,o2,p2,q2,r2,s2,t2,u2,v2,w2,y2,z2,a3,b3)).bind λv25=>
  match v25 with
  | .inl (d3,e3,f3,g3,h3,i3,j3,k3,l3,m3,n3,o3,p3,q3,r3,s3,t3,u3,v3,w3,y3,z3,a4,b4,d4)=>
   (EZ z3 a4 b4 d4).bind λc28=>
   (Or z3 c28 o3).bind λc29=>
   (Ab BF (c29,(c29.length:Int),0,d3,e3,f3,g3,h3,i3,j3,k3,l3,m3,n3,o3,p3,q3,r3,s3,t3,u3,v3,w3,y3,z3,a4,b4,d4)).bind λv34=>
   match v34 with
   | .inl (e4,f4,g4,h4,i4,j4,k4,l4,m4,n4,o4,p4,q4,r4,s4,t4,u4,v4,w4,y4,z4,a5,b5,c5,d5)=>
    Option.bind (Pj Cf i4 (e4,f4,g4,h4,j4,k4,l4,m4,n4,o4,p4,q4,r4,s4,t4,u4,v4,w4,y4,z4,a5,b5,c5,d5)) λ(e5,f5,g5,h5,i5,j5,k5,l5,m5,n5,o5,p5,q5,r5,s5,t5,u5,v5,w5,y5,z5,a6,b6,c6)=>
    (J7 v5 w5 y5).bind λc40=>
    (Ab Cb (c40,(c40.length:Int),0,e5,f5,g5,h5,i5,j5,k5,l5,m5,n5,o5,p5,q5,r5,s5,t5,u5,v5,w5,y5,z5,a6,b6,c6)).bind λ(_,d6,_,e6,f6,g6,h6,i6,j6,k6,l6,m6,n6,o6,p6,q6,r6,s6,t6,u6,v6,w6,y6,z6)=>
    (Gw d6).bind λc46=>
    Option.bind (α:=Ym) (
     if(!e6)then
      (FM (o6,(p6,(q6,r6)))).bind λc47=>
      (DT c46 c47).bind λc48=>
      some (c48,f6,g6,h6,i6,j6,k6,l6,m6,n6,o6,p6,q6,r6,s6,t6,u6,v6,w6,y6,z6)
     else
     some (false,f6,g6,h6,i6,j6,k6,l6,m6,n6,o6,p6,q6,r6,s6,t6,u6,v6,w6,y6,z6)) λ(a7,b7,c7,d7,e7,f7,g7,h7,i7,j7,k7,l7,m7,n7,o7,p7,q7,r7,s7,t7,u7)=>
    some (a7,b7,c7,d7,e7,f7,g7,h7,i7,j7,k7,l7,m7,n7,o7,p7,q7,r7,s7,t7,u7)
   | .inr (v7,w7,y7,z7,a8,b8,c8,d8,e8,f8,g8,h8,i8,j8,k8,l8,m8,n8,o8,p8,q8)=>
    some (v7,w7,y7,z7,a8,b8,c8,d8,e8,f8,g8,h8,i8,j8,k8,l8,m8,n8,o8,p8,q8)
  | .inr (r8,s8,t8,u8,v8,w8,y8,z8,a9,b9,c9,d9,e9,f9,g9,h9,i9,j9,k9,l9,m9)=>
   some (r8,s8,t8,u8,v8,w8,y8,z8,a9,b9,c9,d9,e9,f9,g9,h9,i9,j9,k9,l9,m9)
def Du (x0:LL) (x1:Int) (x2:Bool) (x3:Int):Option U10:=
 Option.bind (α:=U54) (
   (Hj x0 x1 x2 x3).bind λc1=>
   if(!c1)then
    some (true,x0,x1,x2,x3)
   else
    (HC x0 x1 x2 x3).bind λc2=>
    some (decide (0 < (c2.length:Int)),x0,x1,x2,x3)) λ(a,b,c,d,e)=>
 if a then
  some (none,false)
 else
 gX b 0 λr4=>
 (MD r4).bind λ(f,g,h,i,j,k)=>
 if(!f)then
  some (none,false)
 else
  (Ki b c d e).bind λ(l,m,n)=>
  if(!l)then
   some (none,false)
  else
   (GX (m,(n,([],[]))) j).bind λ(o,p,q,r)=>
   if(!o)then
    some (none,false)
   else
    (CF b c d e g h i j k m n [] [] p q r 0 [] [] []).bind λ(s,t,u,v,w,x,y,z,a0,b0,c0,d0,e0,f0,g0,h0,i0,j0,k0,l0,m0)=>
    if(!s)then
     some (none,false)
    else
     some (some (t,(u,(v,(w,(x,(y,(z,(a0,(b0,(c0,(d0,(e0,(f0,(g0,(h0,(i0,(j0,(k0,(l0,m0))))))))))))))))))),true)
def Gs (x0:LL) (x1:Int) (x2:Bool) (x3:Int):Option U91:=
 (Du x0 x1 x2 x3).bind λc1=>
 if(!c1.2)then
  some (0,false,0,[],[],[])
 else
  Option.bind (c1.1) λp2=>
  Option.bind (c1.1) λp3=>
  some (p3.2.2.2.2.2.2.1,true,p2.2.2.2.2.2.2.2.2.2.2.2.2.2.2.2.2.1,p2.2.2.2.2.2.2.2.2.2.2.2.2.2.2.2.2.2.1,p2.2.2.2.2.2.2.2.2.2.2.2.2.2.2.2.2.2.2.1,p2.2.2.2.2.2.2.2.2.2.2.2.2.2.2.2.2.2.2.2)
def Hq (x0:Int) (x1:LB) (x2:List (Int×Int)) (x3:List (List (Int×(Int×LB)))) (x4 x5:Int):Option (Int):=
 (F8 x0 x1 x2 x3).bind λc1=>
 if(!c1)then
  some 1
 else
  Option.bind (α:=Bool) (
    if decide (x4 < x0)then
     some true
    else
    if decide (x5 < x4)then
     some true
    else
     (EZ x0 x1 x2 x3).bind λc2=>
     some (decide (c2 < x5))) λv3=>
  if v3 then
   some 2
  else
   some 0
def Ay (x0:List (Int×Int)):Option (List (Int×Int)):=
 Option.bind (α:=List (Int×Int)) (Gy (List.isEmpty x0) (
  some []) (
  cK (Aa (([]:List (Int×Int)).length+x0.length) 16) <|
  some (([]:List (Int×Int))++x0))) λv1=>
 some v1
def KK (y:AjJ):Option (AjJ⊕U34):=
 if decide (y.2.2.2.2.2.1 < y.2.2.2.2.1)then
  cK (Aa (y.1.length+([y.2.2.2.2.2.2.1]:LI).length) 8) <|
  some (.inl (y.1++([y.2.2.2.2.2.2.1]:LI),y.2.1,y.2.2.1,y.2.2.2.1,y.2.2.2.2.1,wI (y.2.2.2.2.2.1+1),y.2.2.2.2.2.2.1,y.2.2.2.2.2.2.2))
 else
  some (.inr (y.1,y.2.1,y.2.2.1,y.2.2.2.1))
def KC (y:U34):Option (U34⊕LI):=
 if decide (y.2.2.2 < y.2.2.1)then
  gX y.2.1 y.2.2.2 λr1=>
  (Ab KK (y.1,y.2.1,y.2.2.1,y.2.2.2,r1.2,0,r1.1,r1.2)).bind λv2=>
  some (.inl (v2.1,v2.2.1,v2.2.2.1,wI (v2.2.2.2+1)))
 else
  some (.inr y.1)
def T4 (x0:List (Int×Int)):Option LI:=
 (Ab KC ([],x0,(x0.length:Int),0)).bind λv3=>
 some v3
def IT (y:U35):Option (U35⊕(List (Int×Int))):=
 if decide (y.2.2.2 < y.2.2.1)then
  gX y.2.1 y.2.2.2 λr1=>
  Option.bind (α:=Alm) (
   if decide (0 < (y.1.length:Int))then
    cZ (wI ((y.1.length:Int) - 1)) <|
    cK (decide (wI ((y.1.length:Int) - 1) < (y.1.length:Int))) <|
    Option.bind (y.1[0+(wI ((y.1.length:Int) - 1)).toNat]?) λr2=>
    some (y.1,r1,(y.1.length:Int),y.2.1,y.2.2.1,y.2.2.2,decide (r2.1=r1))
   else
   some (y.1,r1,(y.1.length:Int),y.2.1,y.2.2.1,y.2.2.2,false)) λv3=>
  Option.bind (α:=U35) (
   if v3.2.2.2.2.2.2 then
    cZ (wI (v3.2.2.1 - 1)) <|
    cK (decide (wI (v3.2.2.1 - 1) < (v3.1.length:Int))) <|
    Option.bind (v3.1[0+(wI (v3.2.2.1 - 1)).toNat]?) λr4=>
    cZ (wI (v3.2.2.1 - 1)) <|
    cK (decide (wI (v3.2.2.1 - 1) < (v3.1.length:Int))) <|
    Option.bind (v3.1[0+(wI (v3.2.2.1 - 1)).toNat]?) λr5=>
    Option.bind (v3.1[0+(wI (v3.2.2.1 - 1)).toNat]?) λr6=>
    some (v3.1.set (0+(wI (v3.2.2.1 - 1)).toNat) (r6.1,wI (r4.2+1)),v3.2.2.2.1,v3.2.2.2.2.1,v3.2.2.2.2.2.1)
   else
   cK (Aa (v3.1.length+([(v3.2.1,1)]:List (Int×Int)).length) 16) <|
   some (v3.1++([(v3.2.1,1)]:List (Int×Int)),v3.2.2.2.1,v3.2.2.2.2.1,v3.2.2.2.2.2.1)) λv7=>
  some (.inl (v7.1,v7.2.1,v7.2.2.1,wI (v7.2.2.2+1)))
 else
  some (.inr y.1)
def Tm (x0:LI):Option (List (Int×Int)):=
 (Ab IT ([],x0,(x0.length:Int),0)).bind λv8=>
 some v8
def Fw (y:Aju):Option (Aju⊕AgW):=
 if decide (y.2.2.2.2.2.2.2.2 < y.2.2.2.2.2.2.2.1)then
  cK (Aa (y.2.2.1.length+([y.1]:LI).length) 8) <|
  some (.inl (y.1,y.2.1,y.2.2.1++([y.1]:LI),y.2.2.2.1,y.2.2.2.2.1,y.2.2.2.2.2.1,y.2.2.2.2.2.2.1,y.2.2.2.2.2.2.2.1,wI (y.2.2.2.2.2.2.2.2+1)))
 else
  some (.inr (y.1,y.2.1,y.2.2.1,y.2.2.2.1,y.2.2.2.2.1,y.2.2.2.2.2.1,y.2.2.2.2.2.2.1))
def E7 (y:AgW):Option (AgW⊕LI):=
 if decide (y.2.2.2.2.2.2 < y.2.2.2.2.2.1)then
  gX y.2.2.2.2.1 y.2.2.2.2.2.2 λr2=>
  sX y.2.2.2.1 (wI (y.2.2.2.1+r2.1)) (y.2.1.length:Int) (y.2.1.length) <|
  cK (Aa (y.2.2.1.length+((y.2.1.drop (y.2.2.2.1.toNat)).take ((wI (y.2.2.2.1+r2.1)).toNat - y.2.2.2.1.toNat)).length) 8) <|
  (Ab Fw (y.1,y.2.1,y.2.2.1++((y.2.1.drop (y.2.2.2.1.toNat)).take ((wI (y.2.2.2.1+r2.1)).toNat - y.2.2.2.1.toNat)),wI (y.2.2.2.1+(wI (r2.1+r2.2.1))),y.2.2.2.2.1,y.2.2.2.2.2.1,y.2.2.2.2.2.2,(r2.2.2.length:Int),0)).bind λv3=>
  some (.inl (v3.1,v3.2.1,v3.2.2.1,v3.2.2.2.1,v3.2.2.2.2.1,v3.2.2.2.2.2.1,wI (v3.2.2.2.2.2.2+1)))
 else
  some (.inr y.2.2.1)
def Kc (x0:List (Int×Int)) (x1:List (Int×(Int×LB))) (x2:Int):Option (List (Int×Int)):=
 (T4 x0).bind λc1=>
 (Ab E7 (x2,c1,[],0,x1,(x1.length:Int),0)).bind λv4=>
 (Tm v4).bind λc5=>
 some c5
def DC (y:Adk):Option (Adk⊕(List (Int×Int))):=
 if decide (y.2.2.2.1 < y.2.2.1)then
  gX y.2.1 y.2.2.2.1 λr2=>
  (Kc y.1 r2 (wI ((wI (y.2.2.2.2.1+y.2.2.2.1))+1))).bind λc3=>
  some (.inl (c3,y.2.1,y.2.2.1,wI (y.2.2.2.1+1),y.2.2.2.2.1,y.2.2.2.2.2.1,y.2.2.2.2.2.2.1,y.2.2.2.2.2.2.2))
 else
  some (.inr y.1)
def Gz (x0:Int) (x1:LB) (x2:List (Int×Int)) (x3:List (List (Int×(Int×LB)))) (x4:Int):Option (List (Int×Int)):=
 (Ay x2).bind λc1=>
 sX 0 (wI (x4 - x0)) (x3.length:Int) (x3.length) <|
 (Ab DC (c1,(List.drop (Int.toNat 0) x3).take ((wI (x4 - x0)).toNat - Int.toNat 0),(((List.drop (Int.toNat 0) x3).take ((wI (x4 - x0)).toNat - Int.toNat 0)).length:Int),0,x0,x1,x2,x3)).bind λv4=>
 some v4
def Fh (y:U34):Option (U34⊕LI):=
 if decide (y.2.2.2 < y.2.2.1)then
  gX y.2.1 y.2.2.2 λr1=>
  cK (Aa (y.1.length+([IntKind.wrap .u8 r1.1,IntKind.wrap .u8 r1.2]:LI).length) 1) <|
  some (.inl (y.1++([IntKind.wrap .u8 r1.1,IntKind.wrap .u8 r1.2]:LI),y.2.1,y.2.2.1,wI (y.2.2.2+1)))
 else
  some (.inr y.1)
def Ke (x0:List (Int×Int)):Option LI:=
 (Ab Fh ([],x0,(x0.length:Int),0)).bind λv2=>
 some v2
def D6 (y:U41):Option (U41⊕LI):=
 if decide (y.2.2.2 < y.2.2.1)then
  gX y.2.1 y.2.2.2 λr1=>
  (DZ r1.1 r1.2.1 r1.2.2).bind λc2=>
  cK (Aa (y.1.length+([IntKind.wrap .u8 c2,wB (wI ((wI (r1.1+r1.2.1))+(r1.2.2.length:Int)))]:LI).length) 1) <|
  cK (Aa ((y.1++([IntKind.wrap .u8 c2,wB (wI ((wI (r1.1+r1.2.1))+(r1.2.2.length:Int)))]:LI)).length+(Ar r1.2.2).length) 1) <|
  some (.inl ((y.1++([IntKind.wrap .u8 c2,wB (wI ((wI (r1.1+r1.2.1))+(r1.2.2.length:Int)))]:LI))++(Ar r1.2.2),y.2.1,y.2.2.1,wI (y.2.2.2+1)))
 else
  some (.inr y.1)
def If (x0:List (Int×(Int×LB))):Option LI:=
 (Ab D6 ([],x0,(x0.length:Int),0)).bind λv3=>
 some v3
def HZ (y:U45):Option (U45⊕LI):=
 if decide (y.2.2.2 < y.2.2.1)then
  gX y.2.1 y.2.2.2 λr5=>
  (If r5).bind λc6=>
  (Ic (c6.length:Int)).bind λc7=>
  cK (Aa (y.1.length+c7.length) 1) <|
  cK (Aa ((y.1++c7).length+c6.length) 1) <|
  some (.inl ((y.1++c7)++c6,y.2.1,y.2.2.1,wI (y.2.2.2+1)))
 else
  some (.inr y.1)
def ON (x0:Int) (x1:LB) (x2:List (Int×Int)) (x3:List (List (Int×(Int×LB)))) (x4 x5:Int):Option LI:=
 (D2 x0 x1 x2 x3 x4).bind λc1=>
 (Gz x0 x1 x2 x3 x4).bind λc2=>
 (Ke c2).bind λc3=>
 cK (Aa (([66,78,68,49,IntKind.wrap .u8 x4,IntKind.wrap .u8 x5,wB (c1.length:Int)]:LI).length+(Ar c1).length) 1) <|
 (Ic (c3.length:Int)).bind λc4=>
 cK (Aa ((([66,78,68,49,IntKind.wrap .u8 x4,IntKind.wrap .u8 x5,wB (c1.length:Int)]:LI)++(Ar c1)).length+c4.length) 1) <|
 cK (Aa (((([66,78,68,49,IntKind.wrap .u8 x4,IntKind.wrap .u8 x5,wB (c1.length:Int)]:LI)++(Ar c1))++c4).length+c3.length) 1) <|
 sX (wI (x4 - x0)) (wI (x5 - x0)) (x3.length:Int) (x3.length) <|
 (Ab HZ (((([66,78,68,49,IntKind.wrap .u8 x4,IntKind.wrap .u8 x5,wB (c1.length:Int)]:LI)++(Ar c1))++c4)++c3,(List.drop ((wI (x4 - x0)).toNat) x3).take ((wI (x5 - x0)).toNat - (wI (x4 - x0)).toNat),(((List.drop ((wI (x4 - x0)).toNat) x3).take ((wI (x5 - x0)).toNat - (wI (x4 - x0)).toNat)).length:Int),0)).bind λv8=>
 (Hr v8).bind λc9=>
 (QH c9).bind λc10=>
 cK (Aa (v8.length+c10.length) 1) <|
 some (v8++c10)
def Ie (x0:Int) (x1:LB) (x2:List (Int×Int)) (x3:List (List (Int×(Int×LB)))) (x4 x5:Int):Option ((LI×Int)):=
 (Hq x0 x1 x2 x3 x4 x5).bind λc1=>
 if decide (c1=1)then
  some ([],1)
 else
 if decide (c1=2)then
  some ([],2)
 else
  (ON x0 x1 x2 x3 x4 x5).bind λc2=>
  if decide (20000 < (c2.length:Int))then
   some ([],6)
  else
   some (c2,0)
def Fi (x0:LL) (x1:Int) (x2:Bool) (x3 x4 x5:Int):Option ((LI×Int)):=
 (Gs x0 x1 x2 x3).bind λ(_,a,b,c,d,e)=>
 if(!a)then
  some ([],1)
 else
  (Ie b c d e x4 x5).bind λc2=>
  some (c2.1,c2.2)
def I3 (y:(LI×(LI×Int))):Option ((LI×(LI×Int))⊕(Unit⊕Bool)):=
 if decide (y.2.2 < (y.1.length:Int))then
  gX y.1 y.2.2 λr1=>
  gX y.2.1 y.2.2 λr2=>
  if decide (¬ r1=r2)then
   some (.inr (.inr false))
  else
   some (.inl (y.1,y.2.1,wI (y.2.2+1)))
 else
  some (.inr (.inl ()))
def FF (x0 x1:LI):Option (Bool):=
 if decide (¬ (x0.length:Int)=(x1.length:Int))then
  some false
 else
  (Ab I3 (x0,x1,0)).bind λv3=>
  match v3 with
  | .inl y4=>
   some true
  | .inr s5=>
   some s5
def Id (y:U16):Option (U16⊕(Unit⊕Bool)):=
 if decide (y.2.2 < (y.1.length:Int))then
  gX y.1 y.2.2 λr1=>
  gX y.2.1 y.2.2 λr2=>
  (FF r1 r2).bind λc3=>
  if(!c3)then
   some (.inr (.inr false))
  else
   some (.inl (y.1,y.2.1,wI (y.2.2+1)))
 else
  some (.inr (.inl ()))
def Lj (x0 x1:LL):Option (Bool):=
 if decide (¬ (x0.length:Int)=(x1.length:Int))then
  some false
 else
  (Ab Id (x0,x1,0)).bind λv4=>
  match v4 with
  | .inl y5=>
   some true
  | .inr s6=>
   some s6
def Md (x0:LL) (x1:Int) (x2:Bool) (x3:Int) (x4:LL) (x5:Int) (x6:Bool) (x7:Int):Option (Bool):=
 (Lj x0 x4).bind λc1=>
 if(!c1)then
  some false
 else
 if decide (¬ x1=x5)then
  some false
 else
 if(x2 != x6)then
  some false
 else
 if decide (¬ x3=x7)then
  some false
 else
  some true
def FQ (y:(LI×(Int×Int))):Option ((LI×(Int×Int))⊕(LI×Int)):=
 if decide (y.2.2 < (y.1.length:Int))then
  cZ y.2.2 <|
  cK (decide (y.2.2 < (y.1.length:Int))) <|
  Option.bind (y.1[0+y.2.2.toNat]?) λr1=>
  Option.bind (y.1[0+y.2.2.toNat]?) λr2=>
  some (.inl (y.1.set (0+y.2.2.toNat) (IntKind.wrap .u8 y.2.1),wI (y.2.1+1),wI (y.2.2+1)))
 else
  some (.inr (y.1,y.2.1))
def Ej (x0:LI) (x1:Int):Option ((LI×Int)):=
 (Ab FQ (x0,x1,0)).bind λv3=>
 some (v3.1,v3.2)
def ET (y:(LL×(Int×Int))):Option ((LL×(Int×Int))⊕(LL×Int)):=
 if decide (y.2.2 < (y.1.length:Int))then
  cZ y.2.2 <|
  cK (decide (y.2.2 < (y.1.length:Int))) <|
  Option.bind (y.1[0+y.2.2.toNat]?) λr1=>
  Option.bind (y.1[0+y.2.2.toNat]?) λr2=>
  (Ej r2 y.2.1).bind λc3=>
  Option.bind (y.1[0+y.2.2.toNat]?) λr4=>
  Option.bind (y.1[0+y.2.2.toNat]?) λr5=>
  some (.inl (y.1.set (0+y.2.2.toNat) c3.1,c3.2,wI (y.2.2+1)))
 else
  some (.inr (y.1,y.2.1))
def Hk (x0:LL) (x1:Int):Option ((LL×Int)):=
 (Ab ET (x0,x1,0)).bind λv6=>
 some (v6.1,v6.2)
def Hg (x0:LL) (x1:Int) (x2:Bool) (x3 x4:Int):Option U56:=
 (Hk x0 x4).bind λc1=>
 some (c1.1,x1,x2,x3,c1.2)
def HF (y:(LI×(Int×Int))):Option ((LI×(Int×Int))⊕(Int⊕Int)):=
 if decide (y.2.2 < (y.1.length:Int))then
  gX y.1 y.2.2 λr1=>
  if decide (¬ r1=(IntKind.wrap .u8 y.2.1))then
   some (.inr (.inr (-1)))
  else
   some (.inl (y.1,wI (y.2.1+1),wI (y.2.2+1)))
 else
  some (.inr (.inl y.2.1))
def Gj (x0:LI) (x1:Int):Option (Int):=
 (Ab HF (x0,x1,0)).bind λv2=>
 match v2 with
 | .inl y3=>
  some y3
 | .inr s4=>
  some s4
def Di (x0:LL) (x1:Int) (x2:Bool) (x3 x4 x5:Int):Option (Bool):=
 (OH x0 x1 x2 x3 1048576).bind λc1=>
 if decide (c1 < 0)then
  some true
 else
  (Hi x0 x1 x2 x3).bind λ(a,b,c,d)=>
  (Hf a b c d x4 x5).bind λc3=>
  (Hi x0 x1 x2 x3).bind λ(e,f,g,h)=>
  (Fi e f g h x4 x5).bind λc5=>
  Option.bind (α:=Alb) (
    (FF c5.1 c3.1).bind λc6=>
    if(!c6)then
     some (x4,x5,c3.1,c3.2,c5.1,c5.2,true,x0,x1,x2,x3,e,f,g,h)
    else
    some (x4,x5,c3.1,c3.2,c5.1,c5.2,decide (¬ c5.2=c3.2),x0,x1,x2,x3,e,f,g,h)) λ(i,j,k,l,m,n,o,p,q,r,s,t,u,v,w)=>
  if o then
   some false
  else
   (Hi p q r s).bind λ(x,y,z,a0)=>
   (Md t u v w x y z a0).bind λc9=>
   if(!c9)then
    some false
   else
    (Hg t u v w 1).bind λ(_,_,_,_,b0)=>
    Option.bind (α:=Ald) (
      if decide (b0 < 0)then
       some (i,j,k,l,m,true,p,q,r,s)
      else
       (FF m k).bind λc11=>
       if(!c11)then
        some (i,j,k,l,m,true,p,q,r,s)
       else
       some (i,j,k,l,m,decide (¬ n=l),p,q,r,s)) λ(c0,d0,e0,f0,g0,h0,i0,j0,k0,l0)=>
    if h0 then
     some false
    else
     (Ej g0 1).bind λc13=>
     (Gj c13.1 1).bind λc14=>
     if decide (c14 < 0)then
      some false
     else
     if decide (¬ c14=c13.2)then
      some false
     else
      (Hi i0 j0 k0 l0).bind λ(m0,n0,o0,p0)=>
      (Fi m0 n0 o0 p0 c0 d0).bind λc16=>
      Option.bind (α:=(LI×(Int×Bool))) (
        (FF c16.1 e0).bind λc17=>
        if(!c17)then
         some (c13.1,c13.2,true)
        else
        some (c13.1,c13.2,decide (¬ c16.2=f0))) λ(q0,r0,s0)=>
      if s0 then
       some false
      else
       (Gj q0 1).bind λc19=>
       if decide (c19 < 0)then
        some false
       else
       if decide (¬ c19=r0)then
        some false
       else
        some true
end
end Go.V.G
namespace Go.V.G
open Go.V
theorem w64 {n:Int} (h1:-9223372036854775808<=n) (h2:n<=9223372036854775807):IntKind.wrap .i64 n=n:=IntWalk.i64_in n ⟨h1,h2⟩
theorem wu8 {n:Int} (h1:0<=n) (h2:n<=255):IntKind.wrap .u8 n=n:=IntWalk.u8_in n ⟨h1,h2⟩
theorem ZB {n:Int} (h1:0<=n) (h2:n<=18446744073709551615):IntKind.wrap .u64 n=n:=IntWalk.u64_in n ⟨h1,h2⟩
section
variable {σ τ:Type}
theorem Ai (f:σ->Option (σ⊕τ)) (st:Nat->σ) (n:Nat) (z:τ) (h:∀k,k < n->f (st k)=some (.inl (st (k+1)))) (hz:f (st n)=some (.inr z)):Ab f (st 0)=some z:=by
 have:∀j,j<=n->Ab f (st (n - j))=some z:=by
  intro j
  induction j with
  | zero=>intro _;rw [AI,AnE,hz]
  | succ j ih=>
   intro hj;rw [AI,h _ O,(O:n - (j+1)+1=n - j)];exact ih O
 have:=this n (Amu _)
 rwa [AnF]at this
theorem Af4 (f:σ->Option (σ⊕τ)) (I:σ->Prop) (m:σ->Nat) (Q:τ->Prop) (step:∀x,I x->(∃y,f x=some (.inl y)/\I y/\m y < m x)\/∃z,f x=some (.inr z)/\Q z) :
  ∀x,I x->∃z,Ab f x=some z/\Q z:=by
 intro x
 induction hm:m x using Nat.strongRecOn generalizing x with
 | ind k ih=>
  intro hx;rcases step x hx with⟨y,h1,h2,h3⟩ | ⟨z,h1,h2⟩
  .obtain ⟨z,h4,h5⟩:=ih (m y) O y rfl h2;exact⟨z,by rw [AI,h1];exact h4,h5⟩
  .exact⟨z,by rw [AI,h1],h2⟩
theorem AiH (f:σ->Option (σ⊕τ)) (I:σ->Prop) (m:σ->Nat) (F:σ->τ) (step:∀x,I x->(∃y,f x=some (.inl y)/\I y/\m y < m x/\F y=F x)\/f x=some (.inr (F x))) :
  ∀x,I x->Ab f x=some (F x):=by
 intro x
 induction hm:m x using Nat.strongRecOn generalizing x with
 | ind k ih=>
  intro hx;rcases step x hx with⟨y,h1,h2,h3,h4⟩ | h1
  .rw [AI,h1,<- h4];exact ih (m y) O y rfl h2
  .rw [AI,h1]
end
end Go.V.G
set_option maxRecDepth 100000
namespace Go.V.G
open Go.V
def Ok {α:Type} (o:Option α) (Q:α->Prop):Prop:=∃r,o=some r/\Q r
section
variable {α β σ τ:Type} {Q:α->Prop}
theorem Ok.mk {r:α} (h:Q r):Ok (some r) Q:=⟨r,rfl,h⟩
theorem Ok.of {o:Option α} {r:α} (h:o=some r) (hq:Q r):Ok o Q:=⟨r,h,hq⟩
theorem Ok.eq {o:Option α} {r:α} (h:Ok o λx=>x=r):o=some r:=by obtain ⟨x,h,rfl⟩:=h;exact h
theorem Ok.mono {o:Option α} {R:α->Prop} (h:Ok o Q) (hq:∀x,Q x->R x):Ok o R:=by obtain ⟨x,h,h'⟩:=h;exact⟨x,h,hq x h'⟩
theorem Ok.bind {o:Option α} {f:α->Option β} {R:β->Prop} (h:Ok o Q) (hf:∀x,Q x->Ok (f x) R):Ok (o.bind f) R:=by
 obtain ⟨x,h,hx⟩:=h;subst h;exact hf x hx
theorem Ok.bind_eq {o:Option α} {f:α->Option β} {R:β->Prop} {r:α} (h:o=some r) (hf:Ok (f r) R):Ok (o.bind f) R:=by subst h;exact hf
theorem Ok.ite {c:Prop} [Decidable c] {a b:Option α} (h1:c->Ok a Q) (h2:¬ c->Ok b Q):Ok (if c then a else b) Q:=by
 split
 .rename_i h;exact h1 h
 .rename_i h;exact h2 h
theorem Ok.yes {c:Prop} [Decidable c] {a b:Option α} (hc:c) (h:Ok a Q):Ok (if c then a else b) Q:=by rw [Al1 hc];exact h
theorem Ok.no {c:Prop} [Decidable c] {a b:Option α} (hc:¬ c) (h:Ok b Q):Ok (if c then a else b) Q:=by rw [AlZ hc];exact h
theorem Ok.loop {f:σ->Option (σ⊕τ)} (I:σ->Prop) (m:σ->Nat) {R:τ->Prop} {x:σ} (hx:I x) (step:∀x,I x->Ok (f x) λr=>match r with
  | .inl y=>I y/\m y < m x
  | .inr z=>R z):Ok (Ab f x) R:=by
 obtain ⟨z,h1,h2⟩:=Af4 f I m R (λx hx=>by
  obtain ⟨r,h1,h2⟩:=step x hx;cases r with
  | inl y=>exact .inl ⟨y,h1,h2⟩
  | inr z=>exact .inr ⟨z,h1,h2⟩) x hx
 exact⟨z,h1,h2⟩
end
abbrev Prt:=Int×(Int×List UInt8)
def kd (p:Prt):Int:=if 0 < p.1/\p.2.1=0/\p.2.2=[]then 1 else if 0 < p.2.1/\p.1=0/\p.2.2=[]then 2 else if p.2.2≠[]/\p.1=0/\p.2.1=0 then 3 else 0
theorem Nl (a b:Int) (s:List UInt8):DZ a b s=some (kd (a,b,s)):=by
 unfold DZ kd;by_cases h1:0 < a <;> by_cases h2:b=0 <;> by_cases h3:s=[] <;> by_cases h4:0 < b <;> by_cases h5:a=0 <;> simp [h1,h2,h3,h4,h5]
theorem Nk (a b:Int) (s:List UInt8):G7 a b s=some (kd (a,b,s)):=by
 unfold G7 kd;by_cases h1:0 < a <;> by_cases h2:b=0 <;> by_cases h3:s=[] <;> by_cases h4:0 < b <;> by_cases h5:a=0 <;> simp [h1,h2,h3,h4,h5]
def I64 (n:Int):Prop:=-9223372036854775808<=n/\n<=9223372036854775807
theorem I64.wrap (n:Int):I64 (IntKind.wrap .i64 n):=by rw [IntKind.wrap_i64];unfold I64;omega
theorem I64.eq {n:Int} (h:I64 n):IntKind.wrap .i64 n=n:=w64 h.1 h.2
def B6:List Prt->Nat
 | []=>0
 | p::l=>p.2.2.length+B6 l
theorem D0:∀a b:List Prt,B6 (a++b)=B6 a+B6 b
 | [],b=>by simp [B6]
 | p::a,b=>by simp only [AmH,B6,D0 a b];omega
theorem FK:∀{l:List Prt} {p:Prt},p∈l->p.2.2.length<=B6 l
 | q::l,p,h=>by
  rcases Ame.1 h with rfl | h
  .simp only [B6];omega
  .have:=FK h;simp only [B6];omega
structure Sm (B:Nat) (l:List Prt):Prop where
 len:l.length<=B
 put:B6 l<=B
 fit:∀p∈l,I64 p.1/\I64 p.2.1
theorem Sm.mono {B C:Nat} {l:List Prt} (h:Sm B l) (hc:B<=C):Sm C l:=⟨Amw h.len hc,Amw h.put hc,h.fit⟩
theorem Sm.nil (B:Nat):Sm B []:=⟨Ane _,Ane _,λ_ h=>by cases h⟩
def Ch (l:List Prt) (p:Prt):List Prt:=
 if p=(0,0,[])then l else
 match l.getLast? with
 | none=>[p]
 | some q=>if kd q=kd p then l.dropLast++[(IntKind.wrap .i64 (q.1+p.1),IntKind.wrap .i64 (q.2.1+p.2.1),q.2.2++p.2.2)]else l++[p]
theorem LD {B:Nat} {l:List Prt} {p:Prt} (h:Sm B l) (hp:I64 p.1/\I64 p.2.1) {C:Nat} (hl:B+1<=C) (hc:B+p.2.2.length<=C):Sm C (Ch l p):=by
 unfold Ch;split
 .exact h.mono O
 .split
  .exact⟨AlR,by simp only [B6];have:=h.put;omega,λq hq=>by rw [Al6.1 hq];exact hp⟩
  .rename_i q hq;obtain ⟨l',rfl⟩:=Aoa.1 hq;have h1:=h.len;have h2:=h.put;rw [D0]at h2;simp only [B6,Al0,Amb]at h1 h2;split
   .rw [Aob];refine⟨AlR,by rw [D0];simp only [B6,Al0];omega,λr hr=>?_⟩;rcases Al3.1 hr with hr | hr
    .exact h.fit r (by simp [hr])
    .rw [Al6.1 hr];exact⟨I64.wrap _,I64.wrap _⟩
   .refine⟨AlR,by rw [D0,D0];simp only [B6];omega,λr hr=>?_⟩;rcases Al3.1 hr with hr | hr
    .exact h.fit r hr
    .rw [Al6.1 hr];exact hp
theorem Mi {α:Type} {l:List α} {q:α} (h:l.getLast?=some q):∃n,l.length=n+1/\l[n]?=some q/\∀x,l.set n x=l.dropLast++[x]:=by
 obtain ⟨l',rfl⟩:=Aoa.1 h;exact⟨l'.length,Z,Z,λx=>by simp⟩
theorem OL {B:Nat} {l:List Prt} (h:Sm B l) (hB:B<=1099511627776) (a b:Int) (s:List UInt8) (hs:s.length<=1099511627776):LP l a b s=some (Ch l (a,b,s)):=by
 unfold LP Ch cK cZ wI;by_cases h0:((a,b,s):Prt)=(0,0,[])
 .obtain ⟨rfl,rfl,rfl⟩:a=0/\b=0/\s=[]:=by simpa using h0
  simp
 .rw [AlZ h0,AlZ (by simpa using h0)];have hroom:∀x:Prt,Aa (l.length + [x].length) 32=true:=λx=>by
   have:=h.len;simp [Aa];omega
  cases hg:l.getLast? with
  | none=>
   obtain rfl:l=[]:=by simpa using hg
   simp [Aa]
  | some q=>
   obtain ⟨n,hn,hq,hset⟩:=Mi hg;have hqs:q.2.2.length<=B:=Amw (FK (AmI hq)) h.put;have e1:IntKind.wrap .i64 ((l.length:Int) - 1)=(n:Int):=by rw [hn,w64 O (by have:=h.len;omega)];omega
   have hpos:(0:Int) < (l.length:Int):=O
   have hlt:(n:Int) < (l.length:Int):=O
   have hge:(0:Int)<=(n:Int):=O
   have hst:∀x:Prt,(l.set n x)[n]?=some x:=λx=>Ant O
   simp only [e1,hpos,hlt,hge,decide_true,Amd,AlX,Amk,hq,AlU,Nk];by_cases hk:kd q=kd (a,b,s)
   .have hk':(kd (q.1,q.2.1,q.2.2)=kd (a,b,s)):=hk;have hlen:q.2.2.length+s.length<=9223372036854775807:=O
    simp only [hk',hk,decide_true,Amd,e1,hlt,hge,AlX,hq,AlU,hst,List.set_set,hlen];rw [hset]
   .have hk':¬ (kd (q.1,q.2.1,q.2.2)=kd (a,b,s)):=hk;simp only [hk',hk,decide_false,Amv,Al8,hroom,Amd]
def AkR (code:List Int):Prop:=∀x∈code,0<=x/\x<=255
structure At (code:List Int) (k:Int) (a:Int):Prop where
 b:AkR code
 lo:0<=a
 hi:a+k<=4611686018427387904
structure To (code:List Int) (a k:Int) (code':List Int) (a':Int):Prop where
 c:code'=code
 lo:a<=a'
 hi:a'<=a+k
theorem To.at {code code':List Int} {a k a' j:Int} (t:To code a k code' a') (h:At code (k+j) a):At code' j a':=by
 obtain ⟨rfl,h1,h2⟩:=t;exact⟨h.b,by have:=h.lo;omega,by have:=h.hi;omega⟩
theorem To.trans {c c1 c2:List Int} {a k a1 j a2:Int} (t:To c a k c1 a1) (u:To c1 a1 j c2 a2):To c a (k+j) c2 a2:=by
 obtain ⟨rfl,h1,h2⟩:=t;obtain ⟨rfl,h3,h4⟩:=u;exact⟨rfl,O,O⟩
theorem To.refl (c:List Int) (a:Int):To c a 0 c a:=⟨rfl,Am6 _,O⟩
theorem To.more {c c1:List Int} {a k a1 j:Int} (t:To c a k c1 a1) (h:k<=j):To c a j c1 a1:=⟨t.c,t.lo,by have:=t.hi;omega⟩
end Go.V.G
set_option maxRecDepth 100000
namespace Go.V.G
open Go.V
theorem Sm.snoc {B C:Nat} {l:List Prt} {p:Prt} (h:Sm B l) (hp:I64 p.1/\I64 p.2.1) (hl:B+1<=C) (hc:B+p.2.2.length<=C):Sm C (l++[p]):=
 ⟨by have:=h.len;simp;omega,by rw [D0];simp only [B6];have:=h.put;omega,λq hq=>by
  rcases Al3.1 hq with hq | hq
  .exact h.fit q hq
  .rw [Al6.1 hq];exact hp⟩
end Go.V.G
set_option maxRecDepth 100000
namespace Go.V.G
open Go.V
def src:List Prt->Int
 | []=>0
 | p::l=>p.1+p.2.1+src l
def tgt:List Prt->Int
 | []=>0
 | p::l=>p.1+p.2.2.length+tgt l
theorem Dv:∀a b:List Prt,src (a++b)=src a+src b
 | [],b=>by simp [src]
 | p::a,b=>by simp only [AmH,src,Dv a b];omega
theorem Ds:∀a b:List Prt,tgt (a++b)=tgt a+tgt b
 | [],b=>by simp [tgt]
 | p::a,b=>by simp only [AmH,tgt,Ds a b];omega
def okk:Int->List Prt->Bool
 | _,[]=>true
 | k,p::l=>!(decide (kd p=0)) && !(decide (kd p=k)) && okk (kd p) l
def AA (c:List Prt):Bool:=okk 0 c && decide (src c<=120) && decide (tgt c<=120)
structure Some1 (p:Prt):Prop where
 k:0<=p.1
 d:0<=p.2.1
 ne:kd p≠0
theorem JT {p:Prt} (h:kd p≠0):Some1 p:=by
 refine⟨?_,?_,h⟩ <;> (unfold kd at h;split at h;omega;split at h;omega;split at h;omega;exact absurd rfl h)
theorem A7:∀{k:Int} {l:List Prt},okk k l=true->∀p∈l,Some1 p
 | k,q::l,h,p,hp=>by
  simp only [okk,Al2,Al9,decide_eq_false_iff_not]at h;rcases Ame.1 hp with rfl | hp
  .exact JT h.1.1
  .exact A7 h.2 p hp
theorem AR:∀{l:List Prt},(∀p∈l,Some1 p)->0<=src l
 | [],_=>Am6 _
 | p::l,h=>by
  have h1:=h p Z;have h2:=AR (l:=l) (λq hq=>h q (by simp [hq]));have:=h1.k;have:=h1.d;simp only [src];omega
theorem B8:∀{l:List Prt},(∀p∈l,Some1 p)->0<=tgt l
 | [],_=>Am6 _
 | p::l,h=>by
  have h1:=h p Z;have h2:=B8 (l:=l) (λq hq=>h q (by simp [hq]));have:=h1.k;simp only [tgt];omega
theorem AdL {l:List Prt} {i:Nat} (h:i < l.length):l=l.take i++l[i]::l.drop (i+1):=by
 rw [<- Amx h,AmJ]
theorem Ju {l:List Prt} {i:Nat} (h:i < l.length):src l=src (l.take i)+(l[i].1+l[i].2.1+src (l.drop (i+1))):=by
 conv=>lhs;rw [AdL h]
 rw [Dv];rfl
theorem QW {l:List Prt} {i:Nat} (h:i < l.length):tgt l=tgt (l.take i)+(l[i].1+l[i].2.2.length+tgt (l.drop (i+1))):=by
 conv=>lhs;rw [AdL h]
 rw [Ds];rfl
theorem JS {l:List Prt} {i:Nat} (h:i < l.length):src (l.take (i+1))=src (l.take i)+(l[i].1+l[i].2.1):=by
 rw [Ama h,Dv];simp [src]
theorem Su {l:List Prt} {i:Nat} (h:i < l.length):tgt (l.take (i+1))=tgt (l.take i)+(l[i].1+l[i].2.2.length):=by
 rw [Ama h,Ds];simp [tgt]
def CV (l:List Prt) (i:Nat):Int:=if i=0 then 0 else match l[i - 1]? with
 | some p=>kd p
 | none=>0
theorem RT {l:List Prt} {i:Nat} (h:i < l.length):CV l (i+1)=kd l[i]:=by simp [CV,AlW h]
theorem XU {l:List Prt} {i:Nat} (h:i < l.length) (k:Int):okk k (l.drop i)=(!(decide (kd l[i]=0)) && !(decide (kd l[i]=k)) && okk (kd l[i]) (l.drop (i+1))):=by
 rw [Amx h];rfl
theorem Cz {l:List Prt} {i:Nat} {p:Prt} (h:p∈l.drop i):p∈l:=AnA h
theorem B5 {l:List Prt} {i:Nat} {p:Prt} (h:p∈l.take i):p∈l:=Am7 h
theorem An {i:Nat} {n:Nat} (hn:n<=1099511627776) (h:i < n):IntKind.wrap .i64 ((i:Int)+1)=((i+1:Nat):Int):=by
 rw [w64 O O];omega
theorem AaN {c:List Prt} (hlen:c.length<=1099511627776):Ok (Ab Jp (c,c,(List.length c:Int),0)) λr=>match r with
  | .inl y=>y=c/\okk 0 c=true
  | .inr b=>b=false/\okk 0 c=false:=by
 refine Ok.loop (λy=>y.1=c/\y.2.1=c/\y.2.2.1=(List.length c:Int)/\∃i:Nat,y.2.2.2=(i:Int)/\i<=c.length/\okk 0 c=okk (CV c i) (c.drop i)) (λy=>((List.length c:Int) - y.2.2.2).toNat)
  ⟨rfl,rfl,rfl,0,rfl,Ane _,by simp [CV]⟩ ?_
 rintro ⟨a,b,n,i'⟩ ⟨e1,e2,e3,i,e4,hi,hk⟩;dsimp only at e1 e2 e3 e4;subst e1 e2 e3 e4;unfold Jp gX wI;dsimp only;refine Ok.ite (λhc=>?_) λhc=>?_
 .have hlt:i < b.length:=by simpa using hc
  refine Ok.yes Z (Ok.bind_eq (r:=b[i]) (by simp [AlW hlt]) (Ok.bind_eq (Nl _ _ _) ?_));have hb:CV b i=CV b i:=rfl;refine Ok.bind (Q:=λv=>v=(b,b,(List.length b:Int),(i:Int),decide (kd b[i]=0) || decide (kd b[i]=CV b i))) ?_ ?_
  .refine Ok.ite (λh0=>?_) λh0=>?_
   .exact Ok.mk (by
       have:kd b[i]=0:=by simpa using h0
       simp [this])
   .have h0':¬ kd b[i]=0:=by simpa using h0
    refine Ok.ite (λhp=>?_) λhp=>?_
    .have hp':0 < i:=by simpa using hp
     have e:IntKind.wrap .i64 ((i:Int) - 1)=((i - 1:Nat):Int):=by rw [w64 O O];omega
     have hl1:i - 1 < b.length:=O
     refine Ok.yes (by simp [e]) (Ok.bind_eq (r:=b[i - 1]) (by simp [e,AlW hl1]) (Ok.bind_eq (Nl _ _ _) (Ok.mk ?_)));have hne:¬ i=0:=O
     have hb:CV b i=kd b[i - 1]:=by simp [CV,hne,AlW hl1]
     rw [hb];have e0:decide (kd b[i]=0)=false:=by simpa using h0'
     rw [e0,Anh];show(_,_,_,_,decide (kd b[i - 1]=kd b[i]))=_
     congr 4
     exact decide_eq_decide.2 eq_comm
    .have hi0:i=0:=by
      have:¬ (0:Int) < (i:Int):=by simpa using hp
      omega
     subst hi0;have e0:decide (kd b[0]=0)=false:=by simpa using h0'
     exact Ok.mk (by simp [CV,e0])
  .rintro _ rfl;dsimp only;rw [XU hlt]at hk;refine Ok.ite (λhbad=>Ok.mk ⟨rfl,?_⟩) λhfine=>Ok.mk ⟨⟨rfl,rfl,rfl,i+1,An hlen hlt,O,?_⟩,?_⟩
   .rw [hk];rcases Bool.or_eq_true_iff.1 hbad with h | h <;> simp [h]
   .rw [hk,RT hlt];have:(decide (kd b[i]=0) || decide (kd b[i]=CV b i))=false:=by simpa using hfine
    obtain ⟨h1,h2⟩:=AnV.1 this;simp [h1,h2]
   .rw [An hlen hlt];dsimp only;omega
 .have:i=b.length:=by
   have:¬ ((i:Int) < (List.length b:Int)):=by simpa using hc
   omega
  subst this;exact Ok.mk ⟨rfl,by rw [hk];simp [okk]⟩
def Zy (c:List Prt):Int×(Int×Bool):=if src c<=120/\tgt c<=120 then(src c,tgt c,true)else(0,0,false)
theorem QY {c:List Prt} (hlen:c.length<=1099511627776) (hput:B6 c<=1099511627776) (hs:∀p∈c,Some1 p) (hf:∀p∈c,I64 p.1/\I64 p.2.1):KD c=some (Zy c):=by
 unfold KD;refine Ok.eq ?_;refine Ok.bind (Q:=λr=>match r with
  | .inl y=>src c<=120/\tgt c<=120/\y=(src c,tgt c)
  | .inr y=>¬ (src c<=120/\tgt c<=120)/\y=(0,0,false)) ?_ ?_
 .refine Ok.loop (λy=>y.2.2.1=c/\y.2.2.2.1=(List.length c:Int)/\∃i:Nat,y.2.2.2.2=(i:Int)/\i<=c.length/\y.1=src (c.take i)/\y.2.1=tgt (c.take i)/\y.1<=120/\y.2.1<=120) (λy=>((List.length c:Int) - y.2.2.2.2).toNat)
   ⟨rfl,rfl,0,rfl,Ane _,by simp [src],by simp [tgt],Z,Z⟩ ?_
  rintro ⟨s,t,c',n,i'⟩ ⟨e1,e2,i,e3,hi,e4,e5,h1,h2⟩;dsimp only at e1 e2 e3 e4 e5 h1 h2;subst e1 e2 e3;unfold QE gX wI;dsimp only;refine Ok.ite (λhc=>?_) λhc=>?_
  .have hlt:i < c'.length:=by simpa using hc
   have hmem:c'[i]∈c':=Amc hlt;have hp:=hs _ hmem;have hpf:=hf _ hmem;have hpp:=FK hmem;have k0:=hp.k;have d0:=hp.d;have n1:=AR (l:=c'.take i) λp h=>hs p (B5 h)
   have n2:=B8 (l:=c'.take i) λp h=>hs p (B5 h)
   have n3:=AR (l:=c'.drop (i+1)) λp h=>hs p (Cz h)
   have n4:=B8 (l:=c'.drop (i+1)) λp h=>hs p (Cz h)
   have a1:=Ju hlt;have a2:=QW hlt;refine Ok.yes Z (Ok.bind_eq (r:=c'[i]) (by simp [AlW hlt]) ?_);refine Ok.bind (Q:=λv=>v=(s,t,c',(List.length c':Int),(i:Int),decide (120 < c'[i].1\/120 < c'[i].2.1),c'[i].1,c'[i].2.1,c'[i].2.2)) ?_ ?_
   .refine Ok.ite (λh=>Ok.mk ?_) λh=>Ok.mk ?_
    .have:120 < c'[i].1:=by simpa using h
     simp [this]
    .have:¬ 120 < c'[i].1:=by simpa using h
     simp [this]
   rintro _ rfl;dsimp only;refine Ok.ite (λhb=>Ok.mk ⟨?_,rfl⟩) λhb=>?_
   .have:120 < c'[i].1\/120 < c'[i].2.1:=by simpa using hb
    omega
   .have hb':¬ (120 < c'[i].1\/120 < c'[i].2.1):=by simpa using hb
    have w1:IntKind.wrap .i64 (c'[i].1+c'[i].2.1)=c'[i].1+c'[i].2.1:=w64 O O;have w2:IntKind.wrap .i64 (s+(c'[i].1+c'[i].2.1))=s+(c'[i].1+c'[i].2.1):=w64 O O;have w3:IntKind.wrap .i64 (c'[i].1+(List.length c'[i].2.2:Int))=c'[i].1+(List.length c'[i].2.2:Int):=w64 O O;have w4:IntKind.wrap .i64 (t+(c'[i].1+(List.length c'[i].2.2:Int)))=t+(c'[i].1+(List.length c'[i].2.2:Int)):=w64 O O;rw [w1,w2,w3,w4];refine Ok.bind (Q:=λv=>v=(s+(c'[i].1+c'[i].2.1),t+(c'[i].1+(List.length c'[i].2.2:Int)),c',(List.length c':Int),(i:Int),decide (120 < s+(c'[i].1+c'[i].2.1)\/120 < t+(c'[i].1+(List.length c'[i].2.2:Int))))) ?_ ?_
    .refine Ok.ite (λh=>Ok.mk ?_) λh=>Ok.mk ?_
     .have:120 < s+(c'[i].1+c'[i].2.1):=by simpa using h
      simp [this]
     .have:¬ 120 < s+(c'[i].1+c'[i].2.1):=by simpa using h
      simp [this]
    rintro _ rfl;dsimp only;refine Ok.ite (λhb=>Ok.mk ⟨?_,rfl⟩) λhb=>Ok.mk ⟨⟨rfl,rfl,i+1,An hlen hlt,O,?_,?_,?_,?_⟩,?_⟩
    .have:120 < s+(c'[i].1+c'[i].2.1)\/120 < t+(c'[i].1+(List.length c'[i].2.2:Int)):=by simpa using hb
     omega
    .rw [JS hlt,e4]
    .rw [Su hlt,e5]
    .have:¬ (120 < s+(c'[i].1+c'[i].2.1)\/120 < t+(c'[i].1+(List.length c'[i].2.2:Int))):=by simpa using hb
     dsimp only;omega
    .have:¬ (120 < s+(c'[i].1+c'[i].2.1)\/120 < t+(c'[i].1+(List.length c'[i].2.2:Int))):=by simpa using hb
     dsimp only;omega
    .rw [An hlen hlt];dsimp only;omega
  .have:i=c'.length:=by
    have:¬ ((i:Int) < (List.length c':Int)):=by simpa using hc
    omega
   subst this;rw [AmL]at e4 e5;exact Ok.mk ⟨O,O,by rw [e4,e5]⟩
 .rintro (y | y) h
  .obtain ⟨h1,h2,rfl⟩:=h;exact Ok.mk (by simp [Zy,h1,h2])
  .obtain ⟨h1,rfl⟩:=h;exact Ok.mk (by simp [Zy,h1])
theorem P7 {B:Nat} {c:List Prt} (h:Sm B c) (hB:B<=1099511627776):Fq c=some (AA c):=by
 unfold Fq;refine Ok.eq (Ok.bind (AaN (Amw h.len hB)) ?_);rintro (y | b) hr
 .obtain ⟨rfl,hk⟩:=hr;refine Ok.bind_eq (QY (Amw h.len hB) (Amw h.put hB) (A7 hk) h.fit) (Ok.mk ?_);unfold AA Zy;rw [hk];by_cases h1:src y<=120 <;> by_cases h2:tgt y<=120 <;> simp [h1,h2]
 .obtain ⟨rfl,hk⟩:=hr;exact Ok.mk (by simp [AA,hk])
def YT (c:List Prt):Int×(Int×Bool):=if AA c=true then(src c,tgt c,true)else(0,0,false)
theorem As {c:List Prt} (h:AA c=true):okk 0 c=true/\src c<=120/\tgt c<=120:=by
 simp only [AA,Al2,decide_eq_true_eq]at h;exact⟨h.1.1,h.1.2,h.2⟩
theorem VI {B:Nat} {c:List Prt} (h:Sm B c) (hB:B<=1099511627776):Kb c=some (YT c):=by
 unfold Kb YT;rw [P7 h hB,AlU];cases hg:AA c with
 | false=>simp
 | true=>
  obtain ⟨h1,h2,h3⟩:=As hg;simp [QY (Amw h.len hB) (Amw h.put hB) (A7 h1) h.fit,Zy,h2,h3]
end Go.V.G
set_option maxRecDepth 100000
namespace Go.V.G
open Go.V
theorem MM {B:Nat} {c:List Prt} (h:Sm B c) (hB:B<=1099511627776):Fj c=some (AA c):=by
 have hlen:=Amw h.len hB;have hput:=Amw h.put hB;unfold Fj;refine Ok.eq (Ok.bind (Q:=λr=>match r with
  | .inl _=>AA c=true
  | .inr b=>b=false/\AA c=false) ?_ ?_)
 .refine Ok.loop (λy=>y.1=c/\y.2.2.2.1=c/\y.2.2.2.2.1=(List.length c:Int)/\∃i:Nat,y.2.2.2.2.2=(i:Int)/\i<=c.length/\y.2.1=src (c.take i)/\y.2.2.1=tgt (c.take i)/\y.2.1<=120/\y.2.2.1<=120/\
    okk 0 c=okk (CV c i) (c.drop i)/\∀p∈c.take i,Some1 p) (λy=>((List.length c:Int) - y.2.2.2.2.2).toNat)
   ⟨rfl,rfl,rfl,0,rfl,Ane _,by simp [src],by simp [tgt],Z,Z,by simp [CV],λp hp=>by simp at hp⟩ ?_
  rintro ⟨c0,s,t,c',n,i'⟩ ⟨e1,e2,e3,i,e4,hi,e5,e6,h1,h2,hk,hs⟩;dsimp only at e1 e2 e3 e4 e5 e6 h1 h2;subst e1 e2 e3 e4;unfold M3 gX wI;dsimp only;refine Ok.ite (λhc=>?_) λhc=>?_
  .have hlt:i < c'.length:=by simpa using hc
   have hmem:c'[i]∈c':=Amc hlt;have hpf:=h.fit _ hmem;have hpp:=FK hmem;refine Ok.yes Z (Ok.bind_eq (r:=c'[i]) (by simp [AlW hlt]) (Ok.bind_eq (Nk _ _ _) ?_));rw [XU hlt]at hk;have n1:=AR hs;have n2:=B8 hs;have a1:=Ju hlt;have a2:=QW hlt;have bad:(kd c'[i]=0\/kd c'[i]=CV c' i\/120 < c'[i].1\/120 < c'[i].2.1\/120 < c'[i].2.2.length)->AA c'=false:=by
    intro hb;cases hg:AA c' with
    | false=>rfl
    | true=>
     exfalso;obtain ⟨g1,g2,g3⟩:=As hg;have q:=A7 g1;have n3:=AR (l:=c'.drop (i+1)) λp h=>q p (Cz h)
     have n4:=B8 (l:=c'.drop (i+1)) λp h=>q p (Cz h)
     have p1:=q _ hmem;have k0:=p1.k;have d0:=p1.d;rw [g1]at hk;have hk':=hk.symm;simp only [Al2,Al9,decide_eq_false_iff_not]at hk';rcases hb with hb | hb | hb | hb | hb
     .exact p1.ne hb
     .exact hk'.1.2 hb
     .omega
     .omega
     .omega
   refine Ok.bind (Q:=λv=>∃b:Bool,v=(c',s,t,c',(List.length c':Int),(i:Int),b,c'[i].1,c'[i].2.1,c'[i].2.2)/\
     (b=true->kd c'[i]=0\/kd c'[i]=CV c' i\/120 < c'[i].1\/120 < c'[i].2.1\/120 < c'[i].2.2.length)/\
     (b=false->kd c'[i]≠0/\kd c'[i]≠CV c' i/\c'[i].1<=120/\c'[i].2.1<=120/\c'[i].2.2.length<=120)) ?_ ?_
   .refine Ok.ite (λh0=>?_) λh0=>?_
    .have h0':kd c'[i]=0:=by simpa using h0
     exact Ok.mk ⟨true,rfl,λ_=>.inl h0',λh=>by cases h⟩
    .have h0':¬ kd c'[i]=0:=by simpa using h0
     refine Ok.ite (λhp=>?_) λhp=>?_
     .have hp':0 < i:=by simpa using hp
      have e:IntKind.wrap .i64 ((i:Int) - 1)=((i - 1:Nat):Int):=by rw [w64 O O];omega
      have hl1:i - 1 < c'.length:=O
      have hne:¬ i=0:=O
      have hb:CV c' i=kd c'[i - 1]:=by simp [CV,hne,AlW hl1]
      refine Ok.yes (by simp [e]) (Ok.bind_eq (r:=c'[i - 1]) (by simp [e,AlW hl1]) (Ok.bind_eq (Nk _ _ _) ?_));rw [hb];refine Ok.ite (λhq=>?_) λhq=>?_
      .have hq':kd c'[i - 1]=kd c'[i]:=by simpa using hq
       exact Ok.mk ⟨true,rfl,λ_=>.inr (.inl hq'.symm),λh=>by cases h⟩
      have hq':¬ kd c'[i - 1]=kd c'[i]:=by simpa using hq
      refine Ok.ite (λhq1=>Ok.mk ⟨true,rfl,λ_=>.inr (.inr (.inl (by simpa using hq1))),λh=>by cases h⟩) λhq1=>?_
      refine Ok.ite (λhq2=>Ok.mk ⟨true,rfl,λ_=>.inr (.inr (.inr (.inl (by simpa using hq2)))),λh=>by cases h⟩) λhq2=>?_
      refine Ok.mk ⟨_,rfl,λhq3=>.inr (.inr (.inr (.inr ?_))),λhq3=>⟨h0',λh=>hq' h.symm,by simpa using hq1,by simpa using hq2,?_⟩⟩
      .simp only [decide_eq_true_eq]at hq3;omega
      .simp only [decide_eq_false_iff_not]at hq3;omega
     .have hi0:i=0:=by
       have:¬ (0:Int) < (i:Int):=by simpa using hp
       omega
      subst hi0;have hb:CV c' 0=0:=rfl;rw [hb];refine Ok.ite (λhq1=>Ok.mk ⟨true,rfl,λ_=>.inr (.inr (.inl (by simpa using hq1))),λh=>by cases h⟩) λhq1=>?_
      refine Ok.ite (λhq2=>Ok.mk ⟨true,rfl,λ_=>.inr (.inr (.inr (.inl (by simpa using hq2)))),λh=>by cases h⟩) λhq2=>?_
      refine Ok.mk ⟨_,rfl,λhq3=>.inr (.inr (.inr (.inr ?_))),λhq3=>⟨h0',h0',by simpa using hq1,by simpa using hq2,?_⟩⟩
      .simp only [decide_eq_true_eq]at hq3;omega
      .simp only [decide_eq_false_iff_not]at hq3;omega
   rintro _ ⟨b,rfl,hb1,hb2⟩;dsimp only;cases b with
   | true=>exact Ok.yes rfl (Ok.mk ⟨rfl,bad (hb1 rfl)⟩)
   | false=>
    refine Ok.no Z ?_;obtain ⟨g1,g2,g3,g4,g5⟩:=hb2 rfl;have p1:=JT g1;have k0:=p1.k;have d0:=p1.d;have w1:IntKind.wrap .i64 (c'[i].1+c'[i].2.1)=c'[i].1+c'[i].2.1:=w64 O O;have w2:IntKind.wrap .i64 (s+(c'[i].1+c'[i].2.1))=s+(c'[i].1+c'[i].2.1):=w64 O O;have w3:IntKind.wrap .i64 (c'[i].1+(List.length c'[i].2.2:Int))=c'[i].1+(List.length c'[i].2.2:Int):=w64 O O;have w4:IntKind.wrap .i64 (t+(c'[i].1+(List.length c'[i].2.2:Int)))=t+(c'[i].1+(List.length c'[i].2.2:Int)):=w64 O O;rw [w1,w2,w3,w4];have over:(120 < s+(c'[i].1+c'[i].2.1)\/120 < t+(c'[i].1+(List.length c'[i].2.2:Int)))->AA c'=false:=by
     intro ho;cases hg:AA c' with
     | false=>rfl
     | true=>
      exfalso;obtain ⟨q1,q2,q3⟩:=As hg;have q:=A7 q1;have n3:=AR (l:=c'.drop (i+1)) λp h=>q p (Cz h)
      have n4:=B8 (l:=c'.drop (i+1)) λp h=>q p (Cz h)
      omega
    refine Ok.bind (Q:=λv=>v=(c',s+(c'[i].1+c'[i].2.1),t+(c'[i].1+(List.length c'[i].2.2:Int)),c',(List.length c':Int),(i:Int),decide (120 < s+(c'[i].1+c'[i].2.1)\/120 < t+(c'[i].1+(List.length c'[i].2.2:Int))))) ?_ ?_
    .refine Ok.ite (λh=>Ok.mk ?_) λh=>Ok.mk ?_
     .have:120 < s+(c'[i].1+c'[i].2.1):=by simpa using h
      simp [this]
     .have:¬ 120 < s+(c'[i].1+c'[i].2.1):=by simpa using h
      simp [this]
    rintro _ rfl;dsimp only;refine Ok.ite (λhb=>Ok.mk ⟨rfl,over (by simpa using hb)⟩) λhb=>Ok.mk ⟨⟨rfl,rfl,rfl,i+1,An hlen hlt,O,?_,?_,?_,?_,?_,?_⟩,?_⟩
    .rw [JS hlt,e5]
    .rw [Su hlt,e6]
    .have:¬ (120 < s+(c'[i].1+c'[i].2.1)\/120 < t+(c'[i].1+(List.length c'[i].2.2:Int))):=by simpa using hb
     dsimp only;omega
    .have:¬ (120 < s+(c'[i].1+c'[i].2.1)\/120 < t+(c'[i].1+(List.length c'[i].2.2:Int))):=by simpa using hb
     dsimp only;omega
    .rw [hk,RT hlt];simp [g1,g2]
    .intro p hp;rw [Ama hlt]at hp;rcases Al3.1 hp with hp | hp
     .exact hs p hp
     .rw [Al6.1 hp];exact p1
    .rw [An hlen hlt];dsimp only;omega
  .have:i=c'.length:=by
    have:¬ ((i:Int) < (List.length c':Int)):=by simpa using hc
    omega
   subst this;rw [AmL]at e5 e6;refine Ok.mk ?_;unfold AA;rw [hk];simp [okk];omega
 .rintro (y | b) hr
  .exact Ok.mk hr.symm
  .obtain ⟨rfl,hk⟩:=hr;exact Ok.mk hk.symm
theorem RW {B:Nat} {c:List Prt} (h:Sm B c) (hB:B<=1099511627776) (hs:∀p∈c,Some1 p) (hle:src c<=1000000):Jz c=some (src c):=by
 have hlen:=Amw h.len hB;unfold Jz;have:Ab F9 (0,c,(List.length c:Int),0)=some (src c):=by
  have:=Ai F9 (λk=>(src (c.take k),c,(List.length c:Int),(k:Int))) c.length (src c) (by
   intro i hlt;have n1:=AR (l:=c.take i) λp h=>hs p (B5 h)
   have n3:=AR (l:=c.drop (i+1)) λp h=>hs p (Cz h)
   have p1:=hs _ (Amc hlt);have k0:=p1.k;have d0:=p1.d;have a1:=Ju hlt;have w1:IntKind.wrap .i64 (c[i].1+c[i].2.1)=c[i].1+c[i].2.1:=w64 O O;have w2:IntKind.wrap .i64 (src (c.take i)+(c[i].1+c[i].2.1))=src (c.take i)+(c[i].1+c[i].2.1):=w64 O O;have hi:(i:Int) < (List.length c:Int):=O
   simp [F9,gX,wI,hi,AlW hlt,w1,w2,JS hlt,An hlen hlt]) (by simp [F9,gX,wI])
  simpa [src] using this
 rw [this];rfl
theorem AaO {B:Nat} {c:List Prt} (h:Sm B c) (hB:B<=1099511627776) (hs:∀p∈c,Some1 p) (hle:tgt c<=1000000):Lm c=some (tgt c):=by
 have hlen:=Amw h.len hB;unfold Lm;have:Ab Gh (0,c,(List.length c:Int),0)=some (tgt c):=by
  have:=Ai Gh (λk=>(tgt (c.take k),c,(List.length c:Int),(k:Int))) c.length (tgt c) (by
   intro i hlt;have n1:=B8 (l:=c.take i) λp h=>hs p (B5 h)
   have n3:=B8 (l:=c.drop (i+1)) λp h=>hs p (Cz h)
   have p1:=hs _ (Amc hlt);have k0:=p1.k;have a1:=QW hlt;have w1:IntKind.wrap .i64 (c[i].1+(List.length c[i].2.2:Int))=c[i].1+(List.length c[i].2.2:Int):=w64 O O;have w2:IntKind.wrap .i64 (tgt (c.take i)+(c[i].1+(List.length c[i].2.2:Int)))=tgt (c.take i)+(c[i].1+(List.length c[i].2.2:Int)):=w64 O O;have hi:(i:Int) < (List.length c:Int):=O
   simp [Gh,gX,wI,hi,AlW hlt,w1,w2,Su hlt,An hlen hlt]) (by simp [Gh,gX,wI])
  simpa [tgt] using this
 rw [this];rfl
theorem B2 (n lo hi:Int):Bw n lo hi=some (decide (lo<=n/\n<=hi)):=by
 unfold Bw;by_cases h1:lo<=n <;> simp [h1]
theorem AK (n lo hi:Int):Bt n lo hi=some (decide (lo<=n/\n<=hi)):=by
 unfold Bt;by_cases h1:lo<=n <;> simp [h1]
end Go.V.G