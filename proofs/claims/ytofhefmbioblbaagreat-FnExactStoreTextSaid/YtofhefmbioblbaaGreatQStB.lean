import Derived.Test.YtofhefmbioblbaaGreatQStA
import Derived.IntWalk
set_option linter.unusedVariables false
set_option linter.unusedSimpArgs false
set_option maxRecDepth 100000
namespace Go.V.G
noncomputable section
abbrev LI:=List Int
abbrev LL:=List LI
abbrev LB:=List UInt8
abbrev cK {α:Type} (b:Bool) (a:Option α):Option α:=if b=true then a else none
abbrev cZ {α:Type} (x:Int) (a:Option α):Option α:=if decide ((0:Int)<=x)=true then a else none
abbrev gX {α β:Type} (l:List α) (i:Int) (k:α->Option β):Option β:=if decide ((0:Int)<=i)=true then Option.bind (l[Int.toNat i]?) k else none
abbrev sX {α:Type} (l h m:Int) (n:Nat) (a:Option α):Option α:=if decide ((0:Int)<=l)=true then(if decide ((l:Int)<=h)=true then(if decide ((h:Int)<=m)=true then(if decide ((m:Int)<=(n:Int))=true then a else none)else none)else none)else none
abbrev wI (x:Int):Int:=IntKind.wrap .i64 x
abbrev wB (x:Int):Int:=IntKind.wrap .u8 x
abbrev U0:=List (List (Int×(Int×LB)))
abbrev U1:=Option (LL×(LI×(LI×LI)))
abbrev U2:=Option (LL×(Int×(Bool×(Int×(Int×(Int×(Int×(Int×(Int×(LL×(LI×(LI×(LI×(Int×(LI×(LL×(Int×(LB×(List (Int×Int)×List (List (Int×(Int×LB))))))))))))))))))))))
abbrev U3:=List (Int×LI)×LI
abbrev U4:=List (Int×(Int×LB))×Bool
abbrev U5:=LI×List (Int×(Int×LB))
abbrev U7:=Bool×Option (LL×(LI×(LI×LI)))
abbrev U10:=LI×Option (LL×(LI×(LI×LI)))
abbrev U11:=(Option (LL×(Int×(Bool×(Int×(Int×(Int×(Int×(Int×(Int×(LL×(LI×(LI×(LI×(Int×(LI×(LL×(Int×(LB×(List (Int×Int)×List (List (Int×(Int×LB)))))))))))))))))))))))×Int
abbrev U13:=(Option (LL×(Int×(Bool×(Int×(Int×(Int×(Int×(Int×(Int×(LL×(LI×(LI×(LI×(Int×(LI×(LL×(Int×(LB×(List (Int×Int)×List (List (Int×(Int×LB)))))))))))))))))))))))×Bool
abbrev U14:=LB×LI×Bool
abbrev U15:=LI×List (Int×Int)×Int
abbrev U16:=Bool×LL×LI
abbrev U18:=LL×LI×Bool
abbrev U19:=LL×LL×Int
abbrev U20:=LI×List (Int×(Int×LB))×Int
abbrev U21:=LB×List (Int×(Int×LB))×Bool
abbrev U22:=(LL×(LI×(LI×LI)))×Int×Bool
abbrev U23:=(LL×(LI×(LI×LI)))×LI×Int
abbrev U24:=LI×Int×Option (LL×(LI×(LI×LI)))
abbrev U26:=LI×Bool×Option (LL×(LI×(LI×LI)))
abbrev U27:=(Option (LL×(Int×(Bool×(Int×(Int×(Int×(Int×(Int×(Int×(LL×(LI×(LI×(LI×(Int×(LI×(LL×(Int×(LB×(List (Int×Int)×List (List (Int×(Int×LB)))))))))))))))))))))))×Int×Bool
abbrev U28:=Int×Int×Int×LB
abbrev U29:=Bool×Int×Int×LB
abbrev U31:=LI×LI×Int×Int
abbrev U33:=Int×Int×List (Int×Int)×Int
abbrev U34:=Int×List (Int×Int)×Int×Int
abbrev U35:=List (Int×Int)×Int×Int×Bool
abbrev U36:=LL×Int×Bool×Int
abbrev U37:=Int×Int×LI×LL
abbrev U38:=Bool×Int×LI×LL
abbrev U39:=LL×LL×Int×Int
abbrev U40:=List (Int×Int)×LL×Int×Int
abbrev U41:=LL×LI×LI×LI
abbrev U42:=Int×List (Int×(Int×LB))×Int×Int
abbrev U43:=LI×List (Int×(Int×LB))×Int×Int
abbrev U44:=LI×List (Int×(Int×LB))×Int×Bool
abbrev U45:=Int×List (List (Int×(Int×LB)))×Int×Int
abbrev U46:=List (Int×LI)×List (Int×LI)×Int×Int
abbrev U47:=LB×List (List (Int×(Int×LB)))×Int×Int
abbrev U48:=List (Int×(Int×LB))×List (Int×(Int×LB))×Int×Int
abbrev U49:=(LL×(LI×(LI×LI)))×LI×Int×Bool
abbrev U50:=(LL×(LI×(LI×LI)))×Int×LI×LI
abbrev U51:=List (Int×(Int×LB))×List (List (Int×(Int×LB)))×Int×Int
abbrev U52:=LI×Int×Int×Option (LL×(LI×(LI×LI)))
abbrev U53:=LI×Int×Int×Int×Int
abbrev U54:=Int×U34
abbrev U55:=Bool×U36
abbrev U56:=Int×Int×List (Int×Int)×Int×Bool
abbrev U57:=Int×U35
abbrev U58:=LI×Int×List (Int×LI)×Int×Int
abbrev U59:=List (Int×Int)×U34
abbrev U60:=Int×U41
abbrev U61:=LI×LI×List (Int×LI)×Int×Int
abbrev U62:=Bool×U41
abbrev U63:=Int×U42
abbrev U65:=List (Int×Int)×U37
abbrev U66:=List (Int×LI)×Int×List (Int×LI)×Int×Int
abbrev U67:=Int×List (List (Int×(Int×LB)))×Int×Int×Bool
abbrev U68:=List (Int×LI)×List (Int×LI)×Int×Int×Bool
abbrev U69:=List (Int×LI)×LI×List (Int×LI)×Int×Int
abbrev U70:=List (Int×(Int×LB))×Int×Int×List Bool×List LB
abbrev U71:=Bool×Int×LB×List (Int×Int)×List (List (Int×(Int×LB)))
abbrev U72:=List (Int×(Int×LB))×List (Int×(Int×LB))×Int×Int×Bool
abbrev U73:=(LL×(LI×(LI×LI)))×Int×LI×LI×Bool
abbrev U74:=List (List (Int×(Int×LB)))×Int×Int×Bool×List (Int×(Int×LB))
abbrev U75:=Bool×Int×Int×Int×Int×Int
abbrev U77:=Int×Int×List (Int×Int)×Int×Int×Int
abbrev U78:=Int×U60
abbrev U79:=Int×U62
abbrev U80:=Int×Int×List (Int×(Int×LB))×Int×Int×Bool
abbrev U81:=Int×LI×U41
abbrev U82:=List (Int×(Int×LB))×Int×U28
abbrev U83:=LI×List (Int×LI)×U36
abbrev U84:=List (Int×(Int×LB))×Int×U29
abbrev U85:=Int×Bool×Int×Int×LB×List (Int×(Int×LB))
abbrev U86:=List (Int×LI)×Int×List (Int×LI)×Int×Int×Bool
abbrev U87:=Int×LB×U43
abbrev U88:=LI×LI×LI×Bool×LL×List (Int×Int)
abbrev U89:=LB×LB×U42
abbrev U91:=List (Int×(Int×LB))×U63
abbrev U92:=(LL×(LI×(LI×LI)))×Int×U29
abbrev U93:=List (Int×(Int×LB))×List LB×Int×Int×List Bool×List LB
abbrev U94:=List LB×Int×Int×List Bool×List LB×List (Int×(Int×LB))
abbrev U95:=Int×(Option (LL×(LI×(LI×LI))))×U37
abbrev U96:=(LL×(LI×(LI×LI)))×LI×U42
abbrev U97:=(Option (LL×(Int×(Bool×(Int×(Int×(Int×(Int×(Int×(Int×(LL×(LI×(LI×(LI×(Int×(LI×(LL×(Int×(LB×(List (Int×Int)×List (List (Int×(Int×LB)))))))))))))))))))))))×U55
abbrev U98:=LL×Int×Int×Int×Int×Int×LI
abbrev U99:=Int×Int×Int×LI×List (Int×Int)×Int×Int
abbrev AbE:=List (Int×Int)×Int×U54
abbrev WU:=Int×U79
abbrev Aew:=Int×LI×U60
abbrev Ah7:=Int×LI×LI×U41
abbrev Ai2:=LL×LI×U62
abbrev Ah5:=LI×U88
abbrev Aja:=List (Int×(Int×LB))×U80
abbrev AiY:=Int×U94
abbrev AjE:=LI×Bool×(Option (LL×(LI×(LI×LI))))×U37
abbrev Aa7:=Bool×Int×Int×Int×U28
abbrev Ajv:=Int×LI×Int×Int×U29
abbrev Aem:=List (Int×Int)×Int×LL×Int×Int×Int×Int×Int
abbrev Ajt:=LL×LL×Int×Bool×Int×Int×Bool×Int
abbrev AiW:=List (Int×Int)×Int×List (Int×Int)×Int×Int×Bool×Int×Int
abbrev Aid:=LI×Int×List (Int×LI)×Int×U36
abbrev AhF:=LI×List (Int×LI)×Int×Int×U36
abbrev Aib:=LI×Aew
abbrev Ahe:=LI×LI×U78
abbrev Ai6:=Int×LI×LI×U62
abbrev Ww:=Int×LL×U78
abbrev Ll:=LL×LI×LI×LI×LI×LI×LI×Bool
abbrev Aef:=LL×LI×U78
abbrev Ajh:=(LL×(LI×(LI×LI)))×Int×LI×LI×LI×Int×Int×Bool
abbrev Ahl:=Int×Int×U95
abbrev AeA:=LI×Int×U95
abbrev Aee:=List (List (Int×(Int×LB)))×List (Int×Int)×Int×Int×Int×LB×List (Int×Int)×List (List (Int×(Int×LB)))
abbrev AjB:=Bool×LL×Int×Bool×Int×U36
abbrev AgP:=Int×Int×List (Int×(Int×LB))×Int×Int×U29
abbrev Ahk:=LI×LI×WU
abbrev Ahq:=Int×LI×LB×U78
abbrev Rm:=LI×Int×Int×U88
abbrev AaF:=LI×Ll
abbrev Ahs:=LB×Ll
abbrev AgF:=Int×List (Int×(Int×LB))×Int×Int×List Bool×List LB×Int×Int×LB
abbrev XZ:=Int×List LB×Int×Int×List Bool×List Bool×List LB×List Bool×List LB
abbrev Ahu:=List (Int×Int)×Int×Int×Int×List (Int×Int)×Int×Int×Bool×Int×Int
abbrev AeJ:=LI×Int×LI×WU
abbrev Ajx:=LL×LI×Int×Int×U78
abbrev AgG:=Int×Rm
abbrev Ajq:=LI×Int×Int×Int×U88
abbrev Ajw:=LL×LI×Int×LI×U78
abbrev Ajz:=LI×AaF
abbrev AgZ:=List (Int×(Int×LB))×Int×Int×Int×Int×List Bool×List LB×Int×Int×LB
abbrev AjC:=Int×XZ
abbrev AiS:=List (Int×(Int×LB))×AgP
abbrev Aa6:=Int×LB×List LB×Int×Int×List Bool×List Bool×List LB×List Bool×List LB
abbrev Ajk:=(LL×(LI×(LI×LI)))×LI×Int×List (Int×(Int×LB))×Int×Int×U29
abbrev Ahv:=Bool×Int×Int×Int×Int×Int×Int×Int×Int×Int×Int
abbrev Ag8:=LL×LL×Int×Int×LL×Int×Bool×Int×Int×Bool×Int
abbrev Ajr:=Int×LI×Ahk
abbrev Th:=LI×Int×Int×Ll
abbrev Ai7:=LL×AeJ
abbrev AjD:=LB×LI×Bool×Ll
abbrev Ajb:=Int×Aa6
abbrev Ai8:=Bool×LL×Int×Bool×Int×Int×Int×Int×U28
abbrev Ajp:=Int×Th
abbrev Ajs:=LI×Int×Int×Int×Ll
abbrev AhZ:=Int×LI×LL×Int×Int×LI×U78
abbrev AhL:=LL×LI×Int×LI×Int×Int×U78
abbrev Ag3:=LB×Th
abbrev Ae7:=Int×Int×LB×XZ
abbrev Ajn:=LI×Int×Int×LI×Int×Int×Bool×(Option (LL×(LI×(LI×LI))))×U37
abbrev AjH:=Int×LI×LL×Int×Int×LI×WU
abbrev Ajy:=LL×LI×Int×LI×Int×Int×WU
abbrev AgM:=LL×LI×Int×Int×Int×Int×Int×Int×U78
abbrev AeB:=Int×Int×LB×LB×List LB×Int×Int×Int×Int×List Bool×List Bool×List LB×List Bool×List LB
abbrev AgT:=Int×Int×Int×Int×Int×Int×LL×LI×LI×LI×List (Int×Int)×Int×LB×List (Int×Int)×List (List (Int×(Int×LB)))×LI
abbrev Ai5:=Bool×Int×Int×Int×Int×Int×LL×LI×LI×LI×List (Int×Int)×Int×LB×List (Int×Int)×List (List (Int×(Int×LB)))×LI
abbrev AgR:=Bool×Int×Int×Int×Int×Int×Int×LB×Int×Int×Int×U78
abbrev AgS:=Int×AgT
abbrev Ajl:=Bool×AgR
abbrev AiV:=List (Int×Int)×LI×Int×Int×Int×Int×Int×Int×LB×Int×Int×Int×U78
abbrev AdR:=Int×AgS
abbrev AhD:=LB×LI×LI×LI×Bool×LL×Int×Bool×Int×Int×Int×Int×Int×Int×LL×LI×LI×LI×List (Int×Int)
abbrev Ahj:=LL×Int×Bool×Int×Int×Int×Int×Int×Int×LL×LI×LI×LI×Int×LI×LL×Int×LB×List (Int×Int)×List (List (Int×(Int×LB)))
abbrev Ag9:=List (Int×Int)×LI×LI×Int×Int×Int×Int×Int×Int×Int×Int×LB×Int×Int×Int×U78
abbrev AjF:=LB×LI×Bool×LI×LI×LI×Bool×LL×Int×Bool×Int×Int×Int×Int×Int×Int×LL×LI×LI×LI×List (Int×Int)
abbrev XR:=Bool×Ahj
abbrev AhO:=LB×LI×Int×Int×LI×LI×LI×Bool×LL×Int×Bool×Int×Int×Int×Int×Int×Int×LL×LI×LI×LI×List (Int×Int)
abbrev AhC:=LI×LI×LI×LI×Bool×LL×Int×Bool×Int×Int×Int×Int×Int×Int×LL×LI×LI×LI×Int×LI×LL×List (Int×Int)
abbrev Ajm:=LB×Int×LI×Int×Int×LI×LI×LI×Bool×LL×Int×Bool×Int×Int×Int×Int×Int×Int×LL×LI×LI×LI×List (Int×Int)
abbrev Aje:=LI×AhC
abbrev AiQ:=Bool×Int×Int×Int×Int×Int×Int×LB×Int×Int×Int×Int×Int×LL×LI×LI×LI×List (Int×Int)×Int×LB×List (Int×Int)×List (List (Int×(Int×LB)))×LI
abbrev Xm:=LI×LI×LI×XR
abbrev ND:=LI×LI×LI×Bool×List (Int×Int)×Ahj
abbrev Aei:=List (Int×Int)×Int×Int×Xm
abbrev Ajd:=List (Int×Int)×List (List (Int×(Int×LB)))×ND
abbrev AgK:=LI×Int×Int×ND
abbrev Aju:=List (Int×Int)×List (List (Int×(Int×LB)))×Bool×ND
abbrev Ai3:=Int×Int×Bool×LL×Int×Bool×Int×Int×Int×Int×Int×Int×Int×LB×Int×Int×Int×Int×Int×LL×LI×LI×LI×List (Int×Int)×Int×LB×List (Int×Int)×List (List (Int×(Int×LB)))×LI
abbrev Aey:=List (Int×Int)×List (List (Int×(Int×LB)))×Int×Int×ND
abbrev Ahr:=List (List (Int×(Int×LB)))×List (Int×Int)×Int×Int×ND
abbrev Ajg:=Int×Int×Int×Int×Int×Int×LB×Int×Int×Int×Int×Int×LL×LI×LI×LI×List (Int×Int)×Int×LB×Int×LB×List (Int×Int)×List (List (Int×(Int×LB)))×Ll
abbrev AiX:=List (Int×Int)×List (List (Int×(Int×LB)))×List (Int×(Int×LB))×Int×Int×Int×Int×ND
abbrev Ajc:=List (Int×Int)×List (List (Int×(Int×LB)))×List (Int×(Int×LB))×Bool×Int×Int×Int×Int×ND
abbrev Ajj:=Int×Int×Int×Int×Int×Int×LB×LL×LI×LI×LI×Int×Int×Int×Int×Int×LL×LI×LI×LI×List (Int×Int)×Int×LB×Int×LB×List (Int×Int)×List (List (Int×(Int×LB)))×Ll
abbrev AeK:=LI×Int×Int×Int×Int×Int×Int×Int×Int×LB×LL×LI×LI×LI×Int×Int×Int×Int×Int×LL×LI×LI×LI×List (Int×Int)×Int×LB×Int×LB×List (Int×Int)×List (List (Int×(Int×LB)))×LL×LI×LI×LI×LI×LI×Bool
abbrev Ai4:=Int×AeK
abbrev AgJ:=LI×Int×Int×Bool×Int×Int×Int×Int×Int×Int×LB×LL×LI×LI×LI×Int×Int×Int×Int×Int×LL×LI×LI×LI×List (Int×Int)×Int×LB×Int×LB×List (Int×Int)×List (List (Int×(Int×LB)))×LL×LI×LI×LI×LI×LI×Bool
abbrev AiZ:=Int×Int×Int×Int×Int×Int×LB×Int×Int×Int×Int×Int×LL×LI×LI×LI×Int×Int×Int×Int×Int×LL×LI×LI×LI×List (Int×Int)×Int×LB×Int×LB×List (Int×Int)×Ll
abbrev WA:=Int×Int×Int×Int×Int×Int×LB×Int×Int×Int×Int×Int×LL×LI×LI×LI×Int×Int×Int×Int×Int×LL×LI×LI×LI×List (Int×Int)×Int×LB×Int×LB×List (Int×Int)×List (List (Int×(Int×LB)))×Ll
abbrev AiR:=Int×Int×AgJ
abbrev Yg:=Int×WA
abbrev Ahn:=Bool×WA
abbrev Ael:=Int×Ahn
abbrev Ajo:=Int×List (Int×(Int×LB))×WA
abbrev AhS:=List (List (Int×(Int×LB)))×List (Int×Int)×Int×Yg
abbrev AiT:=List (List (Int×(Int×LB)))×List (Int×Int)×Int×Ael
def L2 (x0:LI) (x1:Int):Option (Int):=
 if decide (wI (x1 - (x0.length:Int)) < 0)then
  some (-1)
 else
  some (wI (x1 - (x0.length:Int)))
def HA (y:(LL×(Int×Int))):Option ((LL×(Int×Int))⊕(Int⊕Int)):=
 if decide (y.2.2 < (y.1.length:Int))then
  gX y.1 y.2.2 λr1=>
  (L2 r1 y.2.1).bind λc2=>
  if decide (c2 < 0)then
   some (.inr (.inr (-1)))
  else
   some (.inl (y.1,c2,wI (y.2.2+1)))
 else
  some (.inr (.inl y.2.1))
def Kb (x0:LL) (x1:Int):Option (Int):=
 if decide (wI (x1 - (x0.length:Int)) < 0)then
  some (-1)
 else
  (Ab HA (x0,wI (x1 - (x0.length:Int)),0)).bind λv3=>
  match v3 with
  | .inl y4=>
   some y4
  | .inr s5=>
   some s5
def N9 (x0:LL) (x1:Int) (x2:Bool) (x3 x4:Int):Option (Int):=
 (Kb x0 x4).bind λc1=>
 if decide (c1 < 0)then
  some (-1)
 else
  some c1
def Ix (y:(LI×(LI×Int))):Option ((LI×(LI×Int))⊕LI):=
 if decide (y.2.2 < (y.1.length:Int))then
  gX y.1 y.2.2 λr1=>
  cZ y.2.2 <|
  cK (decide (y.2.2 < (y.2.1.length:Int))) <|
  Option.bind (y.2.1[0+y.2.2.toNat]?) λr2=>
  Option.bind (y.2.1[0+y.2.2.toNat]?) λr3=>
  some (.inl (y.1,y.2.1.set (0+y.2.2.toNat) r1,wI (y.2.2+1)))
 else
  some (.inr y.2.1)
def LN (x0:LI):Option LI:=
 cZ (x0.length:Int) <|
 cK (decide ((x0.length:Int)<=(x0.length:Int))) <|
 cK (Aa ((x0.length:Int).toNat) 1) <|
 (Ab Ix (x0,List.replicate ((x0.length:Int).toNat) (0:Int),0)).bind λv4=>
 some v4
def Hx (y:U19):Option (U19⊕LL):=
 if decide (y.2.2 < (y.1.length:Int))then
  gX y.1 y.2.2 λr1=>
  (LN r1).bind λc2=>
  cZ y.2.2 <|
  cK (decide (y.2.2 < (y.2.1.length:Int))) <|
  Option.bind (y.2.1[0+y.2.2.toNat]?) λr3=>
  Option.bind (y.2.1[0+y.2.2.toNat]?) λr4=>
  some (.inl (y.1,y.2.1.set (0+y.2.2.toNat) c2,wI (y.2.2+1)))
 else
  some (.inr y.2.1)
def Kg (x0:LL):Option LL:=
 cZ (x0.length:Int) <|
 cK (decide ((x0.length:Int)<=(x0.length:Int))) <|
 cK (Aa ((x0.length:Int).toNat) 24) <|
 (Ab Hx (x0,List.replicate ((x0.length:Int).toNat) ([]:LI),0)).bind λv5=>
 some v5
def HW (x0:LL) (x1:Int) (x2:Bool) (x3:Int):Option U36:=
 (Kg x0).bind λc1=>
 some (c1,x1,x2,x3)
def Bt (x0 x1 x2:Int):Option (Bool):=
 Option.bind (α:=Bool) (
  if decide (x1<=x0)then
   some (decide (x0<=x2))
  else
  some false) λv1=>
 some v1
def Oo (y:(LL×(Int×Int))):Option ((LL×(Int×Int))⊕(Unit⊕Bool)):=
 if decide (y.2.2 < y.2.1)then
  gX y.1 y.2.2 λr5=>
  if decide (¬ (r5.length:Int)=128)then
   some (.inr (.inr false))
  else
   some (.inl (y.1,y.2.1,wI (y.2.2+1)))
 else
  some (.inr (.inl ()))
def Im (x0:LL) (x1:Int) (x2:Bool) (x3:Int):Option (Bool):=
 Option.bind (α:=U55) (
   (Bt (x0.length:Int) 40 160).bind λc1=>
   if(!c1)then
    some (true,x0,x1,x2,x3)
   else
    (Bt x1 0 1000000000).bind λc2=>
    if(!c2)then
     some (true,x0,x1,x2,x3)
    else
     (Bt x3 (-1) 1000000).bind λc3=>
     some ((!c3),x0,x1,x2,x3)) λv4=>
 if v4.1 then
  some false
 else
  (Ab Oo (v4.2.1,(v4.2.1.length:Int),0)).bind λv6=>
  match v6 with
  | .inl y7=>
   some true
  | .inr s8=>
   some s8
def R5 (x0 x1:Int):Option (Bool):=
 Option.bind (α:=Bool) (
  if decide (x0=0)then
   some true
  else
  if decide (x0=1)then
   some true
  else
   (Bt x0 33 (wI (x1 - 1))).bind λc1=>
   some c1) λv2=>
 some v2
def Gx (y:U66):Option (U66⊕(Unit⊕Bool)):=match y with
 | (a,b,c,d,e)=>
 if decide (e < d)then
  gX c e λr2=>
  Option.bind (α:=U86) (
    (R5 r2.1 b).bind λc3=>
    if(!c3)then
     some (a,b,c,d,e,true)
    else
    if decide (¬ (r2.2.length:Int)=128)then
     some (a,b,c,d,e,true)
    else
    if decide (0 < e)then
     gX a (wI (e - 1)) λr4=>
     some (a,b,c,d,e,decide (r2.1<=r4.1))
    else
    some (a,b,c,d,e,false)) λ(f,g,h,i,j,k)=>
  if k then
   some (.inr (.inr false))
  else
   some (.inl (f,g,h,i,wI (j+1)))
 else
  some (.inr (.inl ()))
def Lz (x0:List (Int×LI)) (x1:Int):Option (Bool):=
 (Bt (x0.length:Int) 1 30).bind λc1=>
 if(!c1)then
  some false
 else
  (Ab Gx (x0,x1,x0,(x0.length:Int),0)).bind λv6=>
  match v6 with
  | .inl y7=>
   some true
  | .inr s8=>
   some s8
def FK (y:(Int×(LI×(Int×Int)))):Option ((Int×(LI×(Int×Int)))⊕Int):=
 if decide (y.2.2.2 < y.2.2.1)then
  gX y.2.1 y.2.2.2 λr1=>
  cK (decide (¬ (4294967296:Int)=0)) <|
  some (.inl (Int.tmod (IntKind.wrap .u64 ((IntKind.wrap .u64 (((BitVec.ofInt (IntKind.bits .u64) y.1 ^^^ BitVec.ofInt (IntKind.bits .u64) (IntKind.wrap .u64 r1)).toNat:Int))) * 16777619)) 4294967296,y.2.1,y.2.2.1,wI (y.2.2.2+1)))
 else
  some (.inr y.1)
def Iq (x0:LI):Option (Int):=
 (Ab FK (2166136261,x0,(x0.length:Int),0)).bind λv2=>
 some (IntKind.wrap .u32 v2)
def FI (y:U69):Option (U69⊕U3):=
 if decide (y.2.2.2.2 < y.2.2.2.1)then
  gX y.2.2.1 y.2.2.2.2 λr1=>
  cK (decide (¬ (256:Int)=0)) <|
  cK (Aa (y.2.1.length+([wB (wI (Int.tdiv r1.1 256)),IntKind.wrap .u8 r1.1]:LI).length) 1) <|
  some (.inl (y.1,y.2.1++([wB (wI (Int.tdiv r1.1 256)),IntKind.wrap .u8 r1.1]:LI),y.2.2.1,y.2.2.2.1,wI (y.2.2.2.2+1)))
 else
  some (.inr (y.1,y.2.1))
def FQ (y:U61):Option (U61⊕(LI×LI)):=
 if decide (y.2.2.2.2 < y.2.2.2.1)then
  gX y.2.2.1 y.2.2.2.2 λr3=>
  cK (Aa (y.2.1.length+r3.2.length) 1) <|
  some (.inl (y.1,y.2.1++r3.2,y.2.2.1,y.2.2.2.1,wI (y.2.2.2.2+1)))
 else
  some (.inr (y.1,y.2.1))
def J1 (x0:List (Int×LI)):Option LI:=
 (Ab FI (x0,[76,79,71,49,wB (x0.length:Int)],x0,(x0.length:Int),0)).bind λv2=>
 cZ (wI (124 - (v2.2.length:Int))) <|
 cK (Aa (v2.2.length+(List.replicate ((wI (124 - (v2.2.length:Int))).toNat) (0:Int)).length) 1) <|
 cK (Aa (([]:LI).length+(v2.2++(List.replicate ((wI (124 - (v2.2.length:Int))).toNat) (0:Int))).length) 1) <|
 (Ab FQ (v2.2++(List.replicate ((wI (124 - (v2.2.length:Int))).toNat) (0:Int)),([]:LI)++(v2.2++(List.replicate ((wI (124 - (v2.2.length:Int))).toNat) (0:Int))),v2.1,(v2.1.length:Int),0)).bind λv4=>
 (Iq v4.2).bind λc5=>
 cZ 24 <|
 cZ 16 <|
 cZ 8 <|
 cK (Aa (v4.1.length+([wB (Int.fdiv c5 (2 ^ (min (Int.toNat 24) (IntKind.bits .u32)))),wB (Int.fdiv c5 (2 ^ (min (Int.toNat 16) (IntKind.bits .u32)))),wB (Int.fdiv c5 (2 ^ (min (Int.toNat 8) (IntKind.bits .u32)))),IntKind.wrap .u8 c5]:LI).length) 1) <|
 some (v4.1++([wB (Int.fdiv c5 (2 ^ (min (Int.toNat 24) (IntKind.bits .u32)))),wB (Int.fdiv c5 (2 ^ (min (Int.toNat 16) (IntKind.bits .u32)))),wB (Int.fdiv c5 (2 ^ (min (Int.toNat 8) (IntKind.bits .u32)))),IntKind.wrap .u8 c5]:LI))
def EJ (y:Aid):Option (Aid⊕U83):=match y with
 | (a,b,c,d,e,f,g,h)=>
 if decide (d < b)then
  gX a (wI (5+(wI (2 * d)))) λr7=>
  gX a (wI (6+(wI (2 * d)))) λr8=>
  gX e (wI (3+d)) λr9=>
  cK (Aa (([]:LI).length+r9.length) 1) <|
  cK (Aa (c.length+([(wI ((wI ((IntKind.wrap .i64 r7) * 256))+(IntKind.wrap .i64 r8)),([]:LI)++r9)]:List (Int×LI)).length) 32) <|
  some (.inl (a,b,c++([(wI ((wI ((IntKind.wrap .i64 r7) * 256))+(IntKind.wrap .i64 r8)),([]:LI)++r9)]:List (Int×LI)),wI (d+1),e,f,g,h))
 else
  some (.inr (a,c,e,f,g,h))
def Jv (x0:LL) (x1:Int) (x2:Bool) (x3:Int):Option (List (Int×LI)):=
 gX x0 2 λr1=>
 gX r1 4 λr2=>
 (Bt (IntKind.wrap .i64 r2) 1 30).bind λc3=>
 if(!c3)then
  some []
 else
  (Ab EJ (r1,IntKind.wrap .i64 r2,[],0,x0,x1,x2,x3)).bind λ(a,b,c,_,_,_)=>
  Option.bind (α:=(List (Int×LI)×Bool)) (
    (Lz b (c.length:Int)).bind λc11=>
    if(!c11)then
     some (b,true)
    else
     (J1 b).bind λc12=>
     some (b,(!((AF c12:LB) == (AF a))))) λv13=>
  if v13.2 then
   some []
  else
   some v13.1
def OI (x0 x1:Int):Option (Bool):=
 Option.bind (α:=Bool) (
  (Bt x0 0 x1).bind λc1=>
  if c1 then
   some (decide (x1<=60))
  else
  some false) λv2=>
 some v2
def L7 (x0 x1 x2 x3 x4:Int):Option (Bool):=
 Option.bind (α:=Bool) (
  (OI x0 x1).bind λc1=>
  if c1 then
   (Bt x2 1 30).bind λc2=>
   if c2 then
    (Bt x3 33 159).bind λc3=>
    if c3 then
     (Bt x4 33 159).bind λc4=>
     some c4
    else
    some false
   else
   some false
  else
  some false) λv5=>
 some v5
def J3 (x0 x1 x2 x3 x4:Int):Option LI:=
 cK (decide (¬ (256:Int)=0)) <|
 cK (decide (¬ (256:Int)=0)) <|
 cZ (wI (124 - (List.length [83,84,82,49,IntKind.wrap .u8 x0,IntKind.wrap .u8 x1,IntKind.wrap .u8 x2,0,wB (wI (Int.tdiv x3 256)),IntKind.wrap .u8 x3,wB (wI (Int.tdiv x4 256)),IntKind.wrap .u8 x4]:Int))) <|
 cK (Aa (([83,84,82,49,IntKind.wrap .u8 x0,IntKind.wrap .u8 x1,IntKind.wrap .u8 x2,0,wB (wI (Int.tdiv x3 256)),IntKind.wrap .u8 x3,wB (wI (Int.tdiv x4 256)),IntKind.wrap .u8 x4]:LI).length+(List.replicate ((wI (124 - (List.length [83,84,82,49,IntKind.wrap .u8 x0,IntKind.wrap .u8 x1,IntKind.wrap .u8 x2,0,wB (wI (Int.tdiv x3 256)),IntKind.wrap .u8 x3,wB (wI (Int.tdiv x4 256)),IntKind.wrap .u8 x4]:Int))).toNat) (0:Int)).length) 1) <|
 (Iq (([83,84,82,49,IntKind.wrap .u8 x0,IntKind.wrap .u8 x1,IntKind.wrap .u8 x2,0,wB (wI (Int.tdiv x3 256)),IntKind.wrap .u8 x3,wB (wI (Int.tdiv x4 256)),IntKind.wrap .u8 x4]:LI)++(List.replicate ((wI (124 - (List.length [83,84,82,49,IntKind.wrap .u8 x0,IntKind.wrap .u8 x1,IntKind.wrap .u8 x2,0,wB (wI (Int.tdiv x3 256)),IntKind.wrap .u8 x3,wB (wI (Int.tdiv x4 256)),IntKind.wrap .u8 x4]:Int))).toNat) (0:Int)))).bind λc1=>
 cZ 24 <|
 cZ 16 <|
 cZ 8 <|
 cK (Aa ((([83,84,82,49,IntKind.wrap .u8 x0,IntKind.wrap .u8 x1,IntKind.wrap .u8 x2,0,wB (wI (Int.tdiv x3 256)),IntKind.wrap .u8 x3,wB (wI (Int.tdiv x4 256)),IntKind.wrap .u8 x4]:LI)++(List.replicate ((wI (124 - (List.length [83,84,82,49,IntKind.wrap .u8 x0,IntKind.wrap .u8 x1,IntKind.wrap .u8 x2,0,wB (wI (Int.tdiv x3 256)),IntKind.wrap .u8 x3,wB (wI (Int.tdiv x4 256)),IntKind.wrap .u8 x4]:Int))).toNat) (0:Int))).length+([wB (Int.fdiv c1 (2 ^ (min (Int.toNat 24) (IntKind.bits .u32)))),wB (Int.fdiv c1 (2 ^ (min (Int.toNat 16) (IntKind.bits .u32)))),wB (Int.fdiv c1 (2 ^ (min (Int.toNat 8) (IntKind.bits .u32)))),IntKind.wrap .u8 c1]:LI).length) 1) <|
 some ((([83,84,82,49,IntKind.wrap .u8 x0,IntKind.wrap .u8 x1,IntKind.wrap .u8 x2,0,wB (wI (Int.tdiv x3 256)),IntKind.wrap .u8 x3,wB (wI (Int.tdiv x4 256)),IntKind.wrap .u8 x4]:LI)++(List.replicate ((wI (124 - (List.length [83,84,82,49,IntKind.wrap .u8 x0,IntKind.wrap .u8 x1,IntKind.wrap .u8 x2,0,wB (wI (Int.tdiv x3 256)),IntKind.wrap .u8 x3,wB (wI (Int.tdiv x4 256)),IntKind.wrap .u8 x4]:Int))).toNat) (0:Int)))++([wB (Int.fdiv c1 (2 ^ (min (Int.toNat 24) (IntKind.bits .u32)))),wB (Int.fdiv c1 (2 ^ (min (Int.toNat 16) (IntKind.bits .u32)))),wB (Int.fdiv c1 (2 ^ (min (Int.toNat 8) (IntKind.bits .u32)))),IntKind.wrap .u8 c1]:LI))
def LY (x0:LI):Option U75:=
 if decide (¬ (x0.length:Int)=128)then
  some (false,0,0,0,0,0)
 else
 gX x0 4 λr1=>
 gX x0 5 λr2=>
 gX x0 6 λr3=>
 gX x0 8 λr4=>
 gX x0 9 λr5=>
 gX x0 10 λr6=>
 gX x0 11 λr7=>
 Option.bind (α:=Ahv) (
   (L7 (IntKind.wrap .i64 r1) (IntKind.wrap .i64 r2) (IntKind.wrap .i64 r3) (wI ((wI ((IntKind.wrap .i64 r4) * 256))+(IntKind.wrap .i64 r5))) (wI ((wI ((IntKind.wrap .i64 r6) * 256))+(IntKind.wrap .i64 r7)))).bind λc8=>
   if(!c8)then
    some (true,0,0,0,0,0,IntKind.wrap .i64 r1,IntKind.wrap .i64 r2,IntKind.wrap .i64 r3,wI ((wI ((IntKind.wrap .i64 r4) * 256))+(IntKind.wrap .i64 r5)),wI ((wI ((IntKind.wrap .i64 r6) * 256))+(IntKind.wrap .i64 r7)))
   else
    (J3 (IntKind.wrap .i64 r1) (IntKind.wrap .i64 r2) (IntKind.wrap .i64 r3) (wI ((wI ((IntKind.wrap .i64 r4) * 256))+(IntKind.wrap .i64 r5))) (wI ((wI ((IntKind.wrap .i64 r6) * 256))+(IntKind.wrap .i64 r7)))).bind λc9=>
    some ((!((AF c9:LB) == (AF x0))),0,0,0,0,0,IntKind.wrap .i64 r1,IntKind.wrap .i64 r2,IntKind.wrap .i64 r3,wI ((wI ((IntKind.wrap .i64 r4) * 256))+(IntKind.wrap .i64 r5)),wI ((wI ((IntKind.wrap .i64 r6) * 256))+(IntKind.wrap .i64 r7)))) λ(a,_,_,_,_,_,b,c,d,e,f)=>
 if a then
  some (false,0,0,0,0,0)
 else
  some (true,b,c,d,e,f)
def R9 (y:Ag8):Option (Ag8⊕Ajt):=
 if decide (y.2.2.2.1 < y.2.2.1)then
  gX y.2.1 y.2.2.2.1 λr2=>
  cK (Aa (([]:LI).length+r2.length) 1) <|
  cK (Aa (y.1.length+([([]:LI)++r2]:LL).length) 24) <|
  some (.inl (y.1++([([]:LI)++r2]:LL),y.2.1,y.2.2.1,wI (y.2.2.2.1+1),y.2.2.2.2.1,y.2.2.2.2.2.1,y.2.2.2.2.2.2.1,y.2.2.2.2.2.2.2.1,y.2.2.2.2.2.2.2.2.1,y.2.2.2.2.2.2.2.2.2.1,y.2.2.2.2.2.2.2.2.2.2))
 else
  some (.inr (y.1,y.2.2.2.2.1,y.2.2.2.2.2.1,y.2.2.2.2.2.2.1,y.2.2.2.2.2.2.2.1,y.2.2.2.2.2.2.2.2.1,y.2.2.2.2.2.2.2.2.2.1,y.2.2.2.2.2.2.2.2.2.2))
def Qh (x0:LL) (x1:Int) (x2:Bool) (x3:Int):Option U36:=
 (Ab R9 ([],x0,(x0.length:Int),0,x0,x1,x2,x3,0,false,0)).bind λv3=>
 some (v3.1,v3.2.2.1,v3.2.2.2.1,v3.2.2.2.2.1)
def GA (x0:LI) (x1:Int):Option (Bool):=
 cK (decide (¬ (8:Int)=0)) <|
 gX x0 (wI (Int.tdiv x1 8)) λr1=>
 cK (decide (¬ (8:Int)=0)) <|
 cZ (IntKind.wrap .u64 (Int.tmod x1 8)) <|
 some (decide (wB (((BitVec.ofInt (IntKind.bits .u8) (Int.fdiv r1 (2 ^ (min ((IntKind.wrap .u64 (Int.tmod x1 8)).toNat) (IntKind.bits .u8)))) &&& BitVec.ofInt (IntKind.bits .u8) 1).toNat:Int))=1))
def EW (y:Ww):Option (Ww⊕(U60⊕Bool)):=
 if decide (y.2.2.2.1 < y.2.2.1)then
  gX y.2.1 y.2.2.2.1 λr3=>
  if decide (¬ (r3.length:Int)=128)then
   some (.inr (.inr false))
  else
   some (.inl (y.1,y.2.1,y.2.2.1,wI (y.2.2.2.1+1),y.2.2.2.2.1,y.2.2.2.2.2.1,y.2.2.2.2.2.2.1,y.2.2.2.2.2.2.2))
 else
  some (.inr (.inl (y.1,y.2.2.2.2.1,y.2.2.2.2.2.1,y.2.2.2.2.2.2.1,y.2.2.2.2.2.2.2)))
def E9 (y:U78):Option (U78⊕(U60⊕Bool)):=
 if decide (y.2.1 < 160)then
  (GA y.2.2.2.1 y.2.1).bind λc7=>
  Option.bind (α:=WU) (
    if decide (y.2.1 < 33)then
     if(!c7)then
      some (y.1,y.2.1,true,y.2.2.1,y.2.2.2.1,y.2.2.2.2.1,y.2.2.2.2.2)
     else
     if decide (y.1<=y.2.1)then
      some (y.1,y.2.1,c7,y.2.2.1,y.2.2.2.1,y.2.2.2.2.1,y.2.2.2.2.2)
     else
     some (y.1,y.2.1,false,y.2.2.1,y.2.2.2.1,y.2.2.2.2.1,y.2.2.2.2.2)
    else
    if decide (y.1<=y.2.1)then
     some (y.1,y.2.1,c7,y.2.2.1,y.2.2.2.1,y.2.2.2.2.1,y.2.2.2.2.2)
    else
    some (y.1,y.2.1,false,y.2.2.1,y.2.2.2.1,y.2.2.2.2.1,y.2.2.2.2.2)) λv8=>
  if v8.2.2.1 then
   some (.inr (.inr false))
  else
   some (.inl (v8.1,wI (v8.2.1+1),v8.2.2.2.1,v8.2.2.2.2.1,v8.2.2.2.2.2.1,v8.2.2.2.2.2.2))
 else
  some (.inr (.inl (y.1,y.2.2.1,y.2.2.2.1,y.2.2.2.2.1,y.2.2.2.2.2)))
def E5 (y:AhZ):Option (AhZ⊕(Ww⊕Bool)):=
 if decide (y.2.2.2.2.2.2.2.1 < y.2.2.2.2.2.2.1)then
  gX y.2.2.2.2.2.1 y.2.2.2.2.2.2.2.1 λr13=>
  Option.bind (α:=AjH) (
    (Bt r13 33 (wI (y.1 - 1))).bind λc14=>
    if(!c14)then
     some (y.1,y.2.1,y.2.2.1,y.2.2.2.1,y.2.2.2.2.1,y.2.2.2.2.2.1,y.2.2.2.2.2.2.1,y.2.2.2.2.2.2.2.1,true,y.2.2.2.2.2.2.2.2.1,y.2.2.2.2.2.2.2.2.2.1,y.2.2.2.2.2.2.2.2.2.2.1,y.2.2.2.2.2.2.2.2.2.2.2)
    else
     (GA y.2.2.2.2.2.2.2.2.2.1 r13).bind λc15=>
     if(!c15)then
      some (y.1,y.2.1,y.2.2.1,y.2.2.2.1,y.2.2.2.2.1,y.2.2.2.2.2.1,y.2.2.2.2.2.2.1,y.2.2.2.2.2.2.2.1,true,y.2.2.2.2.2.2.2.2.1,y.2.2.2.2.2.2.2.2.2.1,y.2.2.2.2.2.2.2.2.2.2.1,y.2.2.2.2.2.2.2.2.2.2.2)
     else
     if decide (0 < y.2.2.2.2.2.2.2.1)then
      gX y.2.1 (wI (y.2.2.2.2.2.2.2.1 - 1)) λr16=>
      some (y.1,y.2.1,y.2.2.1,y.2.2.2.1,y.2.2.2.2.1,y.2.2.2.2.2.1,y.2.2.2.2.2.2.1,y.2.2.2.2.2.2.2.1,decide (r13<=r16),y.2.2.2.2.2.2.2.2.1,y.2.2.2.2.2.2.2.2.2.1,y.2.2.2.2.2.2.2.2.2.2.1,y.2.2.2.2.2.2.2.2.2.2.2)
     else
     some (y.1,y.2.1,y.2.2.1,y.2.2.2.1,y.2.2.2.2.1,y.2.2.2.2.2.1,y.2.2.2.2.2.2.1,y.2.2.2.2.2.2.2.1,false,y.2.2.2.2.2.2.2.2.1,y.2.2.2.2.2.2.2.2.2.1,y.2.2.2.2.2.2.2.2.2.2.1,y.2.2.2.2.2.2.2.2.2.2.2)) λv17=>
  if v17.2.2.2.2.2.2.2.2.1 then
   some (.inr (.inr false))
  else
   some (.inl (v17.1,v17.2.1,v17.2.2.1,v17.2.2.2.1,v17.2.2.2.2.1,v17.2.2.2.2.2.1,v17.2.2.2.2.2.2.1,wI (v17.2.2.2.2.2.2.2.1+1),v17.2.2.2.2.2.2.2.2.2.1,v17.2.2.2.2.2.2.2.2.2.2.1,v17.2.2.2.2.2.2.2.2.2.2.2.1,v17.2.2.2.2.2.2.2.2.2.2.2.2))
 else
  some (.inr (.inl (y.1,y.2.2.1,y.2.2.2.1,y.2.2.2.2.1,y.2.2.2.2.2.2.2.2.1,y.2.2.2.2.2.2.2.2.2.1,y.2.2.2.2.2.2.2.2.2.2.1,y.2.2.2.2.2.2.2.2.2.2.2)))
def GJ (y:Ww):Option (Ww⊕(Unit⊕Bool)):=
 if decide (y.2.2.2.1 < y.2.2.1)then
  cZ y.2.2.2.1 <|
  cK (decide (y.2.2.2.1 < (y.2.1.length:Int))) <|
  Option.bind (y.2.1[0+y.2.2.2.1.toNat]?) λr12=>
  (Ab E5 (y.1,r12,y.2.1,y.2.2.1,y.2.2.2.1,r12,(r12.length:Int),0,y.2.2.2.2.1,y.2.2.2.2.2.1,y.2.2.2.2.2.2.1,y.2.2.2.2.2.2.2)).bind λv18=>
  match v18 with
  | .inl y19=>
   some (.inl (y19.1,y19.2.1,y19.2.2.1,wI (y19.2.2.2.1+1),y19.2.2.2.2.1,y19.2.2.2.2.2.1,y19.2.2.2.2.2.2.1,y19.2.2.2.2.2.2.2))
  | .inr s20=>
   some (.inr (.inr s20))
 else
  some (.inr (.inl ()))
def Hs (x0:LL) (x1 x2 x3:LI):Option (Bool):=
 Option.bind (α:=U79) (
   (Bt (x0.length:Int) 40 160).bind λc1=>
   if(!c1)then
    some ((x0.length:Int),true,x0,x1,x2,x3)
   else
   some ((x0.length:Int),decide (¬ (x1.length:Int)=20),x0,x1,x2,x3)) λv2=>
 if v2.2.1 then
  some false
 else
  (Ab EW (v2.1,v2.2.2.1,(v2.2.2.1.length:Int),0,v2.2.2.1,v2.2.2.2.1,v2.2.2.2.2.1,v2.2.2.2.2.2)).bind λv4=>
  match v4 with
  | .inl y5=>
   (Ab E9 (y5.1,0,y5.2.1,y5.2.2.1,y5.2.2.2.1,y5.2.2.2.2)).bind λv9=>
   match v9 with
   | .inl y10=>
    (Ab GJ (y10.1,[y10.2.2.2.1,y10.2.2.2.2],(List.length [y10.2.2.2.1,y10.2.2.2.2]:Int),0,y10.2.1,y10.2.2.1,y10.2.2.2.1,y10.2.2.2.2)).bind λv21=>
    match v21 with
    | .inl y22=>
     some true
    | .inr s23=>
     some s23
   | .inr s11=>
    some s11
  | .inr s6=>
   some s6
def EK (y:U98):Option (U98⊕((LL×LI)⊕Bool)):=match y with
 | (a,b,c,d,e,f,g)=>
 if decide (f < e)then
  cZ f <|
  Option.bind (a[b.toNat]?) λr9=>
  cK (decide (f < (((r9.drop (c.toNat)).take (d.toNat)).length:Int))) <|
  Option.bind (a[b.toNat]?) λr10=>
  Option.bind (r10[(c.toNat)+f.toNat]?) λr11=>
  if decide (¬ r11=0)then
   some (.inr (.inr false))
  else
   some (.inl (a,(b.toNat:Int),(((c.toNat):Nat):Int),(((d.toNat):Nat):Int),e,wI (f+1),g))
 else
  some (.inr (.inl (a,g)))
def Js (x0:LL) (x1:Int) (x2:Bool) (x3:Int):Option U16:=
 (Im x0 x1 x2 x3).bind λc1=>
 if(!c1)then
  some (false,[],[])
 else
  (Qh x0 x1 x2 x3).bind λ(a,_,_,_)=>
  cZ 1 <|
  cK (decide (1 < (a.length:Int))) <|
  Option.bind (a[0+Int.toNat 1]?) λr3=>
  Option.bind (a[0+Int.toNat 1]?) λr4=>
  sX 0 20 (r4.length:Int) (r4.length) <|
  Option.bind (a[0+Int.toNat 1]?) λr5=>
  cK (Aa (([]:LI).length+((r5.drop (Int.toNat 0)).take (Int.toNat 20 - Int.toNat 0)).length) 1) <|
  cZ 1 <|
  cK (decide (1 < (a.length:Int))) <|
  Option.bind (a[0+Int.toNat 1]?) λr6=>
  Option.bind (a[0+Int.toNat 1]?) λr7=>
  sX 20 (r7.length:Int) (r7.length:Int) (r7.length) <|
  Option.bind (a[0+Int.toNat 1]?) λr8=>
  (Ab EK (a,((0+Int.toNat 1:Nat):Int),(((Int.toNat 20):Nat):Int),((((r7.length:Int).toNat - Int.toNat 20):Nat):Int),(((r8.drop (Int.toNat 20)).take ((r7.length:Int).toNat - Int.toNat 20)).length:Int),0,([]:LI)++((r5.drop (Int.toNat 0)).take (Int.toNat 20 - Int.toNat 0)))).bind λv12=>
  match v12 with
  | .inl y13=>
   (Hs y13.1 y13.2 [] []).bind λc15=>
   if(!c15)then
    some (false,[],[])
   else
    some (true,y13.1,y13.2)
  | .inr s14=>
   some (s14,[],[])
def SK (y:(Int×(LI×(Int×Int)))):Option ((Int×(LI×(Int×Int)))⊕(Unit⊕Bool)):=
 if decide (y.2.2.2 < y.2.2.1)then
  gX y.2.1 y.2.2.2 λr1=>
  if decide (r1=y.1)then
   some (.inr (.inr true))
  else
   some (.inl (y.1,y.2.1,y.2.2.1,wI (y.2.2.2+1)))
 else
  some (.inr (.inl ()))
def FU (x0:LI) (x1:Int):Option (Bool):=
 (Ab SK (x1,x0,(x0.length:Int),0)).bind λv2=>
 match v2 with
 | .inl y3=>
  some false
 | .inr s4=>
  some s4
def HV (x0:LL) (x1 x2 x3:LI) (x4:Int):Option (Bool):=
 Option.bind (α:=Bool) (
  (Bt x4 33 (wI ((x0.length:Int) - 1))).bind λc1=>
  if c1 then
   (GA x1 x4).bind λc2=>
   if c2 then
    (FU x2 x4).bind λc3=>
    some (!c3)
   else
   some false
  else
  some false) λv4=>
 some v4
def DR (y:Aew):Option (Aew⊕U81):=
 if decide (y.2.2.1 < 32)then
  gX y.2.2.2.1 y.1 λr9=>
  gX r9 (wI (1+(wI (2 * y.2.2.1)))) λr10=>
  gX y.2.2.2.1 y.1 λr11=>
  gX r11 (wI (2+(wI (2 * y.2.2.1)))) λr12=>
  cK (Aa (y.2.1.length+([wI ((wI ((IntKind.wrap .i64 r10) * 256))+(IntKind.wrap .i64 r12))]:LI).length) 8) <|
  some (.inl (y.1,y.2.1++([wI ((wI ((IntKind.wrap .i64 r10) * 256))+(IntKind.wrap .i64 r12))]:LI),wI (y.2.2.1+1),y.2.2.2.1,y.2.2.2.2.1,y.2.2.2.2.2.1,y.2.2.2.2.2.2))
 else
  some (.inr (y.1,y.2.1,y.2.2.2.1,y.2.2.2.2.1,y.2.2.2.2.2.1,y.2.2.2.2.2.2))
def Da (y:U31):Option (U31⊕(LI⊕Bool)):=
 if decide (y.2.2.2 < y.2.2.1)then
  gX y.2.1 y.2.2.2 λr15=>
  if decide (¬ r15=0)then
   some (.inr (.inr false))
  else
   some (.inl (y.1,y.2.1,y.2.2.1,wI (y.2.2.2+1)))
 else
  some (.inr (.inl y.1))
def Hm (x0:LL) (x1 x2 x3:LI) (x4 x5:Int):Option ((LI×Bool)):=
 Option.bind (α:=U79) (
   (HV x0 x1 x2 x3 x4).bind λc1=>
   if(!c1)then
    some (x4,true,x0,x1,x2,x3)
   else
   gX x0 x4 λr2=>
   gX r2 0 λr3=>
   some (x4,decide (¬ r3=x5),x0,x1,x2,x3)) λv4=>
 if v4.2.1 then
  some ([],false)
 else
  (Ab DR (v4.1,[],0,v4.2.2.1,v4.2.2.2.1,v4.2.2.2.2.1,v4.2.2.2.2.2)).bind λv13=>
  gX v13.2.2.1 v13.1 λr14=>
  sX 65 (r14.length:Int) (r14.length:Int) (r14.length) <|
  (Ab Da (v13.2.1,(List.drop (Int.toNat 65) r14).take ((r14.length:Int).toNat - Int.toNat 65),(((List.drop (Int.toNat 65) r14).take ((r14.length:Int).toNat - Int.toNat 65)).length:Int),0)).bind λv16=>
  match v16 with
  | .inl y17=>
   some (y17,true)
  | .inr s18=>
   some ([],s18)
def GX (y:(LI×(Int×Int))):Option ((LI×(Int×Int))⊕(Unit⊕Bool)):=
 if decide (y.2.2 < y.2.1)then
  gX y.1 y.2.2 λr1=>
  if decide (¬ r1=0)then
   some (.inr (.inr true))
  else
   some (.inl (y.1,y.2.1,wI (y.2.2+1)))
 else
  some (.inr (.inl ()))
def MK (x0:LI):Option (Bool):=
 (Ab GX (x0,(x0.length:Int),0)).bind λv2=>
 match v2 with
 | .inl y3=>
  some false
 | .inr s4=>
  some s4
def LX (x0:LL) (x1 x2 x3:LI) (x4:Int):Option (Bool):=
 Option.bind (α:=Bool) (
  (Bt x4 33 (wI ((x0.length:Int) - 1))).bind λc1=>
  if c1 then
   (GA x1 x4).bind λc2=>
   some c2
  else
  some false) λv3=>
 some v3
def Hf (y:AgM):Option (AgM⊕(Ajx⊕Bool)):=
 if decide (y.2.2.2.2.2.2.2.2.2.1 < y.2.2.2.2.2.2.2.2.1)then
  cZ y.2.2.2.2.2.2.2.2.2.1 <|
  cK (decide (y.2.2.2.2.2.2.2.2.2.1 < (((y.2.1.drop (y.2.2.2.2.2.2.1.toNat)).take (y.2.2.2.2.2.2.2.1.toNat)).length:Int))) <|
  Option.bind (y.2.1[(y.2.2.2.2.2.2.1.toNat)+y.2.2.2.2.2.2.2.2.2.1.toNat]?) λr5=>
  if decide (r5=y.2.2.2.1)then
   some (.inr (.inr false))
  else
   some (.inl (y.1,y.2.1,y.2.2.1,y.2.2.2.1,y.2.2.2.2.1,y.2.2.2.2.2.1,(((y.2.2.2.2.2.2.1.toNat):Nat):Int),(((y.2.2.2.2.2.2.2.1.toNat):Nat):Int),y.2.2.2.2.2.2.2.2.1,wI (y.2.2.2.2.2.2.2.2.2.1+1),y.2.2.2.2.2.2.2.2.2.2.1,y.2.2.2.2.2.2.2.2.2.2.2.1,y.2.2.2.2.2.2.2.2.2.2.2.2.1,y.2.2.2.2.2.2.2.2.2.2.2.2.2))
 else
  some (.inr (.inl (y.1,y.2.1,y.2.2.1,y.2.2.2.1,y.2.2.2.2.1,y.2.2.2.2.2.1,y.2.2.2.2.2.2.2.2.2.2.1,y.2.2.2.2.2.2.2.2.2.2.2.1,y.2.2.2.2.2.2.2.2.2.2.2.2.1,y.2.2.2.2.2.2.2.2.2.2.2.2.2)))
def Hk (y:AhL):Option (AhL⊕(Ajw⊕Bool)):=
 if decide (y.2.2.2.2.2.2.2.1 < y.2.2.2.2.2.2.1)then
  cZ y.2.2.2.2.2.2.2.1 <|
  cK (decide (y.2.2.2.2.2.2.2.1 < (y.2.2.2.1.length:Int))) <|
  Option.bind (y.2.2.2.1[0+y.2.2.2.2.2.2.2.1.toNat]?) λr12=>
  Option.bind (α:=Ajy) (
    if decide (¬ r12=0)then
     (LX y.2.2.2.2.2.2.2.2.1 y.2.2.2.2.2.2.2.2.2.1 y.2.2.2.2.2.2.2.2.2.2.1 y.2.2.2.2.2.2.2.2.2.2.2 r12).bind λc13=>
     some (y.1,y.2.1,y.2.2.1,y.2.2.2.1,y.2.2.2.2.1,y.2.2.2.2.2.1,y.2.2.2.2.2.2.1,y.2.2.2.2.2.2.2.1,(!c13),y.2.2.2.2.2.2.2.2.1,y.2.2.2.2.2.2.2.2.2.1,y.2.2.2.2.2.2.2.2.2.2.1,y.2.2.2.2.2.2.2.2.2.2.2)
    else
    some (y.1,y.2.1,y.2.2.1,y.2.2.2.1,y.2.2.2.2.1,y.2.2.2.2.2.1,y.2.2.2.2.2.2.1,y.2.2.2.2.2.2.2.1,false,y.2.2.2.2.2.2.2.2.1,y.2.2.2.2.2.2.2.2.2.1,y.2.2.2.2.2.2.2.2.2.2.1,y.2.2.2.2.2.2.2.2.2.2.2)) λv14=>
  if v14.2.2.2.2.2.2.2.2.1 then
   some (.inr (.inr false))
  else
   some (.inl (v14.1,v14.2.1,v14.2.2.1,v14.2.2.2.1,v14.2.2.2.2.1,v14.2.2.2.2.2.1,v14.2.2.2.2.2.2.1,wI (v14.2.2.2.2.2.2.2.1+1),v14.2.2.2.2.2.2.2.2.2.1,v14.2.2.2.2.2.2.2.2.2.2.1,v14.2.2.2.2.2.2.2.2.2.2.2.1,v14.2.2.2.2.2.2.2.2.2.2.2.2))
 else
  some (.inr (.inl (y.1,y.2.1,y.2.2.1,y.2.2.2.1,y.2.2.2.2.1,y.2.2.2.2.2.1,y.2.2.2.2.2.2.2.2.1,y.2.2.2.2.2.2.2.2.2.1,y.2.2.2.2.2.2.2.2.2.2.1,y.2.2.2.2.2.2.2.2.2.2.2)))
def Ey (y:Aef):Option (Aef⊕((LL×LI)⊕Bool)):=
 if decide (y.2.2.2.1 < y.2.2.1)then
  Option.bind (α:=Aef⊕Bool) (
    cZ y.2.2.2.1 <|
    cK (decide (y.2.2.2.1 < (y.2.1.length:Int))) <|
    Option.bind (y.2.1[0+y.2.2.2.1.toNat]?) λr4=>
    if decide (r4=0)then
     some (.inl (y.1,y.2.1,y.2.2.1,y.2.2.2.1,y.2.2.2.2.1,y.2.2.2.2.2.1,y.2.2.2.2.2.2.1,y.2.2.2.2.2.2.2))
    else
    sX 0 y.2.2.2.1 (y.2.1.length:Int) (y.2.1.length) <|
    (Ab Hf (y.1,y.2.1,y.2.2.2.1,r4,y.2.2.1,y.2.2.2.1,(((Int.toNat 0):Nat):Int),(((y.2.2.2.1.toNat - Int.toNat 0):Nat):Int),(((y.2.1.drop (Int.toNat 0)).take (y.2.2.2.1.toNat - Int.toNat 0)).length:Int),0,y.2.2.2.2.1,y.2.2.2.2.2.1,y.2.2.2.2.2.2.1,y.2.2.2.2.2.2.2)).bind λv6=>
    match v6 with
    | .inl y7=>
     (Hm y7.2.2.2.2.2.2.1 y7.2.2.2.2.2.2.2.1 y7.2.2.2.2.2.2.2.2.1 y7.2.2.2.2.2.2.2.2.2 y7.2.2.2.1 81).bind λc9=>
     Option.bind (α:=Ai7) (
       if(!c9.2)then
        some (y7.1,y7.2.1,y7.2.2.1,c9.1,y7.2.2.2.2.1,y7.2.2.2.2.2.1,true,y7.2.2.2.2.2.2.1,y7.2.2.2.2.2.2.2.1,y7.2.2.2.2.2.2.2.2.1,y7.2.2.2.2.2.2.2.2.2)
       else
        (MK c9.1).bind λc10=>
        some (y7.1,y7.2.1,y7.2.2.1,c9.1,y7.2.2.2.2.1,y7.2.2.2.2.2.1,(!c10),y7.2.2.2.2.2.2.1,y7.2.2.2.2.2.2.2.1,y7.2.2.2.2.2.2.2.2.1,y7.2.2.2.2.2.2.2.2.2)) λv11=>
     if v11.2.2.2.2.2.2.1 then
      some (.inr false)
     else
      (Ab Hk (v11.1,v11.2.1,v11.2.2.1,v11.2.2.2.1,v11.2.2.2.2.1,v11.2.2.2.2.2.1,(v11.2.2.2.1.length:Int),0,v11.2.2.2.2.2.2.2.1,v11.2.2.2.2.2.2.2.2.1,v11.2.2.2.2.2.2.2.2.2.1,v11.2.2.2.2.2.2.2.2.2.2)).bind λv15=>
      match v15 with
      | .inl y16=>
       cZ y16.2.2.1 <|
       cK (decide (y16.2.2.1 < (y16.1.length:Int))) <|
       Option.bind (y16.1[0+y16.2.2.1.toNat]?) λr18=>
       Option.bind (y16.1[0+y16.2.2.1.toNat]?) λr19=>
       some (.inl (y16.1.set (0+y16.2.2.1.toNat) y16.2.2.2.1,y16.2.1,y16.2.2.2.2.1,y16.2.2.2.2.2.1,y16.2.2.2.2.2.2.1,y16.2.2.2.2.2.2.2.1,y16.2.2.2.2.2.2.2.2.1,y16.2.2.2.2.2.2.2.2.2))
      | .inr s17=>
       some (.inr s17)
    | .inr s8=>
     some (.inr s8)) λv20=>
  match v20 with
  | .inl y21=>
   some (.inl (y21.1,y21.2.1,y21.2.2.1,wI (y21.2.2.2.1+1),y21.2.2.2.2.1,y21.2.2.2.2.2.1,y21.2.2.2.2.2.2.1,y21.2.2.2.2.2.2.2))
  | .inr s22=>
   some (.inr (.inr s22))
 else
  some (.inr (.inl (y.1,y.2.1)))
def Jc (x0:LL) (x1 x2 x3:LI) (x4:Int):Option U18:=
 cZ 32 <|
 cK (decide ((32:Int)<=32)) <|
 cK (Aa (Int.toNat 32) 24) <|
 cZ 32 <|
 cK (decide ((32:Int)<=32)) <|
 cK (Aa (Int.toNat 32) 8) <|
 if decide (x4=0)then
  some (List.replicate (Int.toNat 32) ([]:LI),List.replicate (Int.toNat 32) (0:Int),true)
 else
  (Hm x0 x1 x2 x3 x4 80).bind λc1=>
  Option.bind (α:=Ai2) (
    if(!c1.2)then
     some (List.replicate (Int.toNat 32) ([]:LI),c1.1,true,x0,x1,x2,x3)
    else
     (MK c1.1).bind λc2=>
     some (List.replicate (Int.toNat 32) ([]:LI),c1.1,(!c2),x0,x1,x2,x3)) λv3=>
  if v3.2.2.1 then
   some ([],[],false)
  else
   (Ab Ey (v3.1,v3.2.1,(v3.2.1.length:Int),0,v3.2.2.2.1,v3.2.2.2.2.1,v3.2.2.2.2.2.1,v3.2.2.2.2.2.2)).bind λv23=>
   match v23 with
   | .inl y24=>
    some (y24.1,y24.2,true)
   | .inr s25=>
    some ([],[],s25)
def G4 (x0:LL) (x1 x2 x3:LI) (x4:Int):Option (Bool):=
 (Hs x0 x1 x2 x3).bind λc1=>
 if(!c1)then
  some false
 else
  (Jc x0 x1 x2 x3 x4).bind λc2=>
  some c2.2.2
def Hq (y:Aem):Option (Aem⊕U40):=
 if decide (y.2.2.2.2.2.2.2 < y.2.2.2.2.2.2.1)then
  cZ y.2.2.2.2.2.2.2 <|
  Option.bind (y.2.2.1[y.2.2.2.2.2.1.toNat]?) λr16=>
  cK (decide (y.2.2.2.2.2.2.2 < (r16.length:Int))) <|
  Option.bind (y.2.2.1[y.2.2.2.2.2.1.toNat]?) λr17=>
  Option.bind (r17[0+y.2.2.2.2.2.2.2.toNat]?) λr18=>
  Option.bind (α:=Aem) (
   if decide (¬ r18=0)then
    cK (Aa (y.1.length+([(wI ((wI (32 * y.2.1))+y.2.2.2.2.2.2.2),r18)]:List (Int×Int)).length) 16) <|
    some (y.1++([(wI ((wI (32 * y.2.1))+y.2.2.2.2.2.2.2),r18)]:List (Int×Int)),y.2.1,y.2.2.1,y.2.2.2.1,y.2.2.2.2.1,(y.2.2.2.2.2.1.toNat:Int),y.2.2.2.2.2.2.1,y.2.2.2.2.2.2.2)
   else
    some (y.1,y.2.1,y.2.2.1,y.2.2.2.1,y.2.2.2.2.1,(y.2.2.2.2.2.1.toNat:Int),y.2.2.2.2.2.2.1,y.2.2.2.2.2.2.2)) λv19=>
  some (.inl (v19.1,v19.2.1,v19.2.2.1,v19.2.2.2.1,v19.2.2.2.2.1,(v19.2.2.2.2.2.1.toNat:Int),v19.2.2.2.2.2.2.1,wI (v19.2.2.2.2.2.2.2+1)))
 else
  some (.inr (y.1,y.2.2.1,y.2.2.2.1,y.2.2.2.2.1))
def Hp (y:U40):Option (U40⊕(List (Int×Int))):=
 if decide (y.2.2.2 < y.2.2.1)then
  cZ y.2.2.2 <|
  cK (decide (y.2.2.2 < (y.2.1.length:Int))) <|
  Option.bind (y.2.1[0+y.2.2.2.toNat]?) λr14=>
  Option.bind (y.2.1[0+y.2.2.2.toNat]?) λr15=>
  (Ab Hq (y.1,y.2.2.2,y.2.1,y.2.2.1,y.2.2.2,((0+y.2.2.2.toNat:Nat):Int),(r15.length:Int),0)).bind λv20=>
  some (.inl (v20.1,v20.2.1,v20.2.2.1,wI (v20.2.2.2+1)))
 else
  some (.inr y.1)
def Ni (x0:LL) (x1 x2 x3:LI) (x4:Int):Option ((List (Int×Int)×Bool)):=
 (G4 x0 x1 x2 x3 x4).bind λc1=>
 if(!c1)then
  some ([],false)
 else
  (Jc x0 x1 x2 x3 x4).bind λc2=>
  (Ab Hp ([],c2.1,(c2.1.length:Int),0)).bind λv21=>
  some (v21,true)
def NO (y:(LI×(Int×Int))):Option ((LI×(Int×Int))⊕(LI×(Int×Int))):=
 Option.bind (α:=(LI×(Int×(Int×Bool)))) (
   if decide (y.2.2 < (y.1.length:Int))then
    cZ y.2.2 <|
    cK (decide (y.2.2 < (y.1.length:Int))) <|
    Option.bind (y.1[0+y.2.2.toNat]?) λr1=>
    some (y.1,y.2.1,y.2.2,decide (r1 < y.2.1))
   else
   some (y.1,y.2.1,y.2.2,false)) λv2=>
 if v2.2.2.2 then
  some (.inl (v2.1,v2.2.1,wI (v2.2.2.1+1)))
 else
  some (.inr (v2.1,v2.2.1,v2.2.2.1))
def C3 (x0:LI) (x1:Int):Option LI:=
 (Ab NO (x0,x1,0)).bind λv3=>
 Option.bind (α:=(LI×(Int×(Int×Bool)))) (
   if decide (v3.2.2 < (v3.1.length:Int))then
    cZ v3.2.2 <|
    cK (decide (v3.2.2 < (v3.1.length:Int))) <|
    Option.bind (v3.1[0+v3.2.2.toNat]?) λr4=>
    some (v3.1,v3.2.1,v3.2.2,decide (r4=v3.2.1))
   else
   some (v3.1,v3.2.1,v3.2.2,false)) λv5=>
 if v5.2.2.2 then
  some v5.1
 else
 sX 0 v5.2.2.1 (v5.1.length:Int) (v5.1.length) <|
 cK (Aa (([]:LI).length+((v5.1.drop (Int.toNat 0)).take (v5.2.2.1.toNat - Int.toNat 0)).length) 8) <|
 cK (Aa ((([]:LI)++((v5.1.drop (Int.toNat 0)).take (v5.2.2.1.toNat - Int.toNat 0))).length+([v5.2.1]:LI).length) 8) <|
 sX v5.2.2.1 (v5.1.length:Int) (v5.1.length:Int) (v5.1.length) <|
 cK (Aa (((([]:LI)++((v5.1.drop (Int.toNat 0)).take (v5.2.2.1.toNat - Int.toNat 0)))++([v5.2.1]:LI)).length+((v5.1.drop (v5.2.2.1.toNat)).take ((v5.1.length:Int).toNat - v5.2.2.1.toNat)).length) 8) <|
 some (((([]:LI)++((v5.1.drop (Int.toNat 0)).take (v5.2.2.1.toNat - Int.toNat 0)))++([v5.2.1]:LI))++((v5.1.drop (v5.2.2.1.toNat)).take ((v5.1.length:Int).toNat - v5.2.2.1.toNat)))
def Gu (y:U31):Option (U31⊕LI):=
 if decide (y.2.2.2 < y.2.2.1)then
  cZ y.2.2.2 <|
  cK (decide (y.2.2.2 < (y.2.1.length:Int))) <|
  Option.bind (y.2.1[0+y.2.2.2.toNat]?) λr6=>
  Option.bind (α:=U31) (
   if decide (¬ r6=0)then
    (C3 y.1 r6).bind λc7=>
    some (c7,y.2.1,y.2.2.1,y.2.2.2)
   else
    some (y.1,y.2.1,y.2.2.1,y.2.2.2)) λv8=>
  some (.inl (v8.1,v8.2.1,v8.2.2.1,wI (v8.2.2.2+1)))
 else
  some (.inr y.1)
def L0 (x0:LL) (x1 x2 x3:LI) (x4:Int):Option ((LI×Bool)):=
 (G4 x0 x1 x2 x3 x4).bind λc1=>
 if(!c1)then
  some ([],false)
 else
  (Jc x0 x1 x2 x3 x4).bind λc2=>
  cK (Aa (c2.2.1.length+([x4]:LI).length) 8) <|
  (Ab Gu ([],c2.2.1++([x4]:LI),((c2.2.1++([x4]:LI)).length:Int),0)).bind λv9=>
  some (v9,true)
def IJ (y:U54):Option (U54⊕U33):=match y with
 | (a,b,c,d,e)=>
 cZ (IntKind.wrap .u64 d) <|
 if decide (wI ((wI (e+1)) * 2 ^ (min ((IntKind.wrap .u64 d).toNat) (IntKind.bits .i64)))<=b)then
  cZ (IntKind.wrap .u64 d) <|
  Option.bind (α:=U54) (
   if decide (a<=(wI (e * 2 ^ (min ((IntKind.wrap .u64 d).toNat) (IntKind.bits .i64)))))then
    cK (Aa (c.length+([(d,e)]:List (Int×Int)).length) 16) <|
    some (a,b,c++([(d,e)]:List (Int×Int)),d,e)
   else
    some (a,b,c,d,e)) λ(f,g,h,i,j)=>
  some (.inl (f,g,h,i,wI (j+1)))
 else
  some (.inr (a,b,c,d))
def IG (y:U33):Option (U33⊕(List (Int×Int))):=match y with
 | (a,b,c,d)=>
 if decide (d<=5)then
  (Ab IJ (a,b,c,d,0)).bind λ(e,f,g,h)=>
  some (.inl (e,f,g,wI (h+1)))
 else
  some (.inr c)
def Kq (x0 x1:Int):Option (List (Int×Int)):=
 (Ab IG (x0,x1,[],0)).bind λv6=>
 some v6
def FS (x0 x1:Int):Option (Int):=
 Option.bind (α:=(Bool×(Int×Int))) (
   (Bt x0 0 5).bind λc1=>
   if(!c1)then
    some (true,x0,x1)
   else
    (Bt x1 0 63).bind λc2=>
    some ((!c2),x0,x1)) λ(a,b,c)=>
 if a then
  some (-1)
 else
  some (wI ((wI (64 * b))+c))
def Fc (y:U99):Option (U99⊕(Int×(Int×(Int×LI)))):=match y with
 | (a,b,c,d,e,f,g)=>
 if decide (g < f)then
  cZ g <|
  cK (decide (g < (e.length:Int))) <|
  Option.bind (e[0+g.toNat]?) λr6=>
  Option.bind (e[0+g.toNat]?) λr7=>
  (FS r6.1 r7.2).bind λc8=>
  (C3 d c8).bind λc9=>
  some (.inl (a,b,c,c9,e,f,wI (g+1)))
 else
  some (.inr (a,b,c,d))
def EO (y:(Int×(Int×(LI×Int)))):Option ((Int×(Int×(LI×Int)))⊕LI):=match y with
 | (a,b,c,d)=>
 if decide (d<=a)then
  cK (decide (¬ b=0)) <|
  Option.bind (α:=(Int×(Int×(LI×Int)))) (
   if decide (Int.tmod d b=0)then
    (C3 c (wI (384+d))).bind λc11=>
    some (a,b,c11,d)
   else
    some (a,b,c,d)) λ(e,f,g,h)=>
  some (.inl (e,f,g,wI (h+1)))
 else
  some (.inr c)
def Jm (x0 x1 x2:Int):Option LI:=
 (Kq x0 x1).bind λc1=>
 (Ab Fc (x0,x1,x2,[],c1,(c1.length:Int),0)).bind λ(a,b,c,d)=>
 (Ab EO (b,c,d,wI (a+1))).bind λv13=>
 (C3 v13 448).bind λc14=>
 some c14
def QO (y:(LI×(Int×Int))):Option ((LI×(Int×Int))⊕(Unit⊕Bool)):=
 if decide (y.2.2 < y.2.1)then
  gX y.1 y.2.2 λr1=>
  if decide (¬ r1=0)then
   some (.inr (.inr false))
  else
   some (.inl (y.1,y.2.1,wI (y.2.2+1)))
 else
  some (.inr (.inl ()))
def DY (x0:LI) (x1:Int):Option (Bool):=
 sX x1 (x0.length:Int) (x0.length:Int) (x0.length) <|
 (Ab QO ((List.drop (x1.toNat) x0).take ((x0.length:Int).toNat - x1.toNat),(((List.drop (x1.toNat) x0).take ((x0.length:Int).toNat - x1.toNat)).length:Int),0)).bind λv2=>
 match v2 with
 | .inl y3=>
  some true
 | .inr s4=>
  some s4
def Ea (y:Aib):Option (Aib⊕((LI×(Int×LI))⊕Bool)):=
 if decide (y.2.2.2.1 < y.2.1)then
  gX y.1 (wI (2+(wI (2 * y.2.2.2.1)))) λr24=>
  gX y.1 (wI (3+(wI (2 * y.2.2.2.1)))) λr25=>
  Option.bind (α:=AeJ) (
    (HV y.2.2.2.2.1 y.2.2.2.2.2.1 y.2.2.2.2.2.2.1 y.2.2.2.2.2.2.2 (wI ((wI ((IntKind.wrap .i64 r24) * 256))+(IntKind.wrap .i64 r25)))).bind λc26=>
    if(!c26)then
     some (y.1,y.2.1,y.2.2.1,y.2.2.2.1,wI ((wI ((IntKind.wrap .i64 r24) * 256))+(IntKind.wrap .i64 r25)),true,y.2.2.2.2.1,y.2.2.2.2.2.1,y.2.2.2.2.2.2.1,y.2.2.2.2.2.2.2)
    else
     (FU y.2.2.1 (wI ((wI ((IntKind.wrap .i64 r24) * 256))+(IntKind.wrap .i64 r25)))).bind λc27=>
     some (y.1,y.2.1,y.2.2.1,y.2.2.2.1,wI ((wI ((IntKind.wrap .i64 r24) * 256))+(IntKind.wrap .i64 r25)),c27,y.2.2.2.2.1,y.2.2.2.2.2.1,y.2.2.2.2.2.2.1,y.2.2.2.2.2.2.2)) λv28=>
  if v28.2.2.2.2.2.1 then
   some (.inr (.inr false))
  else
  gX v28.2.2.2.2.2.2.1 v28.2.2.2.2.1 λr29=>
  gX r29 2 λr30=>
  Option.bind (α:=AeJ) (
    gX r29 0 λr31=>
    if decide (¬ r31=83)then
     some (v28.1,v28.2.1,v28.2.2.1,v28.2.2.2.1,v28.2.2.2.2.1,true,v28.2.2.2.2.2.2.1,v28.2.2.2.2.2.2.2.1,v28.2.2.2.2.2.2.2.2.1,v28.2.2.2.2.2.2.2.2.2)
    else
    gX r29 1 λr32=>
    (Bt (IntKind.wrap .i64 r32) 1 250).bind λc33=>
    if(!c33)then
     some (v28.1,v28.2.1,v28.2.2.1,v28.2.2.2.1,v28.2.2.2.2.1,true,v28.2.2.2.2.2.2.1,v28.2.2.2.2.2.2.2.1,v28.2.2.2.2.2.2.2.2.1,v28.2.2.2.2.2.2.2.2.2)
    else
     (Bt (IntKind.wrap .i64 r30) 1 40).bind λc34=>
     if(!c34)then
      some (v28.1,v28.2.1,v28.2.2.1,v28.2.2.2.1,v28.2.2.2.2.1,true,v28.2.2.2.2.2.2.1,v28.2.2.2.2.2.2.2.1,v28.2.2.2.2.2.2.2.2.1,v28.2.2.2.2.2.2.2.2.2)
     else
     if decide (v28.2.2.2.1 < (wI (v28.2.1 - 1)))then
      if decide (¬ IntKind.wrap .i64 r30=40)then
       some (v28.1,v28.2.1,v28.2.2.1,v28.2.2.2.1,v28.2.2.2.2.1,true,v28.2.2.2.2.2.2.1,v28.2.2.2.2.2.2.2.1,v28.2.2.2.2.2.2.2.2.1,v28.2.2.2.2.2.2.2.2.2)
      else
       (DY r29 (wI (3+(IntKind.wrap .i64 r30)))).bind λc35=>
       some (v28.1,v28.2.1,v28.2.2.1,v28.2.2.2.1,v28.2.2.2.2.1,(!c35),v28.2.2.2.2.2.2.1,v28.2.2.2.2.2.2.2.1,v28.2.2.2.2.2.2.2.2.1,v28.2.2.2.2.2.2.2.2.2)
     else
     (DY r29 (wI (3+(IntKind.wrap .i64 r30)))).bind λc37=>
     some (v28.1,v28.2.1,v28.2.2.1,v28.2.2.2.1,v28.2.2.2.2.1,(!c37),v28.2.2.2.2.2.2.1,v28.2.2.2.2.2.2.2.1,v28.2.2.2.2.2.2.2.2.1,v28.2.2.2.2.2.2.2.2.2)) λv38=>
  if v38.2.2.2.2.2.1 then
   some (.inr (.inr false))
  else
  cK (Aa (v38.2.2.1.length+([v38.2.2.2.2.1]:LI).length) 8) <|
  some (.inl (v38.1,v38.2.1,v38.2.2.1++([v38.2.2.2.2.1]:LI),wI (v38.2.2.2.1+1),v38.2.2.2.2.2.2.1,v38.2.2.2.2.2.2.2.1,v38.2.2.2.2.2.2.2.2.1,v38.2.2.2.2.2.2.2.2.2))
 else
  some (.inr (.inl (y.1,y.2.1,y.2.2.1)))
def J5 (x0:LL) (x1 x2 x3:LI) (x4:Int):Option ((LI×Bool)):=
 Option.bind (α:=U79) (
   (HV x0 x1 x2 x3 x4).bind λc1=>
   if(!c1)then
    some (x4,true,x0,x1,x2,x3)
   else
   gX x0 x4 λr2=>
   gX r2 0 λr3=>
   if decide (¬ r3=84)then
    some (x4,true,x0,x1,x2,x3)
   else
   gX x0 x4 λr4=>
   gX r4 1 λr5=>
   some (x4,decide (3 < r5),x0,x1,x2,x3)) λv6=>
 if v6.2.1 then
  some ([],false)
 else
 gX v6.2.2.1 v6.1 λr7=>
 gX r7 1 λr8=>
 (Ab Ea (r7,IntKind.wrap .i64 r8,[],0,v6.2.2.1,v6.2.2.2.1,v6.2.2.2.2.1,v6.2.2.2.2.2)).bind λv39=>
 match v39 with
 | .inl y40=>
  (DY y40.1 (wI (2+(wI (2 * y40.2.1))))).bind λc42=>
  some (y40.2.2,c42)
 | .inr s41=>
  some ([],s41)
def LJ (x0:LL) (x1 x2 x3:LI) (x4:Int):Option LB:=
 gX x0 x4 λr1=>
 gX x0 x4 λr2=>
 gX r2 2 λr3=>
 sX 3 (wI (3+(IntKind.wrap .i64 r3))) (r1.length:Int) (r1.length) <|
 some (AF ((List.drop (Int.toNat 3) r1).take ((wI (3+(IntKind.wrap .i64 r3))).toNat - Int.toNat 3)))
def Hh (y:Ahq):Option (Ahq⊕(Int×(LI×LB))):=
 if decide (y.2.2.2.2.1 < y.2.2.2.1)then
  cZ y.2.2.2.2.1 <|
  cK (decide (y.2.2.2.2.1 < (y.2.1.length:Int))) <|
  Option.bind (y.2.1[0+y.2.2.2.2.1.toNat]?) λr2=>
  (LJ y.2.2.2.2.2.1 y.2.2.2.2.2.2.1 y.2.2.2.2.2.2.2.1 y.2.2.2.2.2.2.2.2 r2).bind λc3=>
  cK (decide ((y.2.2.1.length+c3.length:Nat)<=9223372036854775807)) <|
  some (.inl (y.1,y.2.1,(y.2.2.1:LB)++c3,y.2.2.2.1,wI (y.2.2.2.2.1+1),y.2.2.2.2.2.1,y.2.2.2.2.2.2.1,y.2.2.2.2.2.2.2.1,y.2.2.2.2.2.2.2.2))
 else
  some (.inr (y.1,y.2.1,y.2.2.1))
def No (x0:LL) (x1 x2 x3:LI) (x4:Int):Option U14:=
 (J5 x0 x1 x2 x3 x4).bind λc1=>
 if(!c1.2)then
  some (([]:LB),[],false)
 else
  (Ab Hh (x4,c1.1,([]:LB),(c1.1.length:Int),0,x0,x1,x2,x3)).bind λv4=>
  cK (Aa (v4.2.1.length+([v4.1]:LI).length) 8) <|
  some (v4.2.2,v4.2.1++([v4.1]:LI),true)
def Eb (y:U34):Option (U34⊕(Unit⊕Int)):=match y with
 | (a,b,c,d)=>
 if decide (d < c)then
  gX b d λr1=>
  if decide (r1.1=a)then
   some (.inr (.inr r1.2))
  else
   some (.inl (a,b,c,wI (d+1)))
 else
  some (.inr (.inl ()))
def DK (x0 x1 x2 x3 x4:Int) (x5:LL) (x6 x7 x8:LI) (x9:List (Int×Int)) (x10:Int) (x11:LB) (x12:List (Int×Int)) (x13:List (List (Int×(Int×LB)))) (x14:LI) (x15:Int):Option (Int):=
 (Ab Eb (x15,x9,(x9.length:Int),0)).bind λv2=>
 match v2 with
 | .inl y3=>
  some 0
 | .inr s4=>
  some s4
def Dy (y:Ah7):Option (Ah7⊕((LI×LI)⊕Bool)):=match y with
 | (a,b,c,d,e,f,g)=>
 if decide (¬ a=0)then
  Option.bind (α:=Ai6) (
    (HV d e f g a).bind λc19=>
    if(!c19)then
     some (a,b,c,true,d,e,f,g)
    else
     (FU c a).bind λc20=>
     if c20 then
      some (a,b,c,true,d,e,f,g)
     else
     some (a,b,c,decide ((c.length:Int)=9),d,e,f,g)) λ(h,i,j,k,l,m,n,o)=>
  if k then
   some (.inr (.inr false))
  else
  gX l h λr22=>
  gX r22 1 λr23=>
  gX r22 2 λr24=>
  gX r22 3 λr25=>
  Option.bind (α:=Ajr) (
    gX r22 0 λr26=>
    if decide (¬ r26=82)then
     some (h,i,j,r22,wI ((wI ((IntKind.wrap .i64 r23) * 256))+(IntKind.wrap .i64 r24)),IntKind.wrap .i64 r25,true,l,m,n,o)
    else
    if decide (124 < (IntKind.wrap .i64 r25))then
     some (h,i,j,r22,wI ((wI ((IntKind.wrap .i64 r23) * 256))+(IntKind.wrap .i64 r24)),IntKind.wrap .i64 r25,true,l,m,n,o)
    else
    if decide (¬ wI ((wI ((IntKind.wrap .i64 r23) * 256))+(IntKind.wrap .i64 r24))=0)then
     if decide (¬ IntKind.wrap .i64 r25=124)then
      some (h,i,j,r22,wI ((wI ((IntKind.wrap .i64 r23) * 256))+(IntKind.wrap .i64 r24)),IntKind.wrap .i64 r25,true,l,m,n,o)
     else
     if decide (IntKind.wrap .i64 r25=0)then
      if decide (0 < (j.length:Int))then
       some (h,i,j,r22,wI ((wI ((IntKind.wrap .i64 r23) * 256))+(IntKind.wrap .i64 r24)),IntKind.wrap .i64 r25,true,l,m,n,o)
      else
       (DY r22 (wI (4+(IntKind.wrap .i64 r25)))).bind λc27=>
       some (h,i,j,r22,wI ((wI ((IntKind.wrap .i64 r23) * 256))+(IntKind.wrap .i64 r24)),IntKind.wrap .i64 r25,(!c27),l,m,n,o)
     else
     (DY r22 (wI (4+(IntKind.wrap .i64 r25)))).bind λc29=>
     some (h,i,j,r22,wI ((wI ((IntKind.wrap .i64 r23) * 256))+(IntKind.wrap .i64 r24)),IntKind.wrap .i64 r25,(!c29),l,m,n,o)
    else
    if decide (IntKind.wrap .i64 r25=0)then
     if decide (0 < (j.length:Int))then
      some (h,i,j,r22,wI ((wI ((IntKind.wrap .i64 r23) * 256))+(IntKind.wrap .i64 r24)),IntKind.wrap .i64 r25,true,l,m,n,o)
     else
      (DY r22 (wI (4+(IntKind.wrap .i64 r25)))).bind λc33=>
      some (h,i,j,r22,wI ((wI ((IntKind.wrap .i64 r23) * 256))+(IntKind.wrap .i64 r24)),IntKind.wrap .i64 r25,(!c33),l,m,n,o)
    else
    (DY r22 (wI (4+(IntKind.wrap .i64 r25)))).bind λc35=>
    some (h,i,j,r22,wI ((wI ((IntKind.wrap .i64 r23) * 256))+(IntKind.wrap .i64 r24)),IntKind.wrap .i64 r25,(!c35),l,m,n,o)) λ(p,q,r,s,t,u,v,w,x,z,a0)=>
  if v then
   some (.inr (.inr false))
  else
  sX 4 (wI (4+u)) (s.length:Int) (s.length) <|
  cK (Aa (q.length+((List.drop (Int.toNat 4) s).take ((wI (4+u)).toNat - Int.toNat 4)).length) 1) <|
  cK (Aa (r.length+([p]:LI).length) 8) <|
  some (.inl (t,q++((List.drop (Int.toNat 4) s).take ((wI (4+u)).toNat - Int.toNat 4)),r++([p]:LI),w,x,z,a0))
 else
  some (.inr (.inl (b,c)))
def Kh (x0:LL) (x1 x2 x3:LI) (x4:Int):Option ((LI×(LI×Bool))):=
 (Ab Dy (x4,[],[],x0,x1,x2,x3)).bind λv37=>
 match v37 with
 | .inl y38=>
  some (y38.1,y38.2,decide (0 < (y38.2.length:Int)))
 | .inr s39=>
  some ([],[],s39)
def DN (y:U34):Option (U34⊕(Int⊕Int)):=
 if decide (y.2.2.2 < y.2.2.1)then
  gX y.2.1 y.2.2.2 λr1=>
  (Bt r1.2 1 (wI (120 - y.1))).bind λc2=>
  if(!c2)then
   some (.inr (.inr (-1)))
  else
   some (.inl (wI (y.1+r1.2),y.2.1,y.2.2.1,wI (y.2.2.2+1)))
 else
  some (.inr (.inl y.1))
def TK (x0:List (Int×Int)):Option (Int):=
 (Ab DN (0,x0,(x0.length:Int),0)).bind λv3=>
 match v3 with
 | .inl y4=>
  some y4
 | .inr s5=>
  some s5
def Oh (y:AbE):Option (AbE⊕((Int×Int)⊕Bool)):=
 if decide (y.2.2.2.2.2.2 < y.2.2.2.2.2.1)then
  gX y.2.2.2.2.1 y.2.2.2.2.2.2 λr4=>
  Option.bind (α:=Ahu) (
    (Bt r4.1 0 y.2.2.1).bind λc5=>
    if(!c5)then
     some (y.1,y.2.1,y.2.2.1,y.2.2.2.1,y.2.2.2.2.1,y.2.2.2.2.2.1,y.2.2.2.2.2.2,true,r4.1,r4.2)
    else
     (Bt r4.2 1 (wI (y.2.1 - y.2.2.2.1))).bind λc6=>
     if(!c6)then
      some (y.1,y.2.1,y.2.2.1,y.2.2.2.1,y.2.2.2.2.1,y.2.2.2.2.2.1,y.2.2.2.2.2.2,true,r4.1,r4.2)
     else
     if decide (0 < y.2.2.2.2.2.2)then
      gX y.1 (wI (y.2.2.2.2.2.2 - 1)) λr7=>
      some (y.1,y.2.1,y.2.2.1,y.2.2.2.1,y.2.2.2.2.1,y.2.2.2.2.2.1,y.2.2.2.2.2.2,decide (r7.1=r4.1),r4.1,r4.2)
     else
     some (y.1,y.2.1,y.2.2.1,y.2.2.2.1,y.2.2.2.2.1,y.2.2.2.2.2.1,y.2.2.2.2.2.2,false,r4.1,r4.2)) λv8=>
  if v8.2.2.2.2.2.2.2.1 then
   some (.inr (.inr false))
  else
   some (.inl (v8.1,v8.2.1,v8.2.2.1,wI (v8.2.2.2.1+v8.2.2.2.2.2.2.2.2.2),v8.2.2.2.2.1,v8.2.2.2.2.2.1,wI (v8.2.2.2.2.2.2.1+1)))
 else
  some (.inr (.inl (y.2.1,y.2.2.2.1)))
def It (x0:List (Int×Int)) (x1 x2:Int):Option (Bool):=
 Option.bind (α:=U35) (
   (Bt x1 0 120).bind λc1=>
   if(!c1)then
    some (x0,x1,x2,true)
   else
    (Bt x2 0 60).bind λc2=>
    some (x0,x1,x2,(!c2))) λv3=>
 if v3.2.2.2 then
  some false
 else
  (Ab Oh (v3.1,v3.2.1,v3.2.2.1,0,v3.1,(v3.1.length:Int),0)).bind λv9=>
  match v9 with
  | .inl y10=>
   some (decide (y10.2=y10.1))
  | .inr s11=>
   some s11
def Nm (x0:List (Int×Int)):Option (Bool):=
 (TK x0).bind λc1=>
 Option.bind (α:=Bool) (
  if decide (0<=c1)then
   (It x0 c1 60).bind λc2=>
   some c2
  else
  some false) λv3=>
 some v3
def FH (y:U15):Option (U15⊕(List (Int×Int))):=
 if decide (y.2.2 < (y.1.length:Int))then
  gX y.1 y.2.2 λr4=>
  gX y.1 (wI (y.2.2+1)) λr5=>
  cK (Aa (y.2.1.length+([(IntKind.wrap .i64 r4,IntKind.wrap .i64 r5)]:List (Int×Int)).length) 16) <|
  some (.inl (y.1,y.2.1++([(IntKind.wrap .i64 r4,IntKind.wrap .i64 r5)]:List (Int×Int)),wI (y.2.2+2)))
 else
  some (.inr y.2.1)
def J7 (x0:LI):Option ((List (Int×Int)×Bool)):=
 Option.bind (α:=(LI×Bool)) (
   cK (decide (¬ (2:Int)=0)) <|
   if decide (Int.tmod (x0.length:Int) 2=1)then
    some (x0,true)
   else
   some (x0,decide (240 < (x0.length:Int)))) λv1=>
 if v1.2 then
  some ([],false)
 else
  (Ab FH (v1.1,[],0)).bind λv6=>
  (Nm v6).bind λc7=>
  if(!c7)then
   some ([],false)
  else
   some (v6,true)
def F7 (x0 x1:Int) (x2:LB):Option (Int):=
 Option.bind (α:=U29) (
   if decide (0 < x0)then
    if decide (x1=0)then
     some (((x2:LB) == ([]:LB)),x0,x1,x2)
    else
    some (false,x0,x1,x2)
   else
   some (false,x0,x1,x2)) λv1=>
 if v1.1 then
  some 1
 else
  Option.bind (α:=U29) (
    if decide (v1.2.1=0)then
     if decide (0 < v1.2.2.1)then
      some (((v1.2.2.2:LB) == ([]:LB)),v1.2.1,v1.2.2.1,v1.2.2.2)
     else
     some (false,v1.2.1,v1.2.2.1,v1.2.2.2)
    else
    some (false,v1.2.1,v1.2.2.1,v1.2.2.2)) λv2=>
  if v2.1 then
   some 2
  else
   Option.bind (α:=Bool) (
     if decide (v2.2.1=0)then
      if decide (v2.2.2.1=0)then
       some (!((v2.2.2.2:LB) == ([]:LB)))
      else
      some false
     else
     some false) λv3=>
   if v3 then
    some 3
   else
    some 0
def LC (y:U91):Option (U91⊕(Unit⊕Bool)):=
 if decide (y.2.2.2.2.2 < y.2.2.2.2.1)then
  gX y.2.2.2.1 y.2.2.2.2.2 λr1=>
  (F7 r1.1 r1.2.1 r1.2.2).bind λc2=>
  Option.bind (α:=AiS) (
    if decide (c2=0)then
     some (y.1,y.2.1,y.2.2.1,y.2.2.2.1,y.2.2.2.2.1,y.2.2.2.2.2,true,r1.1,r1.2.1,r1.2.2)
    else
    if decide (0 < y.2.2.2.2.2)then
     gX y.1 (wI (y.2.2.2.2.2 - 1)) λr3=>
     (F7 r3.1 r3.2.1 r3.2.2).bind λc4=>
     if decide (c4=c2)then
      some (y.1,y.2.1,y.2.2.1,y.2.2.2.1,y.2.2.2.2.1,y.2.2.2.2.2,true,r1.1,r1.2.1,r1.2.2)
     else
     if decide (120 < r1.1)then
      some (y.1,y.2.1,y.2.2.1,y.2.2.2.1,y.2.2.2.2.1,y.2.2.2.2.2,true,r1.1,r1.2.1,r1.2.2)
     else
     if decide (120 < r1.2.1)then
      some (y.1,y.2.1,y.2.2.1,y.2.2.2.1,y.2.2.2.2.1,y.2.2.2.2.2,true,r1.1,r1.2.1,r1.2.2)
     else
     some (y.1,y.2.1,y.2.2.1,y.2.2.2.1,y.2.2.2.2.1,y.2.2.2.2.2,decide (120 < (r1.2.2.length:Int)),r1.1,r1.2.1,r1.2.2)
    else
    if decide (120 < r1.1)then
     some (y.1,y.2.1,y.2.2.1,y.2.2.2.1,y.2.2.2.2.1,y.2.2.2.2.2,true,r1.1,r1.2.1,r1.2.2)
    else
    if decide (120 < r1.2.1)then
     some (y.1,y.2.1,y.2.2.1,y.2.2.2.1,y.2.2.2.2.1,y.2.2.2.2.2,true,r1.1,r1.2.1,r1.2.2)
    else
    some (y.1,y.2.1,y.2.2.1,y.2.2.2.1,y.2.2.2.2.1,y.2.2.2.2.2,decide (120 < (r1.2.2.length:Int)),r1.1,r1.2.1,r1.2.2)) λv5=>
  if v5.2.2.2.2.2.2.1 then
   some (.inr (.inr false))
  else
   Option.bind (α:=Aja) (
     if decide (120 < (wI (v5.2.1+(wI (v5.2.2.2.2.2.2.2.1+v5.2.2.2.2.2.2.2.2.1)))))then
      some (v5.1,wI (v5.2.1+(wI (v5.2.2.2.2.2.2.2.1+v5.2.2.2.2.2.2.2.2.1))),wI (v5.2.2.1+(wI (v5.2.2.2.2.2.2.2.1+(v5.2.2.2.2.2.2.2.2.2.length:Int)))),v5.2.2.2.1,v5.2.2.2.2.1,v5.2.2.2.2.2.1,true)
     else
     some (v5.1,wI (v5.2.1+(wI (v5.2.2.2.2.2.2.2.1+v5.2.2.2.2.2.2.2.2.1))),wI (v5.2.2.1+(wI (v5.2.2.2.2.2.2.2.1+(v5.2.2.2.2.2.2.2.2.2.length:Int)))),v5.2.2.2.1,v5.2.2.2.2.1,v5.2.2.2.2.2.1,decide (120 < (wI (v5.2.2.1+(wI (v5.2.2.2.2.2.2.2.1+(v5.2.2.2.2.2.2.2.2.2.length:Int)))))))) λv6=>
   if v6.2.2.2.2.2.2 then
    some (.inr (.inr false))
   else
    some (.inl (v6.1,v6.2.1,v6.2.2.1,v6.2.2.2.1,v6.2.2.2.2.1,wI (v6.2.2.2.2.2.1+1)))
 else
  some (.inr (.inl ()))
def EI (x0:List (Int×(Int×LB))):Option (Bool):=
 (Ab LC (x0,0,0,x0,(x0.length:Int),0)).bind λv7=>
 match v7 with
 | .inl y8=>
  some true
 | .inr s9=>
  some s9
def Bk (y:U20):Option (U20⊕(List (Int×(Int×LB))⊕Bool)):=
 if decide (y.2.2 < (y.1.length:Int))then
  if decide ((y.1.length:Int)<=(wI (y.2.2+1)))then
   some (.inr (.inr false))
  else
  gX y.1 (wI (y.2.2+1)) λr9=>
  gX y.1 y.2.2 λr10=>
  Option.bind (α:=U20⊕Bool) (
    if decide (r10=1)then
     cK (Aa (y.2.1.length+([(IntKind.wrap .i64 r9,(0,[]))]:List (Int×(Int×LB))).length) 32) <|
     some (.inl (y.1,y.2.1++([(IntKind.wrap .i64 r9,(0,[]))]:List (Int×(Int×LB))),y.2.2))
    else
     Option.bind (α:=U20⊕Bool) (
       if decide (r10=2)then
        cK (Aa (y.2.1.length+([(0,(IntKind.wrap .i64 r9,[]))]:List (Int×(Int×LB))).length) 32) <|
        some (.inl (y.1,y.2.1++([(0,(IntKind.wrap .i64 r9,[]))]:List (Int×(Int×LB))),y.2.2))
       else
       if decide (r10=3)then
        if decide (wI ((wI ((y.1.length:Int) - y.2.2)) - 2) < (IntKind.wrap .i64 r9))then
         some (.inr false)
        else
        sX (wI (y.2.2+2)) (wI ((wI (y.2.2+2))+(IntKind.wrap .i64 r9))) (y.1.length:Int) (y.1.length) <|
        cK (Aa (y.2.1.length+([(0,(0,AF ((List.drop ((wI (y.2.2+2)).toNat) y.1).take ((wI ((wI (y.2.2+2))+(IntKind.wrap .i64 r9))).toNat - (wI (y.2.2+2)).toNat))))]:List (Int×(Int×LB))).length) 32) <|
        some (.inl (y.1,y.2.1++([(0,(0,AF ((List.drop ((wI (y.2.2+2)).toNat) y.1).take ((wI ((wI (y.2.2+2))+(IntKind.wrap .i64 r9))).toNat - (wI (y.2.2+2)).toNat))))]:List (Int×(Int×LB))),wI (y.2.2+(IntKind.wrap .i64 r9))))
       else
        some (.inr false)) λv11=>
     match v11 with
     | .inl y12=>
      some (.inl (y12.1,y12.2.1,y12.2.2))
     | .inr s13=>
      some (.inr s13)) λv14=>
  match v14 with
  | .inl y15=>
   if decide (500 < (y15.2.1.length:Int))then
    some (.inr (.inr false))
   else
    some (.inl (y15.1,y15.2.1,wI (y15.2.2+2)))
  | .inr s16=>
   some (.inr (.inr s16))
 else
  some (.inr (.inl y.2.1))
def Ig (x0:LI):Option U4:=
 (Ab Bk (x0,[],0)).bind λv17=>
 match v17 with
 | .inl y18=>
  (EI y18).bind λc20=>
  if(!c20)then
   some ([],false)
  else
   some (y18,true)
 | .inr s19=>
  some ([],s19)
def FP (y:U42):Option (U42⊕Int):=
 if decide (y.2.2.2 < y.2.2.1)then
  gX y.2.1 y.2.2.2 λr1=>
  some (.inl (wI (y.1+(wI (r1.1+r1.2.1))),y.2.1,y.2.2.1,wI (y.2.2.2+1)))
 else
  some (.inr y.1)
def Ii (x0:List (Int×(Int×LB))):Option (Int):=
 (Ab FP (0,x0,(x0.length:Int),0)).bind λv2=>
 some v2
def FN (y:U42):Option (U42⊕Int):=
 if decide (y.2.2.2 < y.2.2.1)then
  gX y.2.1 y.2.2.2 λr1=>
  some (.inl (wI (y.1+(wI (r1.1+(r1.2.2.length:Int)))),y.2.1,y.2.2.1,wI (y.2.2.2+1)))
 else
  some (.inr y.1)
def J2 (x0:List (Int×(Int×LB))):Option (Int):=
 (Ab FN (0,x0,(x0.length:Int),0)).bind λv2=>
 some v2
def Lk (y:U45):Option (U45⊕(Unit⊕Bool)):=
 if decide (y.2.2.2 < y.2.2.1)then
  gX y.2.1 y.2.2.2 λr4=>
  Option.bind (α:=U74) (
    (EI r4).bind λc5=>
    if(!c5)then
     some (y.2.1,y.2.2.1,y.2.2.2,true,r4)
    else
     (Ii r4).bind λc6=>
     some (y.2.1,y.2.2.1,y.2.2.2,decide (¬ c6=y.1),r4)) λv7=>
  if v7.2.2.2.1 then
   some (.inr (.inr false))
  else
   (J2 v7.2.2.2.2).bind λc8=>
   some (.inl (c8,v7.1,v7.2.1,wI (v7.2.2.1+1)))
 else
  some (.inr (.inl ()))
def HF (x0:Int) (x1:LB) (x2:List (Int×Int)) (x3:List (List (Int×(Int×LB)))):Option (Bool):=
 Option.bind (α:=U71) (
   (Bt x0 0 60).bind λc1=>
   if(!c1)then
    some (true,x0,x1,x2,x3)
   else
   if decide (120 < (x1.length:Int))then
    some (true,x0,x1,x2,x3)
   else
    (It x2 (x1.length:Int) x0).bind λc2=>
    if(!c2)then
     some (true,x0,x1,x2,x3)
    else
    some (decide (wI (60 - x0) < (x3.length:Int)),x0,x1,x2,x3)) λv3=>
 if v3.1 then
  some false
 else
  (Ab Lk ((v3.2.2.1.length:Int),v3.2.2.2.2,(v3.2.2.2.2.length:Int),0)).bind λv9=>
  match v9 with
  | .inl y10=>
   some true
  | .inr s11=>
   some s11
def Pa (x0:Int) (x1:LB) (x2:List (Int×Int)) (x3:List (List (Int×(Int×LB)))):Option (Int):=
 some (wI (x0+(x3.length:Int)))
def G9 (y:AgF):Option (AgF⊕U70):=
 if decide (y.1 < (wI (y.2.2.2.2.2.2.1+y.2.2.2.2.2.2.2.1)))then
  cK (Aa (y.2.2.2.2.1.length+([decide (0 < y.2.2.2.2.2.2.1)]:List Bool).length) 1) <|
  cK (Aa (y.2.2.2.2.2.1.length+([([]:LB)]:List LB).length) 16) <|
  some (.inl (wI (y.1+1),y.2.1,y.2.2.1,y.2.2.2.1,y.2.2.2.2.1++([decide (0 < y.2.2.2.2.2.2.1)]:List Bool),y.2.2.2.2.2.1++([([]:LB)]:List LB),y.2.2.2.2.2.2.1,y.2.2.2.2.2.2.2.1,y.2.2.2.2.2.2.2.2))
 else
  some (.inr (y.2.1,y.2.2.1,y.2.2.2.1,y.2.2.2.2.1,y.2.2.2.2.2.1))
def Hn (y:U70):Option (U70⊕(List Bool×List LB)):=
 if decide (y.2.2.1 < y.2.1)then
  gX y.1 y.2.2.1 λr6=>
  cZ (wI ((y.2.2.2.2.length:Int) - 1)) <|
  cK (decide (wI ((y.2.2.2.2.length:Int) - 1) < (y.2.2.2.2.length:Int))) <|
  Option.bind (y.2.2.2.2[0+(wI ((y.2.2.2.2.length:Int) - 1)).toNat]?) λr7=>
  cK (decide ((r7.length+r6.2.2.length:Nat)<=9223372036854775807)) <|
  cZ (wI ((y.2.2.2.2.length:Int) - 1)) <|
  cK (decide (wI ((y.2.2.2.2.length:Int) - 1) < (y.2.2.2.2.length:Int))) <|
  Option.bind (y.2.2.2.2[0+(wI ((y.2.2.2.2.length:Int) - 1)).toNat]?) λr8=>
  Option.bind (y.2.2.2.2[0+(wI ((y.2.2.2.2.length:Int) - 1)).toNat]?) λr9=>
  (Ab G9 (0,y.1,y.2.1,y.2.2.1,y.2.2.2.1,y.2.2.2.2.set (0+(wI ((y.2.2.2.2.length:Int) - 1)).toNat) ((r7:LB)++r6.2.2),r6.1,r6.2.1,r6.2.2)).bind λv10=>
  some (.inl (v10.1,v10.2.1,wI (v10.2.2.1+1),v10.2.2.2.1,v10.2.2.2.2))
 else
  some (.inr (y.2.2.2.1,y.2.2.2.2))
def K9 (x0:List (Int×(Int×LB))):Option ((List Bool×List LB)):=
 (Ab Hn (x0,(x0.length:Int),0,[],[([]:LB)])).bind λv11=>
 some (v11.1,v11.2)
def KA (x0:List (Int×(Int×LB))) (x1 x2:Int) (x3:LB):Option (List (Int×(Int×LB))):=
 if decide (x1=0) && (decide (x2=0) && (((x3:LB) == []) && true))then
  some x0
 else
  Option.bind (α:=U84) (
    if decide (0 < (x0.length:Int))then
     cZ (wI ((x0.length:Int) - 1)) <|
     cK (decide (wI ((x0.length:Int) - 1) < (x0.length:Int))) <|
     Option.bind (x0[0+(wI ((x0.length:Int) - 1)).toNat]?) λr1=>
     Option.bind (x0[0+(wI ((x0.length:Int) - 1)).toNat]?) λr2=>
     Option.bind (x0[0+(wI ((x0.length:Int) - 1)).toNat]?) λr3=>
     (F7 r1.1 r2.2.1 r3.2.2).bind λc4=>
     (F7 x1 x2 x3).bind λc5=>
     some (x0,(x0.length:Int),decide (c4=c5),x1,x2,x3)
    else
    some (x0,(x0.length:Int),false,x1,x2,x3)) λv6=>
  if v6.2.2.1 then
   cZ (wI (v6.2.1 - 1)) <|
   cK (decide (wI (v6.2.1 - 1) < (v6.1.length:Int))) <|
   Option.bind (v6.1[0+(wI (v6.2.1 - 1)).toNat]?) λr7=>
   cZ (wI (v6.2.1 - 1)) <|
   cK (decide (wI (v6.2.1 - 1) < (v6.1.length:Int))) <|
   Option.bind (v6.1[0+(wI (v6.2.1 - 1)).toNat]?) λr8=>
   cZ (wI (v6.2.1 - 1)) <|
   cK (decide (wI (v6.2.1 - 1) < (v6.1.length:Int))) <|
   Option.bind (v6.1[0+(wI (v6.2.1 - 1)).toNat]?) λr9=>
   cK (decide ((r9.2.2.length+v6.2.2.2.2.2.length:Nat)<=9223372036854775807)) <|
   cZ (wI (v6.2.1 - 1)) <|
   cK (decide (wI (v6.2.1 - 1) < (v6.1.length:Int))) <|
   Option.bind (v6.1[0+(wI (v6.2.1 - 1)).toNat]?) λr10=>
   Option.bind (v6.1[0+(wI (v6.2.1 - 1)).toNat]?) λr11=>
   Option.bind ((v6.1.set (0+(wI (v6.2.1 - 1)).toNat) (wI (r7.1+v6.2.2.2.1),r11.2))[0+(wI (v6.2.1 - 1)).toNat]?) λr12=>
   Option.bind ((v6.1.set (0+(wI (v6.2.1 - 1)).toNat) (wI (r7.1+v6.2.2.2.1),r11.2))[0+(wI (v6.2.1 - 1)).toNat]?) λr13=>
   Option.bind (((v6.1.set (0+(wI (v6.2.1 - 1)).toNat) (wI (r7.1+v6.2.2.2.1),r11.2)).set (0+(wI (v6.2.1 - 1)).toNat) (r13.1,(wI (r8.2.1+v6.2.2.2.2.1),r13.2.2)))[0+(wI (v6.2.1 - 1)).toNat]?) λr14=>
   Option.bind (((v6.1.set (0+(wI (v6.2.1 - 1)).toNat) (wI (r7.1+v6.2.2.2.1),r11.2)).set (0+(wI (v6.2.1 - 1)).toNat) (r13.1,(wI (r8.2.1+v6.2.2.2.2.1),r13.2.2)))[0+(wI (v6.2.1 - 1)).toNat]?) λr15=>
   some (((v6.1.set (0+(wI (v6.2.1 - 1)).toNat) (wI (r7.1+v6.2.2.2.1),r11.2)).set (0+(wI (v6.2.1 - 1)).toNat) (r13.1,(wI (r8.2.1+v6.2.2.2.2.1),r13.2.2))).set (0+(wI (v6.2.1 - 1)).toNat) (r15.1,(r15.2.1,(r9.2.2:LB)++v6.2.2.2.2.2)))
  else
  cK (Aa (v6.1.length+([(v6.2.2.2.1,(v6.2.2.2.2.1,v6.2.2.2.2.2))]:List (Int×(Int×LB))).length) 32) <|
  some (v6.1++([(v6.2.2.2.1,(v6.2.2.2.2.1,v6.2.2.2.2.2))]:List (Int×(Int×LB))))
def Pw (y:U93):Option (U93⊕(List (Int×(Int×LB)))):=
 if decide (y.2.2.2.1 < y.2.2.1)then
  gX y.2.1 y.2.2.2.1 λr8=>
  (KA y.1 0 0 r8).bind λc9=>
  Option.bind (α:=U93) (
   if decide (y.2.2.2.1 < (y.2.2.2.2.1.length:Int))then
    gX y.2.2.2.2.1 y.2.2.2.1 λr10=>
    Option.bind (α:=U93) (
     if r10 then
      (KA c9 1 0 []).bind λc11=>
      some (c11,y.2.1,y.2.2.1,y.2.2.2.1,y.2.2.2.2.1,y.2.2.2.2.2)
     else
      (KA c9 0 1 []).bind λc12=>
      some (c12,y.2.1,y.2.2.1,y.2.2.2.1,y.2.2.2.2.1,y.2.2.2.2.2)) λv13=>
    some (v13.1,v13.2.1,v13.2.2.1,v13.2.2.2.1,v13.2.2.2.2.1,v13.2.2.2.2.2)
   else
    some (c9,y.2.1,y.2.2.1,y.2.2.2.1,y.2.2.2.2.1,y.2.2.2.2.2)) λv14=>
  some (.inl (v14.1,v14.2.1,v14.2.2.1,wI (v14.2.2.2.1+1),v14.2.2.2.2.1,v14.2.2.2.2.2))
 else
  some (.inr y.1)
def Lw (x0:List Bool) (x1:List LB):Option (List (Int×(Int×LB))):=
 (Ab Pw ([],x1,(x1.length:Int),0,x0,x1)).bind λv15=>
 some v15
def Fe (y:Ae7):Option (Ae7⊕AjC):=
 if decide (y.2.2.2.1 < (y.2.2.1.length:Int))then
  cZ y.1 <|
  cK (decide (y.1 < (y.2.2.2.2.2.2.2.2.1.length:Int))) <|
  Option.bind (y.2.2.2.2.2.2.2.2.1[0+y.1.toNat]?) λr26=>
  Option.bind (α:=Ae7) (
   if r26 then
    cZ y.2.1 <|
    cK (decide (y.2.1 < (y.2.2.2.2.2.2.2.2.2.2.2.length:Int))) <|
    Option.bind (y.2.2.2.2.2.2.2.2.2.2.2[0+y.2.1.toNat]?) λr27=>
    sX y.2.2.2.1 (wI (y.2.2.2.1+1)) (y.2.2.1.length:Int) (y.2.2.1.length) <|
    cK (decide ((r27.length+(((y.2.2.1:LB).drop (y.2.2.2.1.toNat)).take ((wI (y.2.2.2.1+1)).toNat - y.2.2.2.1.toNat)).length:Nat)<=9223372036854775807)) <|
    cZ y.2.1 <|
    cK (decide (y.2.1 < (y.2.2.2.2.2.2.2.2.2.2.2.length:Int))) <|
    Option.bind (y.2.2.2.2.2.2.2.2.2.2.2[0+y.2.1.toNat]?) λr28=>
    Option.bind (y.2.2.2.2.2.2.2.2.2.2.2[0+y.2.1.toNat]?) λr29=>
    some (y.1,y.2.1,y.2.2.1,y.2.2.2.1,y.2.2.2.2.1,y.2.2.2.2.2.1,y.2.2.2.2.2.2.1,y.2.2.2.2.2.2.2.1,y.2.2.2.2.2.2.2.2.1,y.2.2.2.2.2.2.2.2.2.1,y.2.2.2.2.2.2.2.2.2.2.1,y.2.2.2.2.2.2.2.2.2.2.2.set (0+y.2.1.toNat) ((r27:LB)++(((y.2.2.1:LB).drop (y.2.2.2.1.toNat)).take ((wI (y.2.2.2.1+1)).toNat - y.2.2.2.1.toNat))))
   else
    some (y.1,y.2.1,y.2.2.1,y.2.2.2.1,y.2.2.2.2.1,y.2.2.2.2.2.1,y.2.2.2.2.2.2.1,y.2.2.2.2.2.2.2.1,y.2.2.2.2.2.2.2.2.1,y.2.2.2.2.2.2.2.2.2.1,y.2.2.2.2.2.2.2.2.2.2.1,y.2.2.2.2.2.2.2.2.2.2.2)) λv30=>
  cZ v30.2.1 <|
  cK (decide (v30.2.1 < (v30.2.2.2.2.2.2.2.2.2.2.2.length:Int))) <|
  Option.bind (v30.2.2.2.2.2.2.2.2.2.2.2[0+v30.2.1.toNat]?) λr31=>
  cZ (wI (v30.1+1)) <|
  cK (decide (wI (v30.1+1) < (v30.2.2.2.2.2.2.2.2.2.1.length:Int))) <|
  Option.bind (v30.2.2.2.2.2.2.2.2.2.1[0+(wI (v30.1+1)).toNat]?) λr32=>
  cK (decide ((r31.length+r32.length:Nat)<=9223372036854775807)) <|
  cZ v30.2.1 <|
  cK (decide (v30.2.1 < (v30.2.2.2.2.2.2.2.2.2.2.2.length:Int))) <|
  Option.bind (v30.2.2.2.2.2.2.2.2.2.2.2[0+v30.2.1.toNat]?) λr33=>
  Option.bind (v30.2.2.2.2.2.2.2.2.2.2.2[0+v30.2.1.toNat]?) λr34=>
  some (.inl (wI (v30.1+1),v30.2.1,v30.2.2.1,wI (v30.2.2.2.1+1),v30.2.2.2.2.1,v30.2.2.2.2.2.1,v30.2.2.2.2.2.2.1,v30.2.2.2.2.2.2.2.1,v30.2.2.2.2.2.2.2.2.1,v30.2.2.2.2.2.2.2.2.2.1,v30.2.2.2.2.2.2.2.2.2.2.1,v30.2.2.2.2.2.2.2.2.2.2.2.set (0+v30.2.1.toNat) ((r31:LB)++r32)))
 else
  some (.inr (y.1,y.2.1,y.2.2.2.2.1,y.2.2.2.2.2.1,y.2.2.2.2.2.2.1,y.2.2.2.2.2.2.2.1,y.2.2.2.2.2.2.2.2.1,y.2.2.2.2.2.2.2.2.2.1,y.2.2.2.2.2.2.2.2.2.2.1,y.2.2.2.2.2.2.2.2.2.2.2))
def I1 (y:XZ):Option (XZ⊕(List Bool×List LB)):=
 if decide (y.2.2.2.1 < y.2.2.1)then
  Option.bind (α:=XZ⊕(List Bool×List LB)) (
    cZ y.2.2.2.1 <|
    cK (decide (y.2.2.2.1 < (y.2.1.length:Int))) <|
    Option.bind (y.2.1[0+y.2.2.2.1.toNat]?) λr25=>
    (Ab Fe (y.1,y.2.2.2.1,r25,0,y.2.1,y.2.2.1,y.2.2.2.1,y.2.2.2.2.1,y.2.2.2.2.2.1,y.2.2.2.2.2.2.1,y.2.2.2.2.2.2.2.1,y.2.2.2.2.2.2.2.2)).bind λv35=>
    if decide (v35.2.1=(v35.2.2.2.2.2.1.length:Int))then
     some (.inr (v35.2.2.2.2.2.2.2.2.1,v35.2.2.2.2.2.2.2.2.2))
    else
    cZ v35.2.1 <|
    cK (decide (v35.2.1 < (v35.2.2.2.2.2.1.length:Int))) <|
    Option.bind (v35.2.2.2.2.2.1[0+v35.2.1.toNat]?) λr36=>
    if(!r36)then
     cK (Aa (v35.2.2.2.2.2.2.2.2.1.length+([false]:List Bool).length) 1) <|
     some (.inl (v35.1,v35.2.2.1,v35.2.2.2.1,v35.2.2.2.2.1,v35.2.2.2.2.2.1,v35.2.2.2.2.2.2.1,v35.2.2.2.2.2.2.2.1,v35.2.2.2.2.2.2.2.2.1++([false]:List Bool),v35.2.2.2.2.2.2.2.2.2))
    else
    cZ v35.1 <|
    cK (decide (v35.1 < (v35.2.2.2.2.2.2.1.length:Int))) <|
    Option.bind (v35.2.2.2.2.2.2.1[0+v35.1.toNat]?) λr37=>
    cK (Aa (v35.2.2.2.2.2.2.2.2.1.length+([r37]:List Bool).length) 1) <|
    cZ (wI (v35.1+1)) <|
    cK (decide (wI (v35.1+1) < (v35.2.2.2.2.2.2.2.1.length:Int))) <|
    Option.bind (v35.2.2.2.2.2.2.2.1[0+(wI (v35.1+1)).toNat]?) λr38=>
    cZ (wI (v35.2.1+1)) <|
    cK (decide (wI (v35.2.1+1) < (v35.2.2.2.2.2.2.2.2.2.length:Int))) <|
    Option.bind (v35.2.2.2.2.2.2.2.2.2[0+(wI (v35.2.1+1)).toNat]?) λr39=>
    Option.bind (v35.2.2.2.2.2.2.2.2.2[0+(wI (v35.2.1+1)).toNat]?) λr40=>
    some (.inl (wI (v35.1+1),v35.2.2.1,v35.2.2.2.1,v35.2.2.2.2.1,v35.2.2.2.2.2.1,v35.2.2.2.2.2.2.1,v35.2.2.2.2.2.2.2.1,v35.2.2.2.2.2.2.2.2.1++([r37]:List Bool),v35.2.2.2.2.2.2.2.2.2.set (0+(wI (v35.2.1+1)).toNat) r38))) λv41=>
  match v41 with
  | .inl y42=>
   some (.inl (y42.1,y42.2.1,y42.2.2.1,wI (y42.2.2.2.1+1),y42.2.2.2.2.1,y42.2.2.2.2.2.1,y42.2.2.2.2.2.2.1,y42.2.2.2.2.2.2.2.1,y42.2.2.2.2.2.2.2.2))
  | .inr s43=>
   some (.inr (s43.1,s43.2))
 else
  some (.inr (y.2.2.2.2.2.2.2.1,y.2.2.2.2.2.2.2.2))
def Jt (x0 x1:List (Int×(Int×LB))):Option (List (Int×(Int×LB))):=
 (K9 x0).bind λc1=>
 (K9 x1).bind λc2=>
 cZ (c1.2.length:Int) <|
 cK (decide ((c1.2.length:Int)<=(c1.2.length:Int))) <|
 cK (Aa ((c1.2.length:Int).toNat) 16) <|
 cZ 0 <|
 cK (decide (0 < (c2.2.length:Int))) <|
 Option.bind (c2.2[0+Int.toNat 0]?) λr3=>
 cZ 0 <|
 cK (decide (0 < ((List.replicate ((c1.2.length:Int).toNat) ([]:LB)).length:Int))) <|
 Option.bind ((List.replicate ((c1.2.length:Int).toNat) ([]:LB))[0+Int.toNat 0]?) λr4=>
 Option.bind ((List.replicate ((c1.2.length:Int).toNat) ([]:LB))[0+Int.toNat 0]?) λr5=>
 (Ab I1 (0,c1.2,(c1.2.length:Int),0,c1.1,c2.1,c2.2,[],(List.replicate ((c1.2.length:Int).toNat) ([]:LB)).set (0+Int.toNat 0) r3)).bind λv44=>
 Option.bind (α:=List (Int×(Int×LB))) (
  (Lw v44.1 v44.2).bind λc45=>
  some c45) λv46=>
 some v46
def Hd (y:Aee):Option (Aee⊕U0):=match y with
 | (a,b,c,d,e,f,g,h)=>
 if decide (d < c)then
  Option.bind (α:=Aee) (
   cZ d <|
   cK (decide (d < (b.length:Int))) <|
   Option.bind (b[0+d.toNat]?) λr3=>
   Option.bind (b[0+d.toNat]?) λr4=>
   if decide (r3.1=0)then
    gX h (wI (r4.2 - e)) λr5=>
    cZ r4.2 <|
    cK (decide (r4.2 < (a.length:Int))) <|
    Option.bind (a[0+r4.2.toNat]?) λr6=>
    Option.bind (a[0+r4.2.toNat]?) λr7=>
    some (a.set (0+r4.2.toNat) r5,b,c,d,e,f,g,h)
   else
    (FS r3.1 r4.2).bind λc8=>
    cZ (wI ((wI (64 * (wI (r3.1 - 1))))+(wI (2 * r4.2)))) <|
    cK (decide (wI ((wI (64 * (wI (r3.1 - 1))))+(wI (2 * r4.2))) < (a.length:Int))) <|
    Option.bind (a[0+(wI ((wI (64 * (wI (r3.1 - 1))))+(wI (2 * r4.2)))).toNat]?) λr9=>
    cZ (wI ((wI ((wI (64 * (wI (r3.1 - 1))))+(wI (2 * r4.2))))+1)) <|
    cK (decide (wI ((wI ((wI (64 * (wI (r3.1 - 1))))+(wI (2 * r4.2))))+1) < (a.length:Int))) <|
    Option.bind (a[0+(wI ((wI ((wI (64 * (wI (r3.1 - 1))))+(wI (2 * r4.2))))+1)).toNat]?) λr10=>
    (Jt r9 r10).bind λc11=>
    cZ c8 <|
    cK (decide (c8 < (a.length:Int))) <|
    Option.bind (a[0+c8.toNat]?) λr12=>
    Option.bind (a[0+c8.toNat]?) λr13=>
    some (a.set (0+c8.toNat) c11,b,c,d,e,f,g,h)) λ(i,j,k,l,m,n,o,p)=>
  some (.inl (i,j,k,wI (l+1),m,n,o,p))
 else
  some (.inr a)
def Nz (x0:Int) (x1:LB) (x2:List (Int×Int)) (x3:List (List (Int×(Int×LB)))):Option U0:=
 cZ 384 <|
 cK (decide ((384:Int)<=384)) <|
 cK (Aa (Int.toNat 384) 24) <|
 (Pa x0 x1 x2 x3).bind λc1=>
 (Kq x0 c1).bind λc2=>
 (Ab Hd (List.replicate (Int.toNat 384) ([]:List (Int×(Int×LB))),c2,(c2.length:Int),0,x0,x1,x2,x3)).bind λv15=>
 some v15
def Gg (y:U43):Option (U43⊕LI):=
 if decide (y.2.2.2 < y.2.2.1)then
  gX y.2.1 y.2.2.2 λr3=>
  (F7 r3.1 r3.2.1 r3.2.2).bind λc4=>
  cK (Aa (y.1.length+([IntKind.wrap .u8 c4,wB (wI ((wI (r3.1+r3.2.1))+(r3.2.2.length:Int)))]:LI).length) 1) <|
  cK (Aa ((y.1++([IntKind.wrap .u8 c4,wB (wI ((wI (r3.1+r3.2.1))+(r3.2.2.length:Int)))]:LI)).length+(Ay r3.2.2).length) 1) <|
  some (.inl ((y.1++([IntKind.wrap .u8 c4,wB (wI ((wI (r3.1+r3.2.1))+(r3.2.2.length:Int)))]:LI))++(Ay r3.2.2),y.2.1,y.2.2.1,wI (y.2.2.2+1)))
 else
  some (.inr y.1)
def L3 (x0:List (Int×(Int×LB))):Option LI:=
 (Ab Gg ([],x0,(x0.length:Int),0)).bind λv5=>
 some v5
def K7 (y:U89):Option (U89⊕LB):=
 if decide (y.2.2.2.2.2 < y.2.2.2.2.1)then
  gX y.2.2.2.1 y.2.2.2.2.2 λr4=>
  sX y.2.2.1 (wI (y.2.2.1+r4.1)) (y.1.length:Int) (y.1.length) <|
  cK (decide (((((y.1:LB).drop (y.2.2.1.toNat)).take ((wI (y.2.2.1+r4.1)).toNat - y.2.2.1.toNat)).length+r4.2.2.length:Nat)<=9223372036854775807)) <|
  cK (decide ((y.2.1.length+((((y.1:LB).drop (y.2.2.1.toNat)).take ((wI (y.2.2.1+r4.1)).toNat - y.2.2.1.toNat):LB)++r4.2.2).length:Nat)<=9223372036854775807)) <|
  some (.inl (y.1,(y.2.1:LB)++((((y.1:LB).drop (y.2.2.1.toNat)).take ((wI (y.2.2.1+r4.1)).toNat - y.2.2.1.toNat):LB)++r4.2.2),wI (y.2.2.1+(wI (r4.1+r4.2.1))),y.2.2.2.1,y.2.2.2.2.1,wI (y.2.2.2.2.2+1)))
 else
  some (.inr y.2.1)
def HG (x0:LB) (x1:List (Int×(Int×LB))):Option ((LB×Bool)):=
 Option.bind (α:=U21) (
   (EI x1).bind λc1=>
   if(!c1)then
    some (x0,x1,true)
   else
    (Ii x1).bind λc2=>
    some (x0,x1,decide (¬ c2=(x0.length:Int)))) λv3=>
 if v3.2.2 then
  some (([]:LB),false)
 else
  (Ab K7 (v3.1,([]:LB),0,v3.2.1,(v3.2.1.length:Int),0)).bind λv5=>
  some (v5,true)
def Gh (y:U47):Option (U47⊕LB):=
 if decide (y.2.2.2 < y.2.2.1)then
  gX y.2.1 y.2.2.2 λr1=>
  (HG y.1 r1).bind λc2=>
  some (.inl (c2.1,y.2.1,y.2.2.1,wI (y.2.2.2+1)))
 else
  some (.inr y.1)
def JJ (x0:Int) (x1:LB) (x2:List (Int×Int)) (x3:List (List (Int×(Int×LB)))) (x4:Int):Option LB:=
 sX 0 (wI (x4 - x0)) (x3.length:Int) (x3.length) <|
 (Ab Gh (x1,(List.drop (Int.toNat 0) x3).take ((wI (x4 - x0)).toNat - Int.toNat 0),(((List.drop (Int.toNat 0) x3).take ((wI (x4 - x0)).toNat - Int.toNat 0)).length:Int),0)).bind λv3=>
 some v3
def Co (y:Th):Option (Th⊕Ll):=match y with
 | (a,b,c,d,e,f,g,h,i,j,k)=>
 if decide (c < b)then
  gX a c λr1=>
  (FU i r1).bind λc2=>
  Option.bind (α:=Ajp) (
   if c2 then
    some (r1,a,b,c,d,e,f,g,h,i,j,false)
   else
    some (r1,a,b,c,d,e,f,g,h,i,j,k)) λ(l,m,n,o,p,q,r,s,t,u,v,w)=>
  (C3 u l).bind λc4=>
  some (.inl (m,n,wI (o+1),p,q,r,s,t,c4,v,w))
 else
  some (.inr (d,e,f,g,h,i,j,k))
def DL (x0:LI) (x1:LL) (x2 x3 x4 x5 x6 x7:LI) (x8:Bool):Option Ll:=
 (Ab Co (x0,(x0.length:Int),0,x1,x2,x3,x4,x5,x6,x7,x8)).bind λ(a,b,c,d,e,f,g,h)=>
 some (a,b,c,d,e,f,g,h)
def B1 (y:Th):Option (Th⊕AaF):=match y with
 | (a,b,c,d,e,f,g,h,i,j,k)=>
 if decide (c < b)then
  cZ c <|
  cK (decide (c < (a.length:Int))) <|
  Option.bind (a[0+c.toNat]?) λr1=>
  (FU i r1).bind λc2=>
  Option.bind (α:=Ajs) (
   if c2 then
    some (a,r1,b,c,d,e,f,g,h,i,j,false)
   else
    some (a,r1,b,c,d,e,f,g,h,i,j,k)) λ(l,m,n,o,p,q,r,s,t,u,v,w)=>
  (C3 u m).bind λc4=>
  some (.inl (l,n,wI (o+1),p,q,r,s,t,c4,v,w))
 else
  some (.inr (a,d,e,f,g,h,i,j,k))
def BV (x0:LI) (x1:LL) (x2 x3 x4 x5 x6 x7:LI) (x8:Bool):Option AaF:=
 (Ab B1 (x0,(x0.length:Int),0,x1,x2,x3,x4,x5,x6,x7,x8)).bind λ(a,b,c,d,e,f,g,h,i)=>
 some (a,b,c,d,e,f,g,h,i)
def Ct (y:Ag3):Option (Ag3⊕Ahs):=match y with
 | (a,b,c,d,e,f,g,h,i,j,k,l)=>
 if decide (d < c)then
  gX b d λr4=>
  cZ r4 <|
  cK (decide (r4 < (k.length:Int))) <|
  Option.bind (k[0+r4.toNat]?) λr5=>
  cZ r4 <|
  cK (decide (r4 < (k.length:Int))) <|
  Option.bind (k[0+r4.toNat]?) λr6=>
  Option.bind (k[0+r4.toNat]?) λr7=>
  some (.inl (a,b,c,wI (d+1),e,f,g,h,i,j,k.set (0+r4.toNat) (wI (r5+1)),l))
 else
  some (.inr (a,e,f,g,h,i,j,k,l))
def BF (x0:Int) (x1:LL) (x2 x3 x4 x5 x6 x7:LI) (x8:Bool):Option Ahs:=
 Option.bind (α:=AjD) (
   (No x1 x2 x3 x4 x0).bind λ(a,b,c)=>
   some (a,b,c,x1,x2,x3,x4,x5,x6,x7,x8)) λ(d,e,f,g,h,i,j,k,l,m,n)=>
 if(!f)then
  some (([]:LB),g,h,i,j,k,l,m,false)
 else
 sX (wI ((e.length:Int) - 1)) (e.length:Int) (e.length:Int) (e.length) <|
 (DL ((List.drop ((wI ((e.length:Int) - 1)).toNat) e).take ((e.length:Int).toNat - (wI ((e.length:Int) - 1)).toNat)) g h i j k l m n).bind λ(o,p,q,r,s,t,u,v)=>
 sX 0 (wI ((e.length:Int) - 1)) (e.length:Int) (e.length) <|
 (Ab Ct (d,(List.drop (Int.toNat 0) e).take ((wI ((e.length:Int) - 1)).toNat - Int.toNat 0),(((List.drop (Int.toNat 0) e).take ((wI ((e.length:Int) - 1)).toNat - Int.toNat 0)).length:Int),0,o,p,q,r,s,t,u,v)).bind λ(w,x,y,z,a0,b0,c0,d0,e0)=>
 some (w,x,y,z,a0,b0,c0,d0,e0)
def B9 (x0:Int) (x1:LL) (x2 x3 x4 x5 x6 x7:LI) (x8:Bool):Option AaF:=
 (Kh x1 x2 x3 x4 x0).bind λ(a,b,c)=>
 Option.bind (α:=Ajz) (
  if x8 then
   some (a,b,x1,x2,x3,x4,x5,x6,x7,c)
  else
  some (a,b,x1,x2,x3,x4,x5,x6,x7,false)) λ(d,e,f,g,h,i,j,k,l,m)=>
 (BV e f g h i j k l m).bind λ(_,n,o,p,q,r,s,t,u)=>
 some (d,n,o,p,q,r,s,t,u)
def EN (y:Ag9):Option (Ag9⊕(AiV⊕Aa7)):=match y with
 | (a,b,c,d,e,f,g,h,i,j,k,l,m,n,o,p,q,r,s,t,u)=>
 if decide (e < d)then
  cZ e <|
  cK (decide (e < (a.length:Int))) <|
  Option.bind (a[0+e.toNat]?) λr13=>
  Option.bind (a[0+e.toNat]?) λr14=>
  cZ e <|
  cK (decide (e < (c.length:Int))) <|
  Option.bind (c[0+e.toNat]?) λr15=>
  if decide (¬ r13.1=r15)then
   some (.inr (.inr (false,0,0,0,0,0,0,[])))
  else
   some (.inl (a,b,c,d,wI (e+1),f,g,h,i,j,k,l,m,n,o,p,q,r,s,t,u))
 else
  some (.inr (.inl (a,b,f,g,h,i,j,k,l,m,n,o,p,q,r,s,t,u)))
def Gf (y:Yg):Option (Yg⊕WA):=match y with
 | (a,b,c,d,e,f,g,h,i,j,k,l,m,n,o,p,q,r,s,t,u,v,w,x,z,a0,b0,c0,d0,e0,f0,g0,h0,i0,j0,k0,l0,m0,n0,o0,p0)=>
 Option.bind (α:=Ael) (
   if decide (a < j)then
    some (a,p0,b,c,d,e,f,g,h,i,j,k,l,m,n,o,p,q,r,s,t,u,v,w,x,z,a0,b0,c0,d0,e0,f0,g0,h0,i0,j0,k0,l0,m0,n0,o0,p0)
   else
   some (a,false,b,c,d,e,f,g,h,i,j,k,l,m,n,o,p,q,r,s,t,u,v,w,x,z,a0,b0,c0,d0,e0,f0,g0,h0,i0,j0,k0,l0,m0,n0,o0,p0)) λ(q0,r0,s0,t0,u0,v0,w0,x0,y0,z0,a1,b1,c1,d1,e1,f1,g1,h1,i1,j1,k1,l1,m1,n1,o1,p1,q1,r1,s1,t1,u1,v1,w1,x1,y1,z1,a2,b2,c2,d2,e2,f2)=>
 if r0 then
  (FS 0 q0).bind λc32=>
  (DK i1 j1 k1 l1 m1 n1 o1 p1 q1 r1 s1 t1 [] [] [] c32).bind λc33=>
  (B9 c33 y1 z1 a2 b2 c2 d2 e2 f2).bind λ(g2,h2,i2,j2,k2,l2,m2,n2,o2)=>
  (Ig g2).bind λc35=>
  Option.bind (α:=Ajo) (
    if o2 then
     some (q0,c35.1,s0,t0,u0,v0,w0,x0,y0,z0,a1,b1,c1,d1,e1,f1,g1,h1,i1,j1,k1,l1,m1,n1,o1,p1,q1,r1,s1,t1,u1,v1,w1,x1,h2,i2,j2,k2,l2,m2,n2,c35.2)
    else
    some (q0,c35.1,s0,t0,u0,v0,w0,x0,y0,z0,a1,b1,c1,d1,e1,f1,g1,h1,i1,j1,k1,l1,m1,n1,o1,p1,q1,r1,s1,t1,u1,v1,w1,x1,h2,i2,j2,k2,l2,m2,n2,false)) λ(p2,q2,r2,s2,t2,u2,v2,w2,x2,y2,z2,a3,b3,c3,d3,e3,f3,g3,h3,i3,j3,k3,l3,m3,n3,o3,p3,q3,r3,s3,t3,u3,v3,w3,x3,y3,z3,a4,b4,c4,d4,e4)=>
  cK (Aa (w3.length+([q2]:List (List (Int×(Int×LB)))).length) 24) <|
  some (.inl (wI (p2+1),r2,s2,t2,u2,v2,w2,x2,y2,z2,a3,b3,c3,d3,e3,f3,g3,h3,i3,j3,k3,l3,m3,n3,o3,p3,q3,r3,s3,t3,u3,v3,w3++([q2]:List (List (Int×(Int×LB)))),x3,y3,z3,a4,b4,c4,d4,e4))
 else
  some (.inr (s0,t0,u0,v0,w0,x0,y0,z0,a1,b1,c1,d1,e1,f1,g1,h1,i1,j1,k1,l1,m1,n1,o1,p1,q1,r1,s1,t1,u1,v1,w1,x1,y1,z1,a2,b2,c2,d2,e2,f2))
def EU (y:AhS):Option (AhS⊕(WA⊕Aa7)):=match y with
 | (a,b,c,d,e,f,g,h,i,j,k,l,m,n,o,p,q,r,s,t,u,v,w,x,z,a0,b0,c0,d0,e0,f0,g0,h0,i0,j0,k0,l0,m0,n0,o0,p0,q0,r0,s0)=>
 if decide (d < c)then
  cZ d <|
  cK (decide (d < (b.length:Int))) <|
  Option.bind (b[0+d.toNat]?) λr42=>
  Option.bind (b[0+d.toNat]?) λr43=>
  Option.bind (α:=AiT) (
    if decide (0 < r42.1)then
     (FS r42.1 r43.2).bind λc44=>
     (DK u v w x z a0 b0 c0 d0 e0 f0 g0 [] [] [] c44).bind λc45=>
     (B9 c45 l0 m0 n0 o0 p0 q0 r0 s0).bind λ(t0,u0,v0,w0,x0,y0,z0,a1,b1)=>
     (FS r42.1 r43.2).bind λc47=>
     cZ c47 <|
     cK (decide (c47 < (a.length:Int))) <|
     Option.bind (a[0+c47.toNat]?) λr48=>
     (L3 r48).bind λc49=>
     some (a,b,c,d,(!((AF t0:LB) == (AF c49))),e,f,g,h,i,j,k,l,m,n,o,p,q,r,s,t,u,v,w,x,z,a0,b0,c0,d0,e0,f0,g0,h0,i0,j0,k0,u0,v0,w0,x0,y0,z0,a1,b1)
    else
    some (a,b,c,d,false,e,f,g,h,i,j,k,l,m,n,o,p,q,r,s,t,u,v,w,x,z,a0,b0,c0,d0,e0,f0,g0,h0,i0,j0,k0,l0,m0,n0,o0,p0,q0,r0,s0)) λ(c1,d1,e1,f1,g1,h1,i1,j1,k1,l1,m1,n1,o1,p1,q1,r1,s1,t1,u1,v1,w1,x1,y1,z1,a2,b2,c2,d2,e2,f2,g2,h2,i2,j2,k2,l2,m2,n2,o2,p2,q2,r2,s2,t2,u2)=>
  if g1 then
   some (.inr (.inr (false,0,0,0,0,0,0,[])))
  else
   some (.inl (c1,d1,e1,wI (f1+1),h1,i1,j1,k1,l1,m1,n1,o1,p1,q1,r1,s1,t1,u1,v1,w1,x1,y1,z1,a2,b2,c2,d2,e2,f2,g2,h2,i2,j2,k2,l2,m2,n2,o2,p2,q2,r2,s2,t2,u2))
 else
  some (.inr (.inl (e,f,g,h,i,j,k,l,m,n,o,p,q,r,s,t,u,v,w,x,z,a0,b0,c0,d0,e0,f0,g0,h0,i0,j0,k0,l0,m0,n0,o0,p0,q0,r0,s0)))
def EX (y:Yg):Option (Yg⊕(Ajj⊕Aa7)):=match y with
 | (a,b,c,d,e,f,g,h,i,j,k,l,m,n,o,p,q,r,s,t,u,v,w,x,z,a0,b0,c0,d0,e0,f0,g0,h0,i0,j0,k0,l0,m0,n0,o0,p0)=>
 if decide (a<=j)then
  Option.bind (α:=Ael) (
    cK (decide (¬ k=0)) <|
    if decide (Int.tmod a k=0)then
     (DK r s t u v w x z a0 b0 c0 d0 [] [] [] (wI (384+a))).bind λc54=>
     (BF c54 i0 j0 k0 l0 m0 n0 o0 p0).bind λ(q0,r0,s0,t0,u0,v0,w0,x0,y0)=>
     (JJ e0 f0 g0 h0 a).bind λc56=>
     some (a,(!((q0:LB) == c56)),b,c,d,e,f,g,h,i,j,k,l,m,n,o,p,q,r,s,t,u,v,w,x,z,a0,b0,c0,d0,e0,f0,g0,h0,r0,s0,t0,u0,v0,w0,x0,y0)
    else
    some (a,false,b,c,d,e,f,g,h,i,j,k,l,m,n,o,p,q,r,s,t,u,v,w,x,z,a0,b0,c0,d0,e0,f0,g0,h0,i0,j0,k0,l0,m0,n0,o0,p0)) λ(z0,a1,b1,c1,d1,e1,f1,g1,h1,i1,j1,k1,l1,m1,n1,o1,p1,q1,r1,s1,t1,u1,v1,w1,x1,y1,z1,a2,b2,c2,d2,e2,f2,g2,h2,i2,j2,k2,l2,m2,n2,o2)=>
  if a1 then
   some (.inr (.inr (false,0,0,0,0,0,0,[])))
  else
   some (.inl (wI (z0+1),b1,c1,d1,e1,f1,g1,h1,i1,j1,k1,l1,m1,n1,o1,p1,q1,r1,s1,t1,u1,v1,w1,x1,y1,z1,a2,b2,c2,d2,e2,f2,g2,h2,i2,j2,k2,l2,m2,n2,o2))
 else
  some (.inr (.inl (b,c,d,e,f,g,h,n,o,p,q,r,s,t,u,v,w,x,z,a0,b0,c0,d0,e0,f0,g0,h0,i0,j0,k0,l0,m0,n0,o0,p0)))
def E7 (y:AeK):Option (AeK⊕(Ajg⊕Aa7)):=match y with
 | (a,b,c,d,e,f,g,h,i,j,k,l,m,n,o,p,q,r,s,t,u,v,w,x,z,a0,b0,c0,d0,e0,f0,g0,h0,i0,j0,k0,l0)=>
 if decide (c < b)then
  cZ c <|
  cK (decide (c < (a.length:Int))) <|
  Option.bind (a[0+c.toNat]?) λr61=>
  Option.bind (α:=AiR) (
    if decide (0 < r61)then
     (FU k0 c).bind λc62=>
     if c62 then
      some (c,r61,a,b,c,true,d,e,f,g,h,i,j,k,l,m,n,o,p,q,r,s,t,u,v,w,x,z,a0,b0,c0,d0,e0,f0,g0,h0,i0,j0,k0,l0)
     else
     gX k c λr63=>
     gX r63 1 λr64=>
     some (c,r61,a,b,c,decide (¬ IntKind.wrap .i64 r64=r61),d,e,f,g,h,i,j,k,l,m,n,o,p,q,r,s,t,u,v,w,x,z,a0,b0,c0,d0,e0,f0,g0,h0,i0,j0,k0,l0)
    else
    some (c,r61,a,b,c,false,d,e,f,g,h,i,j,k,l,m,n,o,p,q,r,s,t,u,v,w,x,z,a0,b0,c0,d0,e0,f0,g0,h0,i0,j0,k0,l0)) λ(m0,n0,o0,p0,q0,r0,s0,t0,u0,v0,w0,x0,y0,z0,a1,b1,c1,d1,e1,f1,g1,h1,i1,j1,k1,l1,m1,n1,o1,p1,q1,r1,s1,t1,u1,v1,w1,x1,y1,z1)=>
  if r0 then
   some (.inr (.inr (false,0,0,0,0,0,0,[])))
  else
   Option.bind (α:=Ai4) (
     if decide (0 < n0)then
      (C3 y1 m0).bind λc66=>
      some (m0,o0,p0,q0,s0,t0,u0,v0,w0,x0,y0,z0,a1,b1,c1,d1,e1,f1,g1,h1,i1,j1,k1,l1,m1,n1,o1,p1,q1,r1,s1,t1,u1,v1,w1,x1,c66,z1)
     else
      some (m0,o0,p0,q0,s0,t0,u0,v0,w0,x0,y0,z0,a1,b1,c1,d1,e1,f1,g1,h1,i1,j1,k1,l1,m1,n1,o1,p1,q1,r1,s1,t1,u1,v1,w1,x1,y1,z1)) λ(a2,b2,c2,d2,e2,f2,g2,h2,i2,j2,k2,l2,m2,n2,o2,p2,q2,r2,s2,t2,u2,v2,w2,x2,y2,z2,a3,b3,c3,d3,e3,f3,g3,h3,i3,j3,k3,l3)=>
   Option.bind (α:=AgJ) (
     if decide (33<=a2)then
      (GA m2 a2).bind λc68=>
      (FU k3 a2).bind λc69=>
      some (b2,c2,d2,(c68 != c69),e2,f2,g2,h2,i2,j2,k2,l2,m2,n2,o2,p2,q2,r2,s2,t2,u2,v2,w2,x2,y2,z2,a3,b3,c3,d3,e3,f3,g3,h3,i3,j3,k3,l3)
     else
     some (b2,c2,d2,false,e2,f2,g2,h2,i2,j2,k2,l2,m2,n2,o2,p2,q2,r2,s2,t2,u2,v2,w2,x2,y2,z2,a3,b3,c3,d3,e3,f3,g3,h3,i3,j3,k3,l3)) λ(m3,n3,o3,p3,q3,r3,s3,t3,u3,v3,w3,x3,y3,z3,a4,b4,c4,d4,e4,f4,g4,h4,i4,j4,k4,l4,m4,n4,o4,p4,q4,r4,s4,t4,u4,v4,w4,x4)=>
   if p3 then
    some (.inr (.inr (false,0,0,0,0,0,0,[])))
   else
    some (.inl (m3,n3,wI (o3+1),q3,r3,s3,t3,u3,v3,w3,x3,y3,z3,a4,b4,c4,d4,e4,f4,g4,h4,i4,j4,k4,l4,m4,n4,o4,p4,q4,r4,s4,t4,u4,v4,w4,x4))
 else
  some (.inr (.inl (d,e,f,g,h,i,j,o,p,q,r,s,t,u,v,w,x,z,a0,b0,c0,d0,e0,f0,g0,h0,i0,j0,k0,a,l0)))
def Dt (x0:LL) (x1:Int) (x2:Bool) (x3:Int):Option Ai5:=
 Option.bind (α:=Ai8) (
   (Im x0 x1 x2 x3).bind λc1=>
   if(!c1)then
    some (true,x0,x1,x2,x3,0,0,0,0,0,0,[])
   else
    (Jv x0 x1 x2 x3).bind λc2=>
    some (decide (0 < (c2.length:Int)),x0,x1,x2,x3,0,0,0,0,0,0,[])) λ(a,b,c,d,e,f,g,h,i,j,k,l)=>
 if a then
  some (false,0,0,0,0,0,[],[],[],[],[],0,[],[],[],[])
 else
 gX b 0 λr4=>
 (LY r4).bind λ(m,n,o,p,q,r)=>
 Option.bind (α:=Ajl) (
   (Js b c d e).bind λ(s,t,u)=>
   some (m,s,f,g,h,i,j,k,l,n,o,p,q,r,t,u,[],[])) λ(v,w,x,y,z,a0,b0,c0,d0,e0,f0,g0,h0,i0,j0,k0,l0,m0)=>
 Option.bind (α:=AgR) (
   if(!v)then
    some (true,x,y,z,a0,b0,c0,d0,e0,f0,g0,h0,i0,j0,k0,l0,m0)
   else
   if(!w)then
    some (true,x,y,z,a0,b0,c0,d0,e0,f0,g0,h0,i0,j0,k0,l0,m0)
   else
    (G4 j0 k0 l0 m0 h0).bind λc8=>
    some ((!c8),x,y,z,a0,b0,c0,d0,e0,f0,g0,h0,i0,j0,k0,l0,m0)) λ(n0,o0,p0,q0,r0,s0,t0,u0,v0,w0,y0,z0,a1,b1,d1,e1,f1)=>
 if n0 then
  some (false,0,0,0,0,0,[],[],[],[],[],0,[],[],[],[])
 else
  (Ni b1 d1 e1 f1 z0).bind λc10=>
  (L0 b1 d1 e1 f1 z0).bind λc11=>
  (Jm v0 w0 y0).bind λc12=>
  if decide (¬ (c10.1.length:Int)=(c12.length:Int))then
   some (false,0,0,0,0,0,[],[],[],[],[],0,[],[],[],[])
  else
   (Ab EN (c10.1,c11.1,c12,(c10.1.length:Int),0,o0,p0,q0,r0,s0,t0,u0,v0,w0,y0,z0,a1,b1,d1,e1,f1)).bind λv16=>
   match v16 with
   | .inl (g1,h1,i1,j1,k1,l1,m1,n1,o1,p1,q1,r1,s1,t1,u1,v1,w1,y1)=>
    cZ (u1.length:Int) <|
    cK (decide ((u1.length:Int)<=(u1.length:Int))) <|
    cK (Aa ((u1.length:Int).toNat) 8) <|
    (BV h1 u1 v1 w1 y1 [] [] (List.replicate ((u1.length:Int).toNat) (0:Int)) true).bind λ(_,z1,a2,b2,d2,e2,f2,g2,h2)=>
    (BF t1 z1 a2 b2 d2 e2 f2 g2 h2).bind λ(i2,j2,k2,l2,m2,n2,o2,p2,q2)=>
    (DK p1 q1 r1 s1 t1 u1 v1 w1 y1 g1 0 [] [] [] [] 448).bind λc21=>
    (B9 c21 j2 k2 l2 m2 n2 o2 p2 q2).bind λ(r2,s2,t2,u2,v2,w2,y2,z2,a3)=>
    (J7 r2).bind λc23=>
    Option.bind (α:=AiZ) (
      if a3 then
       some (i1,j1,k1,l1,m1,n1,o1,p1,q1,r1,s1,t1,u1,v1,w1,y1,p1,q1,r1,s1,t1,u1,v1,w1,y1,g1,0,[],p1,i2,c23.1,s2,t2,u2,v2,w2,y2,z2,c23.2)
      else
      some (i1,j1,k1,l1,m1,n1,o1,p1,q1,r1,s1,t1,u1,v1,w1,y1,p1,q1,r1,s1,t1,u1,v1,w1,y1,g1,0,[],p1,i2,c23.1,s2,t2,u2,v2,w2,y2,z2,false)) λ(b3,c3,d3,e3,f3,g3,h3,i3,j3,k3,l3,m3,n3,o3,p3,q3,r3,s3,t3,u3,w3,y3,z3,a4,b4,c4,d4,e4,f4,g4,h4,i4,j4,k4,l4,m4,n4,o4,p4)=>
    (Ab Gf (i3,b3,c3,d3,e3,f3,g3,h3,i3,j3,k3,l3,m3,n3,o3,p3,q3,r3,s3,t3,u3,w3,y3,z3,a4,b4,c4,d4,e4,f4,g4,h4,[],i4,j4,k4,l4,m4,n4,o4,p4)).bind λ(q4,s4,t4,u4,v4,w4,x4,y4,z4,a5,b5,d5,e5,f5,g5,h5,i5,j5,k5,l5,m5,n5,o5,p5,q5,r5,s5,t5,u5,v5,w5,x5,y5,z5,a6,b6,d6,e6,f6,g6)=>
    Option.bind (α:=Ahn) (
      if(!g6)then
       some (true,q4,s4,t4,u4,v4,w4,x4,y4,z4,a5,b5,d5,e5,f5,g5,h5,i5,j5,k5,l5,m5,n5,o5,p5,q5,r5,s5,t5,u5,v5,w5,x5,y5,z5,a6,b6,d6,e6,f6,g6)
      else
       (HF u5 v5 w5 x5).bind λc38=>
       some ((!c38),q4,s4,t4,u4,v4,w4,x4,y4,z4,a5,b5,d5,e5,f5,g5,h5,i5,j5,k5,l5,m5,n5,o5,p5,q5,r5,s5,t5,u5,v5,w5,x5,y5,z5,a6,b6,d6,e6,f6,g6)) λ(h6,i6,j6,k6,l6,m6,n6,o6,p6,q6,r6,s6,t6,u6,v6,w6,x6,y6,z6,a7,b7,c7,d7,e7,f7,g7,h7,i7,j7,k7,l7,m7,n7,o7,p7,q7,r7,s7,t7,u7,w7)=>
    if h6 then
     some (false,0,0,0,0,0,[],[],[],[],[],0,[],[],[],[])
    else
     (Nz k7 l7 m7 n7).bind λc40=>
     (Kq p6 q6).bind λc41=>
     (Ab EU (c40,c41,(c41.length:Int),0,i6,j6,k6,l6,m6,n6,o6,p6,q6,r6,s6,t6,u6,v6,w6,x6,y6,z6,a7,b7,c7,d7,e7,f7,g7,h7,i7,j7,k7,l7,m7,n7,o7,p7,q7,r7,s7,t7,u7,w7)).bind λv51=>
     match v51 with
     | .inl (x7,y7,z7,a8,b8,d8,e8,f8,g8,h8,i8,j8,k8,l8,m8,n8,o8,p8,q8,r8,s8,t8,u8,v8,w8,x8,y8,z8,a9,b9,c9,d9,e9,f9,g9,h9,i9,j9,k9,l9)=>
      (Ab EX (wI (f8+1),x7,y7,z7,a8,b8,d8,e8,f8,g8,h8,i8,j8,k8,l8,m8,n8,o8,p8,q8,r8,s8,t8,u8,v8,w8,x8,y8,z8,a9,b9,c9,d9,e9,f9,g9,h9,i9,j9,k9,l9)).bind λv58=>
      match v58 with
      | .inl (m9,n9,o9,p9,q9,r9,s9,t9,u9,w9,x9,y9,z9,a10,b10,d10,e10,f10,g10,h10,i10,j10,k10,l10,m10,n10,o10,p10,q10,r10,s10,t10,u10,v10,w10)=>
       (Ab E7 (v10,(v10.length:Int),0,m9,n9,o9,p9,q9,r9,s9,t9,u9,w9,x9,y9,z9,a10,b10,d10,e10,f10,g10,h10,i10,j10,k10,l10,m10,n10,o10,p10,q10,r10,s10,t10,u10,w10)).bind λv71=>
       match v71 with
       | .inl (_,_,_,_,_,_,_,x10,y10,z10,a11,b11,d11,e11,f11,g11,h11,_,_,i11,j11,k11,l11,_,_,_,_,_,m11,_,n11)=>
        some (n11,x10,y10,z10,a11,b11,d11,e11,f11,g11,h11,i11,j11,k11,l11,m11)
       | .inr (o11,p11,q11,r11,s11,t11,u11,v11)=>
        some (o11,p11,q11,r11,s11,t11,[],[],[],[],[],u11,v11,[],[],[])
      | .inr (w11,x11,y11,z11,a12,b12,d12,e12)=>
       some (w11,x11,y11,z11,a12,b12,[],[],[],[],[],d12,e12,[],[],[])
     | .inr (f12,g12,h12,i12,j12,k12,l12,m12)=>
      some (f12,g12,h12,i12,j12,k12,[],[],[],[],[],l12,m12,[],[],[])
   | .inr (n12,o12,p12,q12,r12,s12,t12,u12)=>
    some (n12,o12,p12,q12,r12,s12,[],[],[],[],[],t12,u12,[],[],[])
def Dl (x0:LL) (x1:Int) (x2:Bool) (x3 x4 x5:Int):Option AgT:=
 (Dt x0 x1 x2 x3).bind λ(a,b,c,d,e,f,g,h,i,j,k,l,m,n,o,p)=>
 Option.bind (α:=Ai3) (
   if(!a)then
    some (x4,x5,true,x0,x1,x2,x3,0,0,0,0,0,0,[],b,c,d,e,f,g,h,i,j,k,l,m,n,o,p)
   else
   some (x4,x5,decide (999999900 < x1),x0,x1,x2,x3,0,0,0,0,0,0,[],b,c,d,e,f,g,h,i,j,k,l,m,n,o,p)) λ(q,r,s,_,_,t,_,u,v,w,x,y,z,a0,b0,c0,d0,e0,f0,g0,h0,i0,j0,k0,l0,m0,n0,o0,p0)=>
 if s then
  some (1,b0,c0,d0,e0,f0,g0,h0,i0,j0,k0,l0,m0,n0,o0,p0)
 else
 if(!t)then
  some (2,b0,c0,d0,e0,f0,g0,h0,i0,j0,k0,l0,m0,n0,o0,p0)
 else
  Option.bind (α:=AiQ) (
    (Bt q b0 r).bind λc3=>
    if(!c3)then
     some (true,u,v,w,x,y,z,a0,b0,c0,d0,e0,f0,g0,h0,i0,j0,k0,l0,m0,n0,o0,p0)
    else
    some (decide (c0 < r),u,v,w,x,y,z,a0,b0,c0,d0,e0,f0,g0,h0,i0,j0,k0,l0,m0,n0,o0,p0)) λ(q0,_,_,_,_,_,_,_,r0,s0,t0,u0,v0,w0,y0,z0,a1,b1,d1,e1,f1,g1,h1)=>
  if q0 then
   some (3,r0,s0,t0,u0,v0,w0,y0,z0,a1,b1,d1,e1,f1,g1,h1)
  else
   some (0,r0,s0,t0,u0,v0,w0,y0,z0,a1,b1,d1,e1,f1,g1,h1)
def EL (y:U33):Option (U33⊕U33):=match y with
 | (a,b,c,d)=>
 Option.bind (α:=U56) (
   cZ (IntKind.wrap .u64 d) <|
   cK (decide (¬ wI (1 * 2 ^ (min ((IntKind.wrap .u64 d).toNat) (IntKind.bits .i64)))=0)) <|
   if decide (¬ Int.tmod a (wI (1 * 2 ^ (min ((IntKind.wrap .u64 d).toNat) (IntKind.bits .i64))))=0)then
    some (a,b,c,d,true)
   else
   cZ (IntKind.wrap .u64 d) <|
   some (a,b,c,d,decide (b < (wI (a+(wI (1 * 2 ^ (min ((IntKind.wrap .u64 d).toNat) (IntKind.bits .i64))))))))) λ(e,f,g,h,i)=>
 if i then
  some (.inl (e,f,g,wI (h - 1)))
 else
  some (.inr (e,f,g,h))
def Dr (y:(Int×(Int×List (Int×Int)))):Option ((Int×(Int×List (Int×Int)))⊕(List (Int×Int))):=match y with
 | (a,b,c)=>
 if decide (a < b)then
  (Ab EL (a,b,c,5)).bind λ(d,e,f,g)=>
  cZ (IntKind.wrap .u64 g) <|
  cK (Aa (f.length+([(g,Int.fdiv d (2 ^ (min ((IntKind.wrap .u64 g).toNat) (IntKind.bits .i64))))]:List (Int×Int)).length) 16) <|
  cZ (IntKind.wrap .u64 g) <|
  some (.inl (wI (d+(wI (1 * 2 ^ (min ((IntKind.wrap .u64 g).toNat) (IntKind.bits .i64))))),e,f++([(g,Int.fdiv d (2 ^ (min ((IntKind.wrap .u64 g).toNat) (IntKind.bits .i64))))]:List (Int×Int))))
 else
  some (.inr c)
def LK (x0 x1:Int):Option (List (Int×Int)):=
 (Ab Dr (x0,x1,[])).bind λv5=>
 some v5
def ET (y:AdR):Option (AdR⊕AgS):=match y with
 | (a,b,c,d,e,f,g,h,i,j,k,l,m,n,o,p,q,r)=>
 if decide (c<=a)then
  cK (decide (¬ f=0)) <|
  Option.bind (α:=AdR) (
   if decide (Int.tmod c f=0)then
    some (a,c,c,d,e,f,g,h,i,j,k,l,m,n,o,p,q,r)
   else
    some (a,b,c,d,e,f,g,h,i,j,k,l,m,n,o,p,q,r)) λ(s,t,u,v,w,x,z,a0,b0,c0,d0,e0,f0,g0,h0,i0,j0,k0)=>
  some (.inl (s,t,wI (u+1),v,w,x,z,a0,b0,c0,d0,e0,f0,g0,h0,i0,j0,k0))
 else
  some (.inr (a,b,d,e,f,g,h,i,j,k,l,m,n,o,p,q,r))
def Ha (x0:LL) (x1:Int) (x2:Bool) (x3 x4:Int):Option ((LB×(Int×Int))):=
 (Dl x0 x1 x2 x3 x4 x4).bind λ(a,b,c,d,e,f,g,h,i,j,k,l,m,n,o,p)=>
 if decide (¬ a=0)then
  some (([]:LB),0,a)
 else
  (Ab ET (x4,b,wI (b+1),b,c,d,e,f,g,h,i,j,k,l,m,n,o,p)).bind λ(q,r,_,_,_,_,_,_,_,_,_,_,s,t,u,v,_)=>
  (JJ s t u v q).bind λc4=>
  (LK r q).bind λc5=>
  some (c4,(c5.length:Int),0)
def Bo (x0 x1 x2:Int):Option (Bool):=
 Option.bind (α:=Bool) (
  if decide (x1<=x0)then
   some (decide (x0<=x2))
  else
  some false) λv1=>
 some v1
def Ox (x0:LI):Option (Bool):=
 some (decide (¬ (x0.length:Int)=128))
def CA (y:(LL×(Int×Int))):Option ((LL×(Int×Int))⊕(Unit⊕Int)):=
 if decide (y.2.2 < y.2.1)then
  gX y.1 y.2.2 λr1=>
  (Ox r1).bind λc2=>
  if c2 then
   some (.inr (.inr y.2.2))
  else
   some (.inl (y.1,y.2.1,wI (y.2.2+1)))
 else
  some (.inr (.inl ()))
def Bg (x0:LL):Option (Int):=
 (Ab CA (x0,(x0.length:Int),0)).bind λv3=>
 match v3 with
 | .inl y4=>
  some (-1)
 | .inr s5=>
  some s5
def Ba (x0:LL):Option (Bool):=
 (Bg x0).bind λc1=>
 some (decide (0<=c1))
def Et (x0:LL):Option (Bool):=
 Option.bind (α:=Bool) (
  (Bo (x0.length:Int) 40 160).bind λc1=>
  if c1 then
   (Ba x0).bind λc2=>
   some (!c2)
  else
  some false) λv3=>
 some v3
def GM (x0:LL) (x1:Int) (x2:Bool) (x3:Int):Option (Bool):=
 Option.bind (α:=Bool) (
  (Et x0).bind λc1=>
  if c1 then
   (Bo x1 0 1000000000).bind λc2=>
   if c2 then
    (Bo x3 (-1) 1000000).bind λc3=>
    some c3
   else
   some false
  else
  some false) λv4=>
 some v4
def Cw (x0:LI) (x1:Int):Option (Int):=
 gX x0 x1 λr1=>
 cZ 8 <|
 gX x0 (wI (x1+1)) λr2=>
 some (wI (((BitVec.ofInt (IntKind.bits .i64) (wI ((IntKind.wrap .i64 r1) * 2 ^ (min (Int.toNat 8) (IntKind.bits .i64)))) ||| BitVec.ofInt (IntKind.bits .i64) (IntKind.wrap .i64 r2)).toNat:Int)))
def Gy (y:U46):Option (U46⊕(List (Int×LI)⊕Bool)):=match y with
 | (a,b,c,d)=>
 if decide (d < c)then
  gX b d λr1=>
  Option.bind (α:=U68) (
    if decide (r1.1 < 0)then
     some (a,b,c,d,true)
    else
    if decide (160<=r1.1)then
     some (a,b,c,d,true)
    else
    if decide (1 < r1.1)then
     if decide (r1.1 < 33)then
      some (a,b,c,d,true)
     else
     if decide (0 < d)then
      gX a (wI (d - 1)) λr2=>
      if decide (r1.1<=r2.1)then
       some (a,b,c,d,true)
      else
      some (a,b,c,d,decide (¬ (r1.2.length:Int)=128))
     else
     some (a,b,c,d,decide (¬ (r1.2.length:Int)=128))
    else
    if decide (0 < d)then
     gX a (wI (d - 1)) λr4=>
     if decide (r1.1<=r4.1)then
      some (a,b,c,d,true)
     else
     some (a,b,c,d,decide (¬ (r1.2.length:Int)=128))
    else
    some (a,b,c,d,decide (¬ (r1.2.length:Int)=128))) λ(e,f,g,h,i)=>
  if i then
   some (.inr (.inr false))
  else
   some (.inl (e,f,g,wI (h+1)))
 else
  some (.inr (.inl a))
def Ls (x0:List (Int×LI)):Option (Bool):=
 (Ab Gy (x0,x0,(x0.length:Int),0)).bind λv6=>
 match v6 with
 | .inl y7=>
  (Bo (y7.length:Int) 1 30).bind λc9=>
  some c9
 | .inr s8=>
  some s8
def N3 (x0:LL) (x1:Int) (x2:Bool) (x3 x4:Int):Option (Bool):=
 (Bo x4 0 (wI ((x0.length:Int) - 1))).bind λc1=>
 some c1
def Jq (x0:LL) (x1:Int) (x2:Bool) (x3:Int) (x4:List (Int×LI)):Option (Bool):=
 Option.bind (α:=Bool) (
  (GM x0 x1 x2 x3).bind λc1=>
  if c1 then
   (Ls x4).bind λc2=>
   if c2 then
    gX x4 (wI ((x4.length:Int) - 1)) λr3=>
    (N3 x0 x1 x2 x3 r3.1).bind λc4=>
    some c4
   else
   some false
  else
  some false) λv5=>
 some v5
def Lu (x0:Int):Option LI:=
 cZ 8 <|
 some [wB (Int.fdiv x0 (2 ^ (min (Int.toNat 8) (IntKind.bits .i64)))),IntKind.wrap .u8 x0]
def K4 (x0:LI) (x1:Int):Option LI:=
 cZ (wI (x1 - (x0.length:Int))) <|
 cK (Aa (x0.length+(List.replicate ((wI (x1 - (x0.length:Int))).toNat) (0:Int)).length) 1) <|
 some (x0++(List.replicate ((wI (x1 - (x0.length:Int))).toNat) (0:Int)))
def Hb (y:(Int×(LI×(Int×Int)))):Option ((Int×(LI×(Int×Int)))⊕Int):=
 if decide (y.2.2.2 < y.2.2.1)then
  gX y.2.1 y.2.2.2 λr1=>
  some (.inl (IntKind.wrap .u32 ((IntKind.wrap .u32 (((BitVec.ofInt (IntKind.bits .u32) y.1 ^^^ BitVec.ofInt (IntKind.bits .u32) (IntKind.wrap .u32 r1)).toNat:Int))) * 16777619),y.2.1,y.2.2.1,wI (y.2.2.2+1)))
 else
  some (.inr y.1)
def K5 (x0:Int) (x1:LI):Option (Int):=
 (Ab Hb (x0,x1,(x1.length:Int),0)).bind λv2=>
 some v2
def Iz (x0:LI):Option (Int):=
 (K5 2166136261 x0).bind λc1=>
 some c1
def Sa (x0:Int):Option LI:=
 cZ 24 <|
 cZ 16 <|
 cZ 8 <|
 some [wB (Int.fdiv x0 (2 ^ (min (Int.toNat 24) (IntKind.bits .u32)))),wB (Int.fdiv x0 (2 ^ (min (Int.toNat 16) (IntKind.bits .u32)))),wB (Int.fdiv x0 (2 ^ (min (Int.toNat 8) (IntKind.bits .u32)))),IntKind.wrap .u8 x0]
def Hi (y:U69):Option (U69⊕U3):=
 if decide (y.2.2.2.2 < y.2.2.2.1)then
  gX y.2.2.1 y.2.2.2.2 λr1=>
  (Lu r1.1).bind λc2=>
  cK (Aa (y.2.1.length+c2.length) 1) <|
  some (.inl (y.1,y.2.1++c2,y.2.2.1,y.2.2.2.1,wI (y.2.2.2.2+1)))
 else
  some (.inr (y.1,y.2.1))
def He (y:U58):Option (U58⊕(LI×Int)):=
 if decide (y.2.2.2.2 < y.2.2.2.1)then
  gX y.2.2.1 y.2.2.2.2 λr6=>
  (K5 y.2.1 r6.2).bind λc7=>
  some (.inl (y.1,c7,y.2.2.1,y.2.2.2.1,wI (y.2.2.2.2+1)))
 else
  some (.inr (y.1,y.2.1))
def NE (x0:List (Int×LI)):Option LI:=
 (Ab Hi (x0,[76,79,71,49,wB (x0.length:Int)],x0,(x0.length:Int),0)).bind λv3=>
 (K4 v3.2 124).bind λc4=>
 (Iz c4).bind λc5=>
 (Ab He (c4,c5,v3.1,(v3.1.length:Int),0)).bind λv8=>
 (Sa v8.2).bind λc9=>
 cK (Aa (v8.1.length+c9.length) 1) <|
 some (v8.1++c9)
def CM (y:U31):Option (U31⊕(Unit⊕Bool)):=
 if decide (y.2.2.2 < y.2.2.1)then
  gX y.1 y.2.2.2 λr1=>
  gX y.2.1 y.2.2.2 λr2=>
  if decide (¬ r1=r2)then
   some (.inr (.inr false))
  else
   some (.inl (y.1,y.2.1,y.2.2.1,wI (y.2.2.2+1)))
 else
  some (.inr (.inl ()))
def Cv (x0 x1:LI):Option (Bool):=
 if decide (¬ (x0.length:Int)=(x1.length:Int))then
  some false
 else
  (Ab CM (x0,x1,(x0.length:Int),0)).bind λv3=>
  match v3 with
  | .inl y4=>
   some true
  | .inr s5=>
   some s5
def DE (y:AhF):Option (AhF⊕U83):=match y with
 | (a,b,c,d,e,f,g,h)=>
 if decide (d < c)then
  (Cw a (wI (5+(wI (2 * d))))).bind λc4=>
  gX e (wI (3+d)) λr5=>
  cK (Aa (b.length+([(c4,r5)]:List (Int×LI)).length) 32) <|
  some (.inl (a,b++([(c4,r5)]:List (Int×LI)),c,wI (d+1),e,f,g,h))
 else
  some (.inr (a,b,e,f,g,h))
def GW (x0:LL) (x1:Int) (x2:Bool) (x3:Int):Option (List (Int×LI)):=
 gX x0 2 λr1=>
 gX r1 4 λr2=>
 (Bo (IntKind.wrap .i64 r2) 1 30).bind λc3=>
 if(!c3)then
  some []
 else
  (Ab DE (r1,[],IntKind.wrap .i64 r2,0,x0,x1,x2,x3)).bind λ(a,b,c,d,e,f)=>
  Option.bind (α:=(List (Int×LI)×Bool)) (
    (Jq c d e f b).bind λc7=>
    if(!c7)then
     some (b,true)
    else
     (NE b).bind λc8=>
     (Cv c8 a).bind λc9=>
     some (b,(!c9))) λv10=>
  if v10.2 then
   some []
  else
   some v10.1
def Ht (x0 x1:Int):Option (Bool):=
 Option.bind (α:=Bool) (
  if decide (0<=x0)then
   if decide (x0<=x1)then
    some (decide (x1<=60))
   else
   some false
  else
  some false) λv1=>
 some v1
def JL (x0:Int):Option (Bool):=
 (Bo x0 33 159).bind λc1=>
 some c1
def EQ (x0 x1 x2 x3 x4:Int):Option ((LI×Bool)):=
 Option.bind (α:=U75) (
   (Ht x0 x1).bind λc1=>
   if(!c1)then
    some (true,x0,x1,x2,x3,x4)
   else
    (Bo x2 1 30).bind λc2=>
    if(!c2)then
     some (true,x0,x1,x2,x3,x4)
    else
     (JL x3).bind λc3=>
     if(!c3)then
      some (true,x0,x1,x2,x3,x4)
     else
      (JL x4).bind λc4=>
      some ((!c4),x0,x1,x2,x3,x4)) λv5=>
 if v5.1 then
  some ([],false)
 else
  (Lu v5.2.2.2.2.1).bind λc6=>
  cK (Aa (([83,84,82,49,IntKind.wrap .u8 v5.2.1,IntKind.wrap .u8 v5.2.2.1,IntKind.wrap .u8 v5.2.2.2.1,0]:LI).length+c6.length) 1) <|
  (Lu v5.2.2.2.2.2).bind λc7=>
  cK (Aa ((([83,84,82,49,IntKind.wrap .u8 v5.2.1,IntKind.wrap .u8 v5.2.2.1,IntKind.wrap .u8 v5.2.2.2.1,0]:LI)++c6).length+c7.length) 1) <|
  (K4 ((([83,84,82,49,IntKind.wrap .u8 v5.2.1,IntKind.wrap .u8 v5.2.2.1,IntKind.wrap .u8 v5.2.2.2.1,0]:LI)++c6)++c7) 124).bind λc8=>
  (Iz c8).bind λc9=>
  (Sa c9).bind λc10=>
  cK (Aa (c8.length+c10.length) 1) <|
  some (c8++c10,true)
def LW (x0:LI):Option U75:=
 if decide (¬ (x0.length:Int)=128)then
  some (false,0,0,0,0,0)
 else
 gX x0 4 λr1=>
 gX x0 5 λr2=>
 gX x0 6 λr3=>
 (Cw x0 8).bind λc4=>
 (Cw x0 10).bind λc5=>
 (EQ (IntKind.wrap .i64 r1) (IntKind.wrap .i64 r2) (IntKind.wrap .i64 r3) c4 c5).bind λc6=>
 Option.bind (α:=Ahv) (
   if(!c6.2)then
    some (true,0,0,0,0,0,IntKind.wrap .i64 r1,IntKind.wrap .i64 r2,IntKind.wrap .i64 r3,c4,c5)
   else
    (Cv c6.1 x0).bind λc7=>
    some ((!c7),0,0,0,0,0,IntKind.wrap .i64 r1,IntKind.wrap .i64 r2,IntKind.wrap .i64 r3,c4,c5)) λ(a,_,_,_,_,_,b,c,d,e,f)=>
 if a then
  some (false,0,0,0,0,0)
 else
  some (true,b,c,d,e,f)
def BU (x0:LI):Option LI:=
 Option.bind (α:=LI) (Ij (List.isEmpty x0) (
  some []) (
  cK (Aa (([]:LI).length+x0.length) 1) <|
  some (([]:LI)++x0))) λv1=>
 some v1
def LR (y:U39):Option (U39⊕LL):=
 if decide (y.2.2.2 < y.2.2.1)then
  gX y.2.1 y.2.2.2 λr1=>
  (BU r1).bind λc2=>
  cK (Aa (y.1.length+([c2]:LL).length) 24) <|
  some (.inl (y.1++([c2]:LL),y.2.1,y.2.2.1,wI (y.2.2.2+1)))
 else
  some (.inr y.1)
def IC (x0:LL):Option LL:=
 (Ab LR ([],x0,(x0.length:Int),0)).bind λv3=>
 some v3
def DC (x0:Int) (x1:LL) (x2 x3 x4:LI):Option U62:=
 cK (decide (¬ (8:Int)=0)) <|
 gX x2 (wI (Int.tdiv x0 8)) λr1=>
 cK (decide (¬ (8:Int)=0)) <|
 cZ (Int.tmod x0 8) <|
 some (decide (wB (((BitVec.ofInt (IntKind.bits .u8) (Int.fdiv r1 (2 ^ (min ((Int.tmod x0 8).toNat) (IntKind.bits .u8)))) &&& BitVec.ofInt (IntKind.bits .u8) 1).toNat:Int))=1),x1,x2,x3,x4)
def Fr (x0:Int) (x1:LL) (x2 x3 x4:LI):Option U62:=
 Option.bind (α:=U62) (
  (Bo x0 33 (wI ((x1.length:Int) - 1))).bind λc1=>
  if c1 then
   (DC x0 x1 x2 x3 x4).bind λc2=>
   some (c2.1,c2.2.1,c2.2.2.1,c2.2.2.2.1,c2.2.2.2.2)
  else
  some (false,x1,x2,x3,x4)) λv3=>
 some (v3.1,v3.2.1,v3.2.2.1,v3.2.2.2.1,v3.2.2.2.2)
def C7 (y:Ahe):Option (Ahe⊕(U41⊕U62)):=
 if decide (y.2.2.2.1 < y.2.2.1)then
  gX y.2.1 y.2.2.2.1 λr1=>
  Option.bind (α:=Ahk) (
    (Fr r1 y.2.2.2.2.1 y.2.2.2.2.2.1 y.2.2.2.2.2.2.1 y.2.2.2.2.2.2.2).bind λc2=>
    if(!c2.1)then
     some (y.1,y.2.1,y.2.2.1,y.2.2.2.1,true,c2.2.1,c2.2.2.1,c2.2.2.2.1,c2.2.2.2.2)
    else
    if decide (0 < y.2.2.2.1)then
     gX y.1 (wI (y.2.2.2.1 - 1)) λr3=>
     some (y.1,y.2.1,y.2.2.1,y.2.2.2.1,decide (r1<=r3),c2.2.1,c2.2.2.1,c2.2.2.2.1,c2.2.2.2.2)
    else
    some (y.1,y.2.1,y.2.2.1,y.2.2.2.1,false,c2.2.1,c2.2.2.1,c2.2.2.2.1,c2.2.2.2.2)) λv4=>
  if v4.2.2.2.2.1 then
   some (.inr (.inr (false,v4.2.2.2.2.2.1,v4.2.2.2.2.2.2.1,v4.2.2.2.2.2.2.2.1,v4.2.2.2.2.2.2.2.2)))
  else
   some (.inl (v4.1,v4.2.1,v4.2.2.1,wI (v4.2.2.2.1+1),v4.2.2.2.2.2.1,v4.2.2.2.2.2.2.1,v4.2.2.2.2.2.2.2.1,v4.2.2.2.2.2.2.2.2))
 else
  some (.inr (.inl (y.2.2.2.2.1,y.2.2.2.2.2.1,y.2.2.2.2.2.2.1,y.2.2.2.2.2.2.2)))
def CT (x0:LI) (x1:LL) (x2 x3 x4:LI):Option U62:=
 (Ab C7 (x0,x0,(x0.length:Int),0,x1,x2,x3,x4)).bind λv5=>
 match v5 with
 | .inl y6=>
  some (true,y6.1,y6.2.1,y6.2.2.1,y6.2.2.2)
 | .inr s7=>
  some (s7.1,s7.2.1,s7.2.2.1,s7.2.2.2.1,s7.2.2.2.2)
def E1 (y:U60):Option (U60⊕(U41⊕Bool)):=
 if decide (y.1 < 160)then
  (DC y.1 y.2.1 y.2.2.1 y.2.2.2.1 y.2.2.2.2).bind λc3=>
  Option.bind (α:=U79) (
    if decide (y.1 < 33)then
     if(!c3.1)then
      some (y.1,true,c3.2.1,c3.2.2.1,c3.2.2.2.1,c3.2.2.2.2)
     else
     if decide ((c3.2.1.length:Int)<=y.1)then
      some (y.1,c3.1,c3.2.1,c3.2.2.1,c3.2.2.2.1,c3.2.2.2.2)
     else
     some (y.1,false,c3.2.1,c3.2.2.1,c3.2.2.2.1,c3.2.2.2.2)
    else
    if decide ((c3.2.1.length:Int)<=y.1)then
     some (y.1,c3.1,c3.2.1,c3.2.2.1,c3.2.2.2.1,c3.2.2.2.2)
    else
    some (y.1,false,c3.2.1,c3.2.2.1,c3.2.2.2.1,c3.2.2.2.2)) λv4=>
  if v4.2.1 then
   some (.inr (.inr false))
  else
   some (.inl (wI (v4.1+1),v4.2.2.1,v4.2.2.2.1,v4.2.2.2.2.1,v4.2.2.2.2.2))
 else
  some (.inr (.inl (y.2.1,y.2.2.1,y.2.2.2.1,y.2.2.2.2)))
def Jw (x0:LL) (x1 x2 x3:LI):Option (Bool):=
 Option.bind (α:=U62) (
   (Et x0).bind λc1=>
   if(!c1)then
    some (true,x0,x1,x2,x3)
   else
   some (decide (¬ (x1.length:Int)=20),x0,x1,x2,x3)) λv2=>
 if v2.1 then
  some false
 else
  (Ab E1 (0,v2.2.1,v2.2.2.1,v2.2.2.2.1,v2.2.2.2.2)).bind λv5=>
  match v5 with
  | .inl y6=>
   Option.bind (α:=Bool) (
     (CT y6.2.2.1 y6.1 y6.2.1 y6.2.2.1 y6.2.2.2).bind λc8=>
     if c8.1 then
      (CT c8.2.2.2.2 c8.2.1 c8.2.2.1 c8.2.2.2.1 c8.2.2.2.2).bind λc9=>
      some c9.1
     else
     some false) λv10=>
   some v10
  | .inr s7=>
   some s7
def JW (x0:Int):Option (Bool):=
 some (decide (¬ x0=0))
def A8 (y:(LI×(Int×Int))):Option ((LI×(Int×Int))⊕(Unit⊕Int)):=match y with
 | (a,b,c)=>
 if decide (c < b)then
  gX a c λr1=>
  (JW r1).bind λc2=>
  if c2 then
   some (.inr (.inr c))
  else
   some (.inl (a,b,wI (c+1)))
 else
  some (.inr (.inl ()))
def BP (x0:LI):Option (Int):=
 (Ab A8 (x0,(x0.length:Int),0)).bind λv3=>
 match v3 with
 | .inl y4=>
  some (-1)
 | .inr s5=>
  some s5
def A9 (x0:LI):Option (Bool):=
 (BP x0).bind λc1=>
 some (decide (0<=c1))
def Jy (x0:LL) (x1:Int) (x2:Bool) (x3:Int):Option U16:=
 (GM x0 x1 x2 x3).bind λc1=>
 if(!c1)then
  some (false,[],[])
 else
 gX x0 1 λr2=>
 (IC x0).bind λc3=>
 sX 0 20 (r2.length:Int) (r2.length) <|
 (BU ((List.drop (Int.toNat 0) r2).take (Int.toNat 20 - Int.toNat 0))).bind λc4=>
 Option.bind (α:=U16) (
   (Jw c3 c4 [] []).bind λc5=>
   if(!c5)then
    some (true,c3,c4)
   else
   sX 20 (r2.length:Int) (r2.length:Int) (r2.length) <|
   (A9 ((List.drop (Int.toNat 20) r2).take ((r2.length:Int).toNat - Int.toNat 20))).bind λc6=>
   some (c6,c3,c4)) λ(a,b,c)=>
 if a then
  some (false,[],[])
 else
  some (true,b,c)
def G8 (y:(LI×(Int×(Int×Int)))):Option ((LI×(Int×(Int×Int)))⊕(Unit⊕Int)):=
 if decide (y.2.2.2 < y.2.2.1)then
  gX y.1 y.2.2.2 λr1=>
  if decide (y.2.1=r1)then
   some (.inr (.inr y.2.2.2))
  else
   some (.inl (y.1,y.2.1,y.2.2.1,wI (y.2.2.2+1)))
 else
  some (.inr (.inl ()))
def DI (x0:LI) (x1:Int):Option (Int):=
 (Ab G8 (x0,x1,(x0.length:Int),0)).bind λv2=>
 match v2 with
 | .inl y3=>
  some (-1)
 | .inr s4=>
  some s4
def AK (x0:LI) (x1:Int):Option (Bool):=
 (DI x0 x1).bind λc1=>
 some (decide (0<=c1))
def Jd (x0:Int):Option (Bool):=
 some (decide (¬ x0=0))
def EV (x0:U41) (x1:Int):Option (Bool):=
 cK (decide (¬ (8:Int)=0)) <|
 gX x0.2.1 (wI (Int.tdiv x1 8)) λr1=>
 cK (decide (¬ (8:Int)=0)) <|
 cZ (Int.tmod x1 8) <|
 some (decide (wB (((BitVec.ofInt (IntKind.bits .u8) (Int.fdiv r1 (2 ^ (min ((Int.tmod x1 8).toNat) (IntKind.bits .u8)))) &&& BitVec.ofInt (IntKind.bits .u8) 1).toNat:Int))=1))
def DD (x0:U41) (x1:Int):Option (Bool):=
 Option.bind (α:=Bool) (
  (Bo x1 33 (wI ((x0.1.length:Int) - 1))).bind λc1=>
  if c1 then
   (EV x0 x1).bind λc2=>
   some c2
  else
  some false) λv3=>
 some v3
def CE (x0:U41) (x1:Int):Option (Bool):=
 Option.bind (α:=Bool) (
  (DD x0 x1).bind λc1=>
  if c1 then
   (AK x0.2.2.1 x1).bind λc2=>
   some (!c2)
  else
  some false) λv3=>
 some v3
def A5 (y:(LI×(Int×Int))):Option ((LI×(Int×Int))⊕(Unit⊕Int)):=
 if decide (y.2.2 < y.2.1)then
  gX y.1 y.2.2 λr1=>
  (Jd r1).bind λc2=>
  if c2 then
   some (.inr (.inr y.2.2))
  else
   some (.inl (y.1,y.2.1,wI (y.2.2+1)))
 else
  some (.inr (.inl ()))
def BK (x0:LI):Option (Int):=
 (Ab A5 (x0,(x0.length:Int),0)).bind λv3=>
 match v3 with
 | .inl y4=>
  some (-1)
 | .inr s5=>
  some s5
def A3 (x0:LI):Option (Bool):=
 (BK x0).bind λc1=>
 some (decide (0<=c1))
def Ec (y:(LI×(LI×Int))):Option ((LI×(LI×Int))⊕LI):=
 if decide (y.2.2 < 32)then
  (Cw y.1 (wI (1+(wI (2 * y.2.2))))).bind λc7=>
  cK (Aa (y.2.1.length+([c7]:LI).length) 8) <|
  some (.inl (y.1,y.2.1++([c7]:LI),wI (y.2.2+1)))
 else
  some (.inr y.2.1)
def F9 (x0:U41) (x1 x2:Int):Option ((LI×Bool)):=
 Option.bind (α:=U22) (
   (CE x0 x1).bind λc1=>
   if(!c1)then
    some (x0,x1,true)
   else
   gX x0.1 x1 λr2=>
   gX r2 0 λr3=>
   some (x0,x1,decide (¬ r3=x2))) λv4=>
 if v4.2.2 then
  some ([],false)
 else
 gX v4.1.1 v4.2.1 λr5=>
 sX 65 (r5.length:Int) (r5.length:Int) (r5.length) <|
 (A3 ((List.drop (Int.toNat 65) r5).take ((r5.length:Int).toNat - Int.toNat 65))).bind λc6=>
 if c6 then
  some ([],false)
 else
  (Ab Ec (r5,[],0)).bind λv8=>
  some (v8,true)
def MB (x0:Int):Option (Bool):=
 some (decide (¬ x0=0))
def Bl (y:(LI×(Int×Int))):Option ((LI×(Int×Int))⊕(Unit⊕Int)):=
 if decide (y.2.2 < y.2.1)then
  gX y.1 y.2.2 λr1=>
  (MB r1).bind λc2=>
  if c2 then
   some (.inr (.inr y.2.2))
  else
   some (.inl (y.1,y.2.1,wI (y.2.2+1)))
 else
  some (.inr (.inl ()))
def Ce (x0:LI):Option (Int):=
 (Ab Bl (x0,(x0.length:Int),0)).bind λv3=>
 match v3 with
 | .inl y4=>
  some (-1)
 | .inr s5=>
  some s5
def BS (x0:LI):Option (Bool):=
 (Ce x0).bind λc1=>
 some (decide (0<=c1))
def JE (x0:LI):Option (Bool):=
 (BS x0).bind λc1=>
 some (!c1)
def GR (x0:Int) (x1:U1):Option U7:=
 Option.bind (α:=U7) (
  if decide (¬ x0=0)then
   Option.bind (x1) λp1=>
   (DD p1 x0).bind λc2=>
   some ((!c2),x1)
  else
  some (false,x1)) λv3=>
 some (v3.1,v3.2)
def AB (y:U52):Option (U52⊕(U10⊕U24)):=
 if decide (y.2.2.1 < y.2.1)then
  cZ y.2.2.1 <|
  cK (decide (y.2.2.1 < (y.1.length:Int))) <|
  Option.bind (y.1[0+y.2.2.1.toNat]?) λr1=>
  (GR r1 y.2.2.2).bind λc2=>
  if c2.1 then
   some (.inr (.inr (y.1,y.2.2.1,c2.2)))
  else
   some (.inl (y.1,y.2.1,wI (y.2.2.1+1),c2.2))
 else
  some (.inr (.inl (y.1,y.2.2.2)))
def BL (x0:LI) (x1:U1):Option U24:=
 (Ab AB (x0,(x0.length:Int),0,x1)).bind λv3=>
 match v3 with
 | .inl y4=>
  some (y4.1,(-1),y4.2)
 | .inr s5=>
  some (s5.1,s5.2.1,s5.2.2)
def A4 (x0:LI) (x1:U1):Option U26:=
 (BL x0 x1).bind λc1=>
 some (c1.1,decide (0<=c1.2.1),c1.2.2)
def Ed (y:Ahl):Option (Ahl⊕U95):=
 if decide (y.2.2.1 < y.2.1)then
  cZ 32 <|
  cK (decide ((32:Int)<=32)) <|
  cK (Aa (Int.toNat 32) 8) <|
  cZ y.2.2.1 <|
  cK (decide (y.2.2.1 < (y.2.2.2.2.2.2.2.length:Int))) <|
  Option.bind (y.2.2.2.2.2.2.2[0+y.2.2.1.toNat]?) λr1=>
  Option.bind (y.2.2.2.2.2.2.2[0+y.2.2.1.toNat]?) λr2=>
  some (.inl (y.1,y.2.1,wI (y.2.2.1+1),y.2.2.2.1,y.2.2.2.2.1,y.2.2.2.2.2.1,y.2.2.2.2.2.2.1,y.2.2.2.2.2.2.2.set (0+y.2.2.1.toNat) (List.replicate (Int.toNat 32) (0:Int))))
 else
  some (.inr (y.1,y.2.2.2.1,y.2.2.2.2.1,y.2.2.2.2.2.1,y.2.2.2.2.2.2.1,y.2.2.2.2.2.2.2))
def CS (y:AeA):Option (AeA⊕(U37⊕(Bool×Int))):=
 if decide (y.2.2.1 < y.2.1)then
  Option.bind (α:=AeA⊕(Bool×Int)) (
    cZ y.2.2.1 <|
    cK (decide (y.2.2.1 < (y.1.length:Int))) <|
    Option.bind (y.1[0+y.2.2.1.toNat]?) λr8=>
    if decide (r8=0)then
     some (.inl (y.1,y.2.1,y.2.2.1,y.2.2.2.1,y.2.2.2.2.1,y.2.2.2.2.2.1,y.2.2.2.2.2.2.1,y.2.2.2.2.2.2.2))
    else
     Option.bind (y.2.2.2.1) λp9=>
     (F9 p9 r8 81).bind λc10=>
     Option.bind (α:=Ajn) (
       if(!c10.2)then
        some (y.1,y.2.2.1,r8,c10.1,y.2.1,y.2.2.1,true,y.2.2.2.1,y.2.2.2.2.1,y.2.2.2.2.2.1,y.2.2.2.2.2.2.1,y.2.2.2.2.2.2.2)
       else
        (JE c10.1).bind λc11=>
        if c11 then
         some (y.1,y.2.2.1,r8,c10.1,y.2.1,y.2.2.1,true,y.2.2.2.1,y.2.2.2.2.1,y.2.2.2.2.2.1,y.2.2.2.2.2.2.1,y.2.2.2.2.2.2.2)
        else
        sX 0 y.2.2.1 (y.1.length:Int) (y.1.length) <|
        (AK ((y.1.drop (Int.toNat 0)).take (y.2.2.1.toNat - Int.toNat 0)) r8).bind λc12=>
        if c12 then
         some (y.1,y.2.2.1,r8,c10.1,y.2.1,y.2.2.1,true,y.2.2.2.1,y.2.2.2.2.1,y.2.2.2.2.2.1,y.2.2.2.2.2.2.1,y.2.2.2.2.2.2.2)
        else
         (A4 c10.1 y.2.2.2.1).bind λc13=>
         some (y.1,y.2.2.1,r8,c13.1,y.2.1,y.2.2.1,c13.2.1,c13.2.2,y.2.2.2.2.1,y.2.2.2.2.2.1,y.2.2.2.2.2.2.1,y.2.2.2.2.2.2.2)) λv14=>
     if v14.2.2.2.2.2.2.1 then
      some (.inr (false,0))
     else
     cZ v14.2.1 <|
     cK (decide (v14.2.1 < (v14.2.2.2.2.2.2.2.2.2.2.1.length:Int))) <|
     Option.bind (v14.2.2.2.2.2.2.2.2.2.2.1[0+v14.2.1.toNat]?) λr15=>
     Option.bind (v14.2.2.2.2.2.2.2.2.2.2.1[0+v14.2.1.toNat]?) λr16=>
     cZ v14.2.1 <|
     cK (decide (v14.2.1 < (v14.2.2.2.2.2.2.2.2.2.2.2.length:Int))) <|
     Option.bind (v14.2.2.2.2.2.2.2.2.2.2.2[0+v14.2.1.toNat]?) λr17=>
     Option.bind (v14.2.2.2.2.2.2.2.2.2.2.2[0+v14.2.1.toNat]?) λr18=>
     some (.inl (v14.1,v14.2.2.2.2.1,v14.2.2.2.2.2.1,v14.2.2.2.2.2.2.2.1,v14.2.2.2.2.2.2.2.2.1,v14.2.2.2.2.2.2.2.2.2.1,v14.2.2.2.2.2.2.2.2.2.2.1.set (0+v14.2.1.toNat) v14.2.2.1,v14.2.2.2.2.2.2.2.2.2.2.2.set (0+v14.2.1.toNat) v14.2.2.2.1))) λv19=>
  match v19 with
  | .inl y20=>
   some (.inl (y20.1,y20.2.1,wI (y20.2.2.1+1),y20.2.2.2.1,y20.2.2.2.2.1,y20.2.2.2.2.2.1,y20.2.2.2.2.2.2.1,y20.2.2.2.2.2.2.2))
  | .inr s21=>
   some (.inr (.inr (s21.1,s21.2)))
 else
  some (.inr (.inl (y.2.2.2.2.1,y.2.2.2.2.2.1,y.2.2.2.2.2.2.1,y.2.2.2.2.2.2.2)))
def GB (x0:U41) (x1:Int):Option U38:=
 cZ 32 <|
 cK (decide ((32:Int)<=32)) <|
 cK (Aa (Int.toNat 32) 8) <|
 cZ 32 <|
 cK (decide ((32:Int)<=32)) <|
 cK (Aa (Int.toNat 32) 24) <|
 (Ab Ed (x1,((List.replicate (Int.toNat 32) ([]:LI)).length:Int),0,some x0,0,x1,List.replicate (Int.toNat 32) (0:Int),List.replicate (Int.toNat 32) ([]:LI))).bind λv3=>
 if decide (v3.1=0)then
  some (true,v3.2.2.2.1,v3.2.2.2.2.1,v3.2.2.2.2.2)
 else
  Option.bind (v3.2.1) λp4=>
  (F9 p4 v3.1 80).bind λc5=>
  Option.bind (α:=AjE) (
    if(!c5.2)then
     some (c5.1,true,v3.2.1,v3.2.2.1,v3.2.2.2.1,v3.2.2.2.2.1,v3.2.2.2.2.2)
    else
     (JE c5.1).bind λc6=>
     some (c5.1,c6,v3.2.1,v3.2.2.1,v3.2.2.2.1,v3.2.2.2.2.1,v3.2.2.2.2.2)) λv7=>
  if v7.2.1 then
   some (false,0,[],[])
  else
   (Ab CS (v7.1,(v7.1.length:Int),0,v7.2.2.1,v7.2.2.2.1,v7.2.2.2.2.1,v7.2.2.2.2.2.1,v7.2.2.2.2.2.2)).bind λv22=>
   match v22 with
   | .inl y23=>
    some (true,y23.2.1,y23.2.2.1,y23.2.2.2)
   | .inr s24=>
    some (s24.1,s24.2,[],[])
def DG (x0:LI):Option LI:=
 Option.bind (α:=LI) (Ij (List.isEmpty x0) (
  some []) (
  cK (Aa (([]:LI).length+x0.length) 8) <|
  some (([]:LI)++x0))) λv1=>
 some v1
def HI (x0:Int):Option (Bool):=
 some (decide (¬ x0=x0))
def IL (x0 x1:Int):Option (Bool):=
 Option.bind (α:=Bool) (
  Option.bind (HI x0) λc1=>
  if c1 then
   Option.bind (HI x1) λc2=>
   if(!c2)then
    some true
   else
   some (decide (x0 < x1))
  else
  some (decide (x0 < x1))) λv3=>
 some v3
def Fm (x0:Int):Option (Bool):=
 some (decide (¬ x0=x0))
def CZ (y:U53):Option (U53⊕(LI×(Int×(Int×Int)))):=
 if decide (y.2.2.2.1 < y.2.2.2.2)then
  cZ 1 <|
  gX y.1 (wI (Int.fdiv (IntKind.wrap .u64 (wI (y.2.2.2.1+y.2.2.2.2))) (2 ^ (min (Int.toNat 1) (IntKind.bits .u64))))) λr1=>
  Option.bind (IL r1 y.2.1) λc2=>
  Option.bind (α:=U53) (
   if c2 then
    some (y.1,y.2.1,y.2.2.1,wI ((wI (Int.fdiv (IntKind.wrap .u64 (wI (y.2.2.2.1+y.2.2.2.2))) (2 ^ (min (Int.toNat 1) (IntKind.bits .u64)))))+1),y.2.2.2.2)
   else
    some (y.1,y.2.1,y.2.2.1,y.2.2.2.1,wI (Int.fdiv (IntKind.wrap .u64 (wI (y.2.2.2.1+y.2.2.2.2))) (2 ^ (min (Int.toNat 1) (IntKind.bits .u64)))))) λv3=>
  some (.inl (v3.1,v3.2.1,v3.2.2.1,v3.2.2.2.1,v3.2.2.2.2))
 else
  some (.inr (y.1,y.2.1,y.2.2.1,y.2.2.2.1))
def Cr (x0:LI) (x1:Int):Option ((Int×Bool)):=
 (Ab CZ (x0,x1,(x0.length:Int),0,(x0.length:Int))).bind λv4=>
 Option.bind (α:=(Int×Bool)) (
  if decide (v4.2.2.2 < v4.2.2.1)then
   gX v4.1 v4.2.2.2 λr5=>
   if decide (r5=v4.2.1)then
    some (v4.2.2.2,true)
   else
   gX v4.1 v4.2.2.2 λr6=>
   (Fm r6).bind λc7=>
   if c7 then
    (Fm v4.2.1).bind λc8=>
    some (v4.2.2.2,c8)
   else
   some (v4.2.2.2,false)
  else
  some (v4.2.2.2,false)) λv9=>
 some (v9.1,v9.2)
def EP (x0:List Int) (x1:Int) (x2:List Int):Option (List Int):=
 if 0<=x1/\x1.toNat<=x0.length/\x2≠[]/\(x0.length+x2.length) * 8<=140737488355328 then some (x0.take x1.toNat++(x2++x0.drop x1.toNat))else none
def HY (x0:LI) (x1:Int):Option LI:=
 (Cr x0 x1).bind λc1=>
 if c1.2 then
  some x0
 else
  (EP x0 c1.1 [x1]).bind λc2=>
  some c2
def Eg (y:U31):Option (U31⊕LI):=match y with
 | (a,b,c,d)=>
 if decide (d < c)then
  cZ d <|
  cK (decide (d < (b.length:Int))) <|
  Option.bind (b[0+d.toNat]?) λr2=>
  Option.bind (α:=U31) (
   if decide (¬ r2=0)then
    (HY a r2).bind λc3=>
    some (c3,b,c,d)
   else
    some (a,b,c,d)) λ(e,f,g,h)=>
  some (.inl (e,f,g,wI (h+1)))
 else
  some (.inr a)
def II (x0:Int) (x1:LI) (x2:LL):Option LI:=
 (DG x1).bind λc1=>
 cK (Aa (c1.length+([x0]:LI).length) 8) <|
 (Ab Eg ([],c1++([x0]:LI),((c1++([x0]:LI)).length:Int),0)).bind λv5=>
 some v5
def H1 (x0:Int):Option (Bool):=
 some (decide (¬ x0=0))
def Iy (x0:Int):Option (Bool):=
 some (decide (¬ x0=0))
def AY (y:(LI×(Int×Int))):Option ((LI×(Int×Int))⊕(Unit⊕Int)):=
 if decide (y.2.2 < y.2.1)then
  gX y.1 y.2.2 λr1=>
  (Iy r1).bind λc2=>
  if c2 then
   some (.inr (.inr y.2.2))
  else
   some (.inl (y.1,y.2.1,wI (y.2.2+1)))
 else
  some (.inr (.inl ()))
def BJ (x0:LI):Option (Int):=
 (Ab AY (x0,(x0.length:Int),0)).bind λv3=>
 match v3 with
 | .inl y4=>
  some (-1)
 | .inr s5=>
  some s5
def AZ (x0:LI):Option (Bool):=
 (BJ x0).bind λc1=>
 some (decide (0<=c1))
def FJ (x0:U41) (x1:Int):Option U29:=
 Option.bind (α:=U92) (
   (CE x0 x1).bind λc1=>
   if(!c1)then
    some (x0,x1,true,0,0,[])
   else
   gX x0.1 x1 λr2=>
   gX r2 0 λr3=>
   some (x0,x1,decide (¬ r3=83),0,0,[])) λv4=>
 if v4.2.2.1 then
  some (false,0,0,[])
 else
 gX v4.1.1 v4.2.1 λr5=>
 gX r5 1 λr6=>
 gX r5 2 λr7=>
 Option.bind (α:=Ajv) (
   (Bo (IntKind.wrap .i64 r6) 1 250).bind λc8=>
   if(!c8)then
    some (v4.2.1,r5,IntKind.wrap .i64 r6,IntKind.wrap .i64 r7,true,v4.2.2.2.1,v4.2.2.2.2.1,v4.2.2.2.2.2)
   else
    (Bo (IntKind.wrap .i64 r7) 1 40).bind λc9=>
    if(!c9)then
     some (v4.2.1,r5,IntKind.wrap .i64 r6,IntKind.wrap .i64 r7,true,v4.2.2.2.1,v4.2.2.2.2.1,v4.2.2.2.2.2)
    else
    sX (wI (3+(IntKind.wrap .i64 r7))) (r5.length:Int) (r5.length:Int) (r5.length) <|
    (AZ ((List.drop ((wI (3+(IntKind.wrap .i64 r7))).toNat) r5).take ((r5.length:Int).toNat - (wI (3+(IntKind.wrap .i64 r7))).toNat))).bind λc10=>
    some (v4.2.1,r5,IntKind.wrap .i64 r6,IntKind.wrap .i64 r7,c10,v4.2.2.2.1,v4.2.2.2.2.1,v4.2.2.2.2.2)) λv11=>
 if v11.2.2.2.2.1 then
  some (false,0,0,[])
 else
 sX 3 (wI (3+v11.2.2.2.1)) (v11.2.1.length:Int) (v11.2.1.length) <|
 some (true,v11.1,v11.2.2.1,AF ((List.drop (Int.toNat 3) v11.2.1).take ((wI (3+v11.2.2.2.1)).toNat - Int.toNat 3)))
def AX (y:(LI×(Int×Int))):Option ((LI×(Int×Int))⊕(Unit⊕Int)):=
 if decide (y.2.2 < y.2.1)then
  gX y.1 y.2.2 λr1=>
  (H1 r1).bind λc2=>
  if c2 then
   some (.inr (.inr y.2.2))
  else
   some (.inl (y.1,y.2.1,wI (y.2.2+1)))
 else
  some (.inr (.inl ()))
def BD (x0:LI):Option (Int):=
 (Ab AX (x0,(x0.length:Int),0)).bind λv3=>
 match v3 with
 | .inl y4=>
  some (-1)
 | .inr s5=>
  some s5
def AU (x0:LI):Option (Bool):=
 (BD x0).bind λc1=>
 some (decide (0<=c1))
def HQ (x0 x1:Int) (x2:LB) (x3 x4:Int) (x5:LB):Option U29:=
 some (decide (x0=x3),x3,x4,x5)
def Al (y:U82):Option (U82⊕((Int×(Int×LB))⊕U28)):=
 if decide (y.2.2.1 < y.2.1)then
  gX y.1 y.2.2.1 λr1=>
  (HQ r1.1 r1.2.1 r1.2.2 y.2.2.2.1 y.2.2.2.2.1 y.2.2.2.2.2).bind λc2=>
  if c2.1 then
   some (.inr (.inr (y.2.2.1,c2.2.1,c2.2.2.1,c2.2.2.2)))
  else
   some (.inl (y.1,y.2.1,wI (y.2.2.1+1),c2.2.1,c2.2.2.1,c2.2.2.2))
 else
  some (.inr (.inl (y.2.2.2.1,y.2.2.2.2.1,y.2.2.2.2.2)))
def As (x0:List (Int×(Int×LB))) (x1 x2:Int) (x3:LB):Option U28:=
 (Ab Al (x0,(x0.length:Int),0,x1,x2,x3)).bind λv3=>
 match v3 with
 | .inl y4=>
  some ((-1),y4.1,y4.2.1,y4.2.2)
 | .inr s5=>
  some (s5.1,s5.2.1,s5.2.2.1,s5.2.2.2)
def Ah (x0:List (Int×(Int×LB))) (x1 x2:Int) (x3:LB):Option U29:=
 (As x0 x1 x2 x3).bind λc1=>
 some (decide (0<=c1.1),c1.2.1,c1.2.2.1,c1.2.2.2)
def C2 (y:U96):Option (U96⊕(List (Int×(Int×LB))⊕Bool)):=
 if decide (y.2.2.2.2.2 < y.2.2.2.2.1)then
  (Cw y.2.1 (wI (2+(wI (2 * y.2.2.2.2.2))))).bind λc9=>
  (FJ y.1 c9).bind λc10=>
  Option.bind (α:=Ajk) (
    if(!c10.1)then
     some (y.1,y.2.1,y.2.2.1,y.2.2.2.1,y.2.2.2.2.1,y.2.2.2.2.2,true,c10.2.1,c10.2.2.1,c10.2.2.2)
    else
    if decide (wI (y.2.2.2.2.2+1) < y.2.2.1)then
     if decide ((c10.2.2.2.length:Int) < 40)then
      some (y.1,y.2.1,y.2.2.1,y.2.2.2.1,y.2.2.2.2.1,y.2.2.2.2.2,true,c10.2.1,c10.2.2.1,c10.2.2.2)
     else
      (Ah y.2.2.2.1 c10.2.1 c10.2.2.1 c10.2.2.2).bind λc11=>
      some (y.1,y.2.1,y.2.2.1,y.2.2.2.1,y.2.2.2.2.1,y.2.2.2.2.2,c11.1,c11.2.1,c11.2.2.1,c11.2.2.2)
    else
    (Ah y.2.2.2.1 c10.2.1 c10.2.2.1 c10.2.2.2).bind λc13=>
    some (y.1,y.2.1,y.2.2.1,y.2.2.2.1,y.2.2.2.2.1,y.2.2.2.2.2,c13.1,c13.2.1,c13.2.2.1,c13.2.2.2)) λv14=>
  if v14.2.2.2.2.2.2.1 then
   some (.inr (.inr false))
  else
  cK (Aa (v14.2.2.2.1.length+([(v14.2.2.2.2.2.2.2.1,(v14.2.2.2.2.2.2.2.2.1,v14.2.2.2.2.2.2.2.2.2))]:List (Int×(Int×LB))).length) 32) <|
  some (.inl (v14.1,v14.2.1,v14.2.2.1,v14.2.2.2.1++([(v14.2.2.2.2.2.2.2.1,(v14.2.2.2.2.2.2.2.2.1,v14.2.2.2.2.2.2.2.2.2))]:List (Int×(Int×LB))),v14.2.2.2.2.1,wI (v14.2.2.2.2.2.1+1)))
 else
  some (.inr (.inl y.2.2.2.1))
def GZ (x0:U41) (x1:Int):Option U4:=
 Option.bind (α:=U22) (
   (CE x0 x1).bind λc1=>
   if(!c1)then
    some (x0,x1,true)
   else
   gX x0.1 x1 λr2=>
   gX r2 0 λr3=>
   some (x0,x1,decide (¬ r3=84))) λv4=>
 if v4.2.2 then
  some ([],false)
 else
 gX v4.1.1 v4.2.1 λr5=>
 gX r5 1 λr6=>
 Option.bind (α:=U49) (
   if decide (3 < (IntKind.wrap .i64 r6))then
    some (v4.1,r5,IntKind.wrap .i64 r6,true)
   else
   sX (wI (2+(wI (2 * (IntKind.wrap .i64 r6))))) (r5.length:Int) (r5.length:Int) (r5.length) <|
   (AU ((List.drop ((wI (2+(wI (2 * (IntKind.wrap .i64 r6))))).toNat) r5).take ((r5.length:Int).toNat - (wI (2+(wI (2 * (IntKind.wrap .i64 r6))))).toNat))).bind λc7=>
   some (v4.1,r5,IntKind.wrap .i64 r6,c7)) λv8=>
 if v8.2.2.2 then
  some ([],false)
 else
  (Ab C2 (v8.1,v8.2.1,v8.2.2.1,[],v8.2.2.1,0)).bind λv15=>
  match v15 with
  | .inl y16=>
   some (y16,true)
  | .inr s17=>
   some ([],s17)
def Ei (y:U87):Option (U87⊕(Int×(LB×LI))):=match y with
 | (a,b,c,d,e,f)=>
 if decide (f < e)then
  cZ f <|
  cK (decide (f < (d.length:Int))) <|
  Option.bind (d[0+f.toNat]?) λr2=>
  Option.bind (d[0+f.toNat]?) λr3=>
  Option.bind (d[0+f.toNat]?) λr4=>
  cK (decide ((b.length+r4.2.2.length:Nat)<=9223372036854775807)) <|
  cK (Aa (c.length+([r2.1]:LI).length) 8) <|
  some (.inl (a,(b:LB)++r4.2.2,c++([r2.1]:LI),d,e,wI (f+1)))
 else
  some (.inr (a,b,c))
def Il (x0:U41) (x1:Int):Option U14:=
 (GZ x0 x1).bind λc1=>
 if(!c1.2)then
  some (([]:LB),[],false)
 else
  (Ab Ei (x1,([]:LB),[],c1.1,(c1.1.length:Int),0)).bind λ(a,b,c)=>
  cK (Aa (c.length+([a]:LI).length) 8) <|
  some (b,c++([a]:LI),true)
def GL (y:U77):Option (U77⊕U33):=match y with
 | (a,b,c,d,e,f)=>
 cZ d <|
 if decide (wI ((wI (e+1)) * 2 ^ (min (d.toNat) (IntKind.bits .i64)))<=b)then
  cK (Aa (c.length+([(d,e)]:List (Int×Int)).length) 16) <|
  some (.inl (a,b,c++([(d,e)]:List (Int×Int)),d,wI (e+1),f))
 else
  some (.inr (a,b,c,f))
def EY (y:U33):Option (U33⊕(List (Int×Int))):=match y with
 | (a,b,c,d)=>
 if decide (d < 6)then
  cZ d <|
  cZ d <|
  (Ab GL (a,b,c,d,Int.fdiv (wI ((wI (a+(wI (1 * 2 ^ (min (d.toNat) (IntKind.bits .i64)))))) - 1)) (2 ^ (min (d.toNat) (IntKind.bits .i64))),d)).bind λ(e,f,g,h)=>
  some (.inl (e,f,g,wI (h+1)))
 else
  some (.inr c)
def Jn (x0 x1:Int):Option (List (Int×Int)):=
 (Ab EY (x0,x1,[],0)).bind λv2=>
 some v2
def MH (x0 x1:Int):Option (Int):=
 Option.bind (α:=(Bool×(Int×Int))) (
   (Bo x0 0 5).bind λc1=>
   if(!c1)then
    some (true,x0,x1)
   else
    (Bo x1 0 63).bind λc2=>
    some ((!c2),x0,x1)) λ(a,b,c)=>
 if a then
  some (-1)
 else
  some (wI ((wI (64 * b))+c))
def DW (x0:Int) (x1:LI) (x2:LL) (x3:Int):Option (Int):=
 cK (decide (¬ (32:Int)=0)) <|
 gX x2 (wI (Int.tdiv x3 32)) λr1=>
 cK (decide (¬ (32:Int)=0)) <|
 gX r1 (Int.tmod x3 32) λr2=>
 some r2
def HM (x0:Int):Option (Bool):=
 some (decide (¬ x0=0))
def AV (y:(LI×(Int×Int))):Option ((LI×(Int×Int))⊕(Unit⊕Int)):=
 if decide (y.2.2 < y.2.1)then
  gX y.1 y.2.2 λr1=>
  (HM r1).bind λc2=>
  if c2 then
   some (.inr (.inr y.2.2))
  else
   some (.inl (y.1,y.2.1,wI (y.2.2+1)))
 else
  some (.inr (.inl ()))
def BE (x0:LI):Option (Int):=
 (Ab AV (x0,(x0.length:Int),0)).bind λv3=>
 match v3 with
 | .inl y4=>
  some (-1)
 | .inr s5=>
  some s5
def Au (x0:LI):Option (Bool):=
 (BE x0).bind λc1=>
 some (decide (0<=c1))
def EG (y:U50):Option (U50⊕(LI×(LI×Bool))):=match y with
 | (a,b,c,d)=>
 Option.bind (α:=U73) (
   (CE a b).bind λc1=>
   if(!c1)then
    some (a,b,c,d,true)
   else
    (AK d b).bind λc2=>
    if c2 then
     some (a,b,c,d,true)
    else
    some (a,b,c,d,decide ((d.length:Int)=9))) λ(e,f,g,h,i)=>
 if i then
  some (.inr ([],[],false))
 else
 gX e.1 f λr4=>
 (Cw r4 1).bind λc5=>
 gX r4 3 λr6=>
 Option.bind (α:=Ajh) (
   gX r4 0 λr7=>
   if decide (¬ r7=82)then
    some (e,f,g,h,r4,c5,IntKind.wrap .i64 r6,true)
   else
   if decide (124 < (IntKind.wrap .i64 r6))then
    some (e,f,g,h,r4,c5,IntKind.wrap .i64 r6,true)
   else
   if decide (¬ c5=0)then
    if decide (IntKind.wrap .i64 r6 < 124)then
     some (e,f,g,h,r4,c5,IntKind.wrap .i64 r6,true)
    else
    if decide (IntKind.wrap .i64 r6=0)then
     if(!(decide ((h.length:Int)=0)))then
      some (e,f,g,h,r4,c5,IntKind.wrap .i64 r6,true)
     else
     sX (wI (4+(IntKind.wrap .i64 r6))) (r4.length:Int) (r4.length:Int) (r4.length) <|
     (Au ((List.drop ((wI (4+(IntKind.wrap .i64 r6))).toNat) r4).take ((r4.length:Int).toNat - (wI (4+(IntKind.wrap .i64 r6))).toNat))).bind λc8=>
     some (e,f,g,h,r4,c5,IntKind.wrap .i64 r6,c8)
    else
    sX (wI (4+(IntKind.wrap .i64 r6))) (r4.length:Int) (r4.length:Int) (r4.length) <|
    (Au ((List.drop ((wI (4+(IntKind.wrap .i64 r6))).toNat) r4).take ((r4.length:Int).toNat - (wI (4+(IntKind.wrap .i64 r6))).toNat))).bind λc10=>
    some (e,f,g,h,r4,c5,IntKind.wrap .i64 r6,c10)
   else
   if decide (IntKind.wrap .i64 r6=0)then
    if(!(decide ((h.length:Int)=0)))then
     some (e,f,g,h,r4,c5,IntKind.wrap .i64 r6,true)
    else
    sX (wI (4+(IntKind.wrap .i64 r6))) (r4.length:Int) (r4.length:Int) (r4.length) <|
    (Au ((List.drop ((wI (4+(IntKind.wrap .i64 r6))).toNat) r4).take ((r4.length:Int).toNat - (wI (4+(IntKind.wrap .i64 r6))).toNat))).bind λc14=>
    some (e,f,g,h,r4,c5,IntKind.wrap .i64 r6,c14)
   else
   sX (wI (4+(IntKind.wrap .i64 r6))) (r4.length:Int) (r4.length:Int) (r4.length) <|
   (Au ((List.drop ((wI (4+(IntKind.wrap .i64 r6))).toNat) r4).take ((r4.length:Int).toNat - (wI (4+(IntKind.wrap .i64 r6))).toNat))).bind λc16=>
   some (e,f,g,h,r4,c5,IntKind.wrap .i64 r6,c16)) λ(j,k,l,m,n,o,p,q)=>
 if q then
  some (.inr ([],[],false))
 else
 sX 4 (wI (4+p)) (n.length:Int) (n.length) <|
 cK (Aa (l.length+((List.drop (Int.toNat 4) n).take ((wI (4+p)).toNat - Int.toNat 4)).length) 1) <|
 cK (Aa (m.length+([k]:LI).length) 8) <|
 if decide (o=0)then
  some (.inr (l++((List.drop (Int.toNat 4) n).take ((wI (4+p)).toNat - Int.toNat 4)),m++([k]:LI),true))
 else
  some (.inl (j,o,l++((List.drop (Int.toNat 4) n).take ((wI (4+p)).toNat - Int.toNat 4)),m++([k]:LI)))
def GT (x0:U41) (x1:Int):Option ((LI×(LI×Bool))):=
 (Ab EG (x0,x1,[],[])).bind λ(a,b,c)=>
 some (a,b,c)
def Eu (x0 x1:Int) (x2:LB):Option (Int):=
 Option.bind (α:=U29) (
   if decide (0 < x0)then
    if decide (x1=0)then
     some (((x2:LB) == ([]:LB)),x0,x1,x2)
    else
    some (false,x0,x1,x2)
   else
   some (false,x0,x1,x2)) λv1=>
 if v1.1 then
  some 1
 else
  Option.bind (α:=U29) (
    if decide (0 < v1.2.2.1)then
     if decide (v1.2.1=0)then
      some (((v1.2.2.2:LB) == ([]:LB)),v1.2.1,v1.2.2.1,v1.2.2.2)
     else
     some (false,v1.2.1,v1.2.2.1,v1.2.2.2)
    else
    some (false,v1.2.1,v1.2.2.1,v1.2.2.2)) λv2=>
  if v2.1 then
   some 2
  else
   Option.bind (α:=Bool) (
     if(!((v2.2.2.2:LB) == ([]:LB)))then
      if decide (v2.2.1=0)then
       some (decide (v2.2.2.1=0))
      else
      some false
     else
     some false) λv3=>
   if v3 then
    some 3
   else
    some 0
def OQ (y:U63):Option (U63⊕((Int×Int)⊕(Int×(Int×Bool)))):=
 if decide (y.2.2.2.2 < y.2.2.2.1)then
  gX y.2.2.1 y.2.2.2.2 λr1=>
  Option.bind (α:=AgP) (
    if decide (120 < r1.1)then
     some (y.1,y.2.1,y.2.2.1,y.2.2.2.1,y.2.2.2.2,true,r1.1,r1.2.1,r1.2.2)
    else
    some (y.1,y.2.1,y.2.2.1,y.2.2.2.1,y.2.2.2.2,decide (120 < r1.2.1),r1.1,r1.2.1,r1.2.2)) λv2=>
  if v2.2.2.2.2.2.1 then
   some (.inr (.inr (0,0,false)))
  else
   Option.bind (α:=U80) (
     if decide (120 < (wI (v2.1+(wI (v2.2.2.2.2.2.2.1+v2.2.2.2.2.2.2.2.1)))))then
      some (wI (v2.1+(wI (v2.2.2.2.2.2.2.1+v2.2.2.2.2.2.2.2.1))),wI (v2.2.1+(wI (v2.2.2.2.2.2.2.1+(v2.2.2.2.2.2.2.2.2.length:Int)))),v2.2.2.1,v2.2.2.2.1,v2.2.2.2.2.1,true)
     else
     some (wI (v2.1+(wI (v2.2.2.2.2.2.2.1+v2.2.2.2.2.2.2.2.1))),wI (v2.2.1+(wI (v2.2.2.2.2.2.2.1+(v2.2.2.2.2.2.2.2.2.length:Int)))),v2.2.2.1,v2.2.2.2.1,v2.2.2.2.2.1,decide (120 < (wI (v2.2.1+(wI (v2.2.2.2.2.2.2.1+(v2.2.2.2.2.2.2.2.2.length:Int)))))))) λv3=>
   if v3.2.2.2.2.2 then
    some (.inr (.inr (0,0,false)))
   else
    some (.inl (v3.1,v3.2.1,v3.2.2.1,v3.2.2.2.1,wI (v3.2.2.2.2.1+1)))
 else
  some (.inr (.inl (y.1,y.2.1)))
def JG (x0:List (Int×(Int×LB))):Option ((Int×(Int×Bool))):=
 (Ab OQ (0,0,x0,(x0.length:Int),0)).bind λv4=>
 match v4 with
 | .inl y5=>
  some (y5.1,y5.2,true)
 | .inr s6=>
  some (s6.1,s6.2.1,s6.2.2)
def IO (y:U48):Option (U48⊕(List (Int×(Int×LB))⊕Bool)):=
 if decide (y.2.2.2 < y.2.2.1)then
  gX y.2.1 y.2.2.2 λr1=>
  (Eu r1.1 r1.2.1 r1.2.2).bind λc2=>
  Option.bind (α:=U72) (
    if decide (c2=0)then
     some (y.1,y.2.1,y.2.2.1,y.2.2.2,true)
    else
    if decide (0 < y.2.2.2)then
     gX y.1 (wI (y.2.2.2 - 1)) λr3=>
     (Eu r3.1 r3.2.1 r3.2.2).bind λc4=>
     some (y.1,y.2.1,y.2.2.1,y.2.2.2,decide (c4=c2))
    else
    some (y.1,y.2.1,y.2.2.1,y.2.2.2,false)) λv5=>
  if v5.2.2.2.2 then
   some (.inr (.inr false))
  else
   some (.inl (v5.1,v5.2.1,v5.2.2.1,wI (v5.2.2.2.1+1)))
 else
  some (.inr (.inl y.1))
def E3 (x0:List (Int×(Int×LB))):Option (Bool):=
 (Ab IO (x0,x0,(x0.length:Int),0)).bind λv6=>
 match v6 with
 | .inl y7=>
  (JG y7).bind λc9=>
  some c9.2.2
 | .inr s8=>
  some s8
def AA (y:U5):Option (U5⊕(List (Int×(Int×LB))⊕Bool)):=
 if decide (0 < (y.1.length:Int))then
  if decide ((y.1.length:Int) < 2)then
   some (.inr (.inr false))
  else
  gX y.1 0 λr1=>
  gX y.1 1 λr2=>
  sX 2 (y.1.length:Int) (y.1.length:Int) (y.1.length) <|
  Option.bind (α:=U5⊕Bool) (
    if decide (r1=1)then
     cK (Aa (y.2.length+([(IntKind.wrap .i64 r2,(0,[]))]:List (Int×(Int×LB))).length) 32) <|
     some (.inl ((List.drop (Int.toNat 2) y.1).take ((y.1.length:Int).toNat - Int.toNat 2),y.2++([(IntKind.wrap .i64 r2,(0,[]))]:List (Int×(Int×LB)))))
    else
     Option.bind (α:=U5⊕Bool) (
       if decide (r1=2)then
        cK (Aa (y.2.length+([(0,(IntKind.wrap .i64 r2,[]))]:List (Int×(Int×LB))).length) 32) <|
        some (.inl ((List.drop (Int.toNat 2) y.1).take ((y.1.length:Int).toNat - Int.toNat 2),y.2++([(0,(IntKind.wrap .i64 r2,[]))]:List (Int×(Int×LB)))))
       else
        Option.bind (α:=U44) (
          if decide (r1=3)then
           some ((List.drop (Int.toNat 2) y.1).take ((y.1.length:Int).toNat - Int.toNat 2),y.2,IntKind.wrap .i64 r2,decide (IntKind.wrap .i64 r2<=(((List.drop (Int.toNat 2) y.1).take ((y.1.length:Int).toNat - Int.toNat 2)).length:Int)))
          else
          some ((List.drop (Int.toNat 2) y.1).take ((y.1.length:Int).toNat - Int.toNat 2),y.2,IntKind.wrap .i64 r2,false)) λv3=>
        if v3.2.2.2 then
         sX 0 v3.2.2.1 (v3.1.length:Int) (v3.1.length) <|
         cK (Aa (v3.2.1.length+([(0,(0,AF ((List.drop (Int.toNat 0) v3.1).take (v3.2.2.1.toNat - Int.toNat 0))))]:List (Int×(Int×LB))).length) 32) <|
         sX v3.2.2.1 (v3.1.length:Int) (v3.1.length:Int) (v3.1.length) <|
         some (.inl ((List.drop (v3.2.2.1.toNat) v3.1).take ((v3.1.length:Int).toNat - v3.2.2.1.toNat),v3.2.1++([(0,(0,AF ((List.drop (Int.toNat 0) v3.1).take (v3.2.2.1.toNat - Int.toNat 0))))]:List (Int×(Int×LB)))))
        else
         some (.inr false)) λv4=>
     match v4 with
     | .inl y5=>
      some (.inl (y5.1,y5.2))
     | .inr s6=>
      some (.inr s6)) λv7=>
  match v7 with
  | .inl y8=>
   some (.inl (y8.1,y8.2))
  | .inr s9=>
   some (.inr (.inr s9))
 else
  some (.inr (.inl y.2))
def E4 (x0:LI):Option U4:=
 (Ab AA (x0,[])).bind λv10=>
 match v10 with
 | .inl y11=>
  (E3 y11).bind λc13=>
  if(!c13)then
   some ([],false)
  else
   some (y11,true)
 | .inr s12=>
  some ([],s12)
def Oi (y:AbE):Option (AbE⊕((Int×Int)⊕Bool)):=
 if decide (y.2.2.2.2.2.2 < y.2.2.2.2.2.1)then
  gX y.2.2.2.2.1 y.2.2.2.2.2.2 λr4=>
  Option.bind (α:=Ahu) (
    (Bo r4.1 0 y.2.2.1).bind λc5=>
    if(!c5)then
     some (y.1,y.2.1,y.2.2.1,y.2.2.2.1,y.2.2.2.2.1,y.2.2.2.2.2.1,y.2.2.2.2.2.2,true,r4.1,r4.2)
    else
     (Bo r4.2 1 120).bind λc6=>
     if(!c6)then
      some (y.1,y.2.1,y.2.2.1,y.2.2.2.1,y.2.2.2.2.1,y.2.2.2.2.2.1,y.2.2.2.2.2.2,true,r4.1,r4.2)
     else
     if decide (0 < y.2.2.2.2.2.2)then
      gX y.1 (wI (y.2.2.2.2.2.2 - 1)) λr7=>
      some (y.1,y.2.1,y.2.2.1,y.2.2.2.1,y.2.2.2.2.1,y.2.2.2.2.2.1,y.2.2.2.2.2.2,decide (r7.1=r4.1),r4.1,r4.2)
     else
     some (y.1,y.2.1,y.2.2.1,y.2.2.2.1,y.2.2.2.2.1,y.2.2.2.2.2.1,y.2.2.2.2.2.2,false,r4.1,r4.2)) λv8=>
  if v8.2.2.2.2.2.2.2.1 then
   some (.inr (.inr false))
  else
  if decide (v8.2.1 < (wI (v8.2.2.2.1+v8.2.2.2.2.2.2.2.2.2)))then
   some (.inr (.inr false))
  else
   some (.inl (v8.1,v8.2.1,v8.2.2.1,wI (v8.2.2.2.1+v8.2.2.2.2.2.2.2.2.2),v8.2.2.2.2.1,v8.2.2.2.2.2.1,wI (v8.2.2.2.2.2.2.1+1)))
 else
  some (.inr (.inl (y.2.1,y.2.2.2.1)))
def Ip (x0:List (Int×Int)) (x1 x2:Int):Option (Bool):=
 Option.bind (α:=U35) (
   (Bo x1 0 120).bind λc1=>
   if(!c1)then
    some (x0,x1,x2,true)
   else
    (Bo x2 0 60).bind λc2=>
    some (x0,x1,x2,(!c2))) λv3=>
 if v3.2.2.2 then
  some false
 else
  (Ab Oi (v3.1,v3.2.1,v3.2.2.1,0,v3.1,(v3.1.length:Int),0)).bind λv9=>
  match v9 with
  | .inl y10=>
   some (decide (y10.2=y10.1))
  | .inr s11=>
   some s11
def Ch (y:U59):Option (U59⊕((List (Int×Int)×Int)⊕Bool)):=
 if decide (y.2.2.2.2 < y.2.2.2.1)then
  gX y.2.2.1 y.2.2.2.2 λr1=>
  Option.bind (α:=AiW) (
    (Bo r1.2 1 120).bind λc2=>
    if(!c2)then
     some (y.1,y.2.1,y.2.2.1,y.2.2.2.1,y.2.2.2.2,true,r1.1,r1.2)
    else
    some (y.1,y.2.1,y.2.2.1,y.2.2.2.1,y.2.2.2.2,decide (120 < y.2.1),r1.1,r1.2)) λv3=>
  if v3.2.2.2.2.2.1 then
   some (.inr (.inr false))
  else
   some (.inl (v3.1,wI (v3.2.1+v3.2.2.2.2.2.2.2),v3.2.2.1,v3.2.2.2.1,wI (v3.2.2.2.2.1+1)))
 else
  some (.inr (.inl (y.1,y.2.1)))
def Iw (x0:List (Int×Int)):Option (Bool):=
 (Ab Ch (x0,0,x0,(x0.length:Int),0)).bind λv4=>
 match v4 with
 | .inl y5=>
  (Ip y5.1 y5.2 60).bind λc7=>
  some c7
 | .inr s6=>
  some s6
def Bx:List Int->List (Int×Int)
 | a::b::r=>(a,b)::Bx r
 | _=>[]
def GV (x0:List Int):Option (List (Int×Int)×Bool):=
 if x0.length<=1048576/\∀x∈x0,0<=x/\x<=255 then(if x0.length % 2=0 then Option.bind (Iw (Bx x0)) λok=>some (if ok=true then(Bx x0,true)else([],false))else some ([],false))else none
def Jk (x0:List (Int×(Int×LB))):Option ((Int×(Int×Bool))):=
 (E3 x0).bind λc1=>
 if(!c1)then
  some (0,0,false)
 else
  (JG x0).bind λc2=>
  some (c2.1,c2.2.1,c2.2.2)
def PK (y:U45):Option (U45⊕(Unit⊕Bool)):=
 if decide (y.2.2.2 < y.2.2.1)then
  gX y.2.1 y.2.2.2 λr1=>
  (Jk r1).bind λc2=>
  Option.bind (α:=U67) (
    if(!c2.2.2)then
     some (c2.2.1,y.2.1,y.2.2.1,y.2.2.2,true)
    else
    some (c2.2.1,y.2.1,y.2.2.1,y.2.2.2,decide (¬ c2.1=y.1))) λv3=>
  if v3.2.2.2.2 then
   some (.inr (.inr false))
  else
   some (.inl (v3.1,v3.2.1,v3.2.2.1,wI (v3.2.2.2.1+1)))
 else
  some (.inr (.inl ()))
def LA (x0:Int) (x1:List (List (Int×(Int×LB)))):Option (Bool):=
 (Ab PK (x0,x1,(x1.length:Int),0)).bind λv4=>
 match v4 with
 | .inl y5=>
  some true
 | .inr s6=>
  some s6
def Hw (x0:Int) (x1:LB) (x2:List (Int×Int)) (x3:List (List (Int×(Int×LB)))):Option (Bool):=
 Option.bind (α:=Bool) (
  (Bo x0 0 60).bind λc1=>
  if c1 then
   if decide ((x1.length:Int)<=120)then
    (Ip x2 (x1.length:Int) x0).bind λc2=>
    if c2 then
     if decide ((x3.length:Int)<=(wI (60 - x0)))then
      (LA (x1.length:Int) x3).bind λc3=>
      some c3
     else
     some false
    else
    some false
   else
   some false
  else
  some false) λv4=>
 some v4
def ER (x0 x1:Int):Option (Int):=
 cZ x0 <|
 some (wI (x1 * 2 ^ (min (x0.toNat) (IntKind.bits .i64))))
def Ge (x0 x1:Int):Option (Int):=
 cZ x0 <|
 some (wI ((wI (x1+1)) * 2 ^ (min (x0.toNat) (IntKind.bits .i64))))
def GG (y:U89):Option (U89⊕LB):=
 if decide (y.2.2.2.2.2 < y.2.2.2.2.1)then
  gX y.2.2.2.1 y.2.2.2.2.2 λr1=>
  sX y.2.2.1 (wI (y.2.2.1+r1.1)) (y.1.length:Int) (y.1.length) <|
  cK (decide (((((y.1:LB).drop (y.2.2.1.toNat)).take ((wI (y.2.2.1+r1.1)).toNat - y.2.2.1.toNat)).length+r1.2.2.length:Nat)<=9223372036854775807)) <|
  cK (decide ((y.2.1.length+((((y.1:LB).drop (y.2.2.1.toNat)).take ((wI (y.2.2.1+r1.1)).toNat - y.2.2.1.toNat):LB)++r1.2.2).length:Nat)<=9223372036854775807)) <|
  some (.inl (y.1,(y.2.1:LB)++((((y.1:LB).drop (y.2.2.1.toNat)).take ((wI (y.2.2.1+r1.1)).toNat - y.2.2.1.toNat):LB)++r1.2.2),wI (y.2.2.1+(wI (r1.1+r1.2.1))),y.2.2.2.1,y.2.2.2.2.1,wI (y.2.2.2.2.2+1)))
 else
  some (.inr y.2.1)
def M0 (x0:LB) (x1:List (Int×(Int×LB))):Option LB:=
 (Ab GG (x0,([]:LB),0,x1,(x1.length:Int),0)).bind λv2=>
 some v2
def DB (y:U47):Option (U47⊕LB):=
 if decide (y.2.2.2 < y.2.2.1)then
  gX y.2.1 y.2.2.2 λr1=>
  (M0 y.1 r1).bind λc2=>
  some (.inl (c2,y.2.1,y.2.2.1,wI (y.2.2.2+1)))
 else
  some (.inr y.1)
def DT (x0:Int) (x1:LB) (x2:List (Int×Int)) (x3:List (List (Int×(Int×LB)))) (x4:Int):Option LB:=
 sX 0 (wI (x4 - x0)) (x3.length:Int) (x3.length) <|
 (Ab DB (x1,(List.drop (Int.toNat 0) x3).take ((wI (x4 - x0)).toNat - Int.toNat 0),(((List.drop (Int.toNat 0) x3).take ((wI (x4 - x0)).toNat - Int.toNat 0)).length:Int),0)).bind λv3=>
 some v3
def RY (x0:Int):Option (List (Int×(Int×LB))):=
 if decide (x0=0)then
  some []
 else
  some [(x0,(0,[]))]
def JS (y:AgZ):Option (AgZ⊕U70):=
 if decide (y.2.2.2.2.1 < y.2.2.2.1)then
  cK (Aa (y.2.2.2.2.2.1.length+([decide (0 < y.2.2.2.2.2.2.2.1)]:List Bool).length) 1) <|
  cK (Aa (y.2.2.2.2.2.2.1.length+([([]:LB)]:List LB).length) 16) <|
  some (.inl (y.1,y.2.1,y.2.2.1,y.2.2.2.1,wI (y.2.2.2.2.1+1),y.2.2.2.2.2.1++([decide (0 < y.2.2.2.2.2.2.2.1)]:List Bool),y.2.2.2.2.2.2.1++([([]:LB)]:List LB),y.2.2.2.2.2.2.2.1,y.2.2.2.2.2.2.2.2.1,y.2.2.2.2.2.2.2.2.2))
 else
  some (.inr (y.1,y.2.1,y.2.2.1,y.2.2.2.2.2.1,y.2.2.2.2.2.2.1))
def JC (y:U70):Option (U70⊕(List Bool×List LB)):=
 if decide (y.2.2.1 < y.2.1)then
  gX y.1 y.2.2.1 λr6=>
  cZ (wI ((y.2.2.2.2.length:Int) - 1)) <|
  cK (decide (wI ((y.2.2.2.2.length:Int) - 1) < (y.2.2.2.2.length:Int))) <|
  Option.bind (y.2.2.2.2[0+(wI ((y.2.2.2.2.length:Int) - 1)).toNat]?) λr7=>
  cK (decide ((r7.length+r6.2.2.length:Nat)<=9223372036854775807)) <|
  cZ (wI ((y.2.2.2.2.length:Int) - 1)) <|
  cK (decide (wI ((y.2.2.2.2.length:Int) - 1) < (y.2.2.2.2.length:Int))) <|
  Option.bind (y.2.2.2.2[0+(wI ((y.2.2.2.2.length:Int) - 1)).toNat]?) λr8=>
  Option.bind (y.2.2.2.2[0+(wI ((y.2.2.2.2.length:Int) - 1)).toNat]?) λr9=>
  (Ab JS (y.1,y.2.1,y.2.2.1,wI (r6.1+r6.2.1),0,y.2.2.2.1,y.2.2.2.2.set (0+(wI ((y.2.2.2.2.length:Int) - 1)).toNat) ((r7:LB)++r6.2.2),r6.1,r6.2.1,r6.2.2)).bind λv10=>
  some (.inl (v10.1,v10.2.1,wI (v10.2.2.1+1),v10.2.2.2.1,v10.2.2.2.2))
 else
  some (.inr (y.2.2.2.1,y.2.2.2.2))
def PG (x0:List (Int×(Int×LB))):Option ((List Bool×List LB)):=
 (Ab JC (x0,(x0.length:Int),0,[],[([]:LB)])).bind λv11=>
 some (v11.1,v11.2)
def Dv (x0 x1:Int) (x2:LB) (x3:List (Int×(Int×LB))):Option (List (Int×(Int×LB))):=
 Option.bind (α:=List (Int×(Int×LB))) (
  if decide (x0=0) && (decide (x1=0) && (((x2:LB) == []) && true))then
   some x3
  else
   Option.bind (α:=U85) (
    if decide (0 < (x3.length:Int))then
     cZ (wI ((x3.length:Int) - 1)) <|
     cK (decide (wI ((x3.length:Int) - 1) < (x3.length:Int))) <|
     Option.bind (x3[0+(wI ((x3.length:Int) - 1)).toNat]?) λr1=>
     Option.bind (x3[0+(wI ((x3.length:Int) - 1)).toNat]?) λr2=>
     Option.bind (x3[0+(wI ((x3.length:Int) - 1)).toNat]?) λr3=>
     (Eu r1.1 r2.2.1 r3.2.2).bind λc4=>
     (Eu x0 x1 x2).bind λc5=>
     some ((x3.length:Int),decide (c4=c5),x0,x1,x2,x3)
    else
    some ((x3.length:Int),false,x0,x1,x2,x3)) λv6=>
   Option.bind (α:=List (Int×(Int×LB))) (
    if v6.2.1 then
     cZ (wI (v6.1 - 1)) <|
     cK (decide (wI (v6.1 - 1) < (v6.2.2.2.2.2.length:Int))) <|
     Option.bind (v6.2.2.2.2.2[0+(wI (v6.1 - 1)).toNat]?) λr7=>
     Option.bind (v6.2.2.2.2.2[0+(wI (v6.1 - 1)).toNat]?) λr8=>
     Option.bind (v6.2.2.2.2.2[0+(wI (v6.1 - 1)).toNat]?) λr9=>
     cK (decide ((r9.2.2.length+v6.2.2.2.2.1.length:Nat)<=9223372036854775807)) <|
     Option.bind (v6.2.2.2.2.2[0+(wI (v6.1 - 1)).toNat]?) λr10=>
     Option.bind (v6.2.2.2.2.2[0+(wI (v6.1 - 1)).toNat]?) λr11=>
     Option.bind ((v6.2.2.2.2.2.set (0+(wI (v6.1 - 1)).toNat) (wI (r7.1+v6.2.2.1),r11.2))[0+(wI (v6.1 - 1)).toNat]?) λr12=>
     Option.bind ((v6.2.2.2.2.2.set (0+(wI (v6.1 - 1)).toNat) (wI (r7.1+v6.2.2.1),r11.2))[0+(wI (v6.1 - 1)).toNat]?) λr13=>
     Option.bind (((v6.2.2.2.2.2.set (0+(wI (v6.1 - 1)).toNat) (wI (r7.1+v6.2.2.1),r11.2)).set (0+(wI (v6.1 - 1)).toNat) (r13.1,(wI (r8.2.1+v6.2.2.2.1),r13.2.2)))[0+(wI (v6.1 - 1)).toNat]?) λr14=>
     Option.bind (((v6.2.2.2.2.2.set (0+(wI (v6.1 - 1)).toNat) (wI (r7.1+v6.2.2.1),r11.2)).set (0+(wI (v6.1 - 1)).toNat) (r13.1,(wI (r8.2.1+v6.2.2.2.1),r13.2.2)))[0+(wI (v6.1 - 1)).toNat]?) λr15=>
     some (((v6.2.2.2.2.2.set (0+(wI (v6.1 - 1)).toNat) (wI (r7.1+v6.2.2.1),r11.2)).set (0+(wI (v6.1 - 1)).toNat) (r13.1,(wI (r8.2.1+v6.2.2.2.1),r13.2.2))).set (0+(wI (v6.1 - 1)).toNat) (r15.1,(r15.2.1,(r9.2.2:LB)++v6.2.2.2.2.1)))
    else
    cK (Aa (v6.2.2.2.2.2.length+([(v6.2.2.1,(v6.2.2.2.1,v6.2.2.2.2.1))]:List (Int×(Int×LB))).length) 32) <|
    some (v6.2.2.2.2.2++([(v6.2.2.1,(v6.2.2.2.1,v6.2.2.2.2.1))]:List (Int×(Int×LB))))) λv16=>
   some v16) λv17=>
 some v17
def LS (y:U94):Option (U94⊕(List (Int×(Int×LB)))):=
 if decide (y.2.2.1 < y.2.1)then
  gX y.1 y.2.2.1 λr9=>
  Option.bind (α:=AiY) (
   if(!((r9:LB) == ([]:LB)))then
    (Dv 0 0 r9 y.2.2.2.2.2).bind λc10=>
    some (y.2.2.1,y.1,y.2.1,y.2.2.1,y.2.2.2.1,y.2.2.2.2.1,c10)
   else
    some (y.2.2.1,y.1,y.2.1,y.2.2.1,y.2.2.2.1,y.2.2.2.2.1,y.2.2.2.2.2)) λv11=>
  Option.bind (α:=U94) (
   if decide (v11.1=(v11.2.2.2.2.1.length:Int))then
    some (v11.2.1,v11.2.2.1,v11.2.2.2.1,v11.2.2.2.2.1,v11.2.2.2.2.2.1,v11.2.2.2.2.2.2)
   else
   gX v11.2.2.2.2.1 v11.1 λr12=>
   Option.bind (α:=U94) (
     if r12 then
      (Dv 1 0 [] v11.2.2.2.2.2.2).bind λc13=>
      some (v11.2.1,v11.2.2.1,v11.2.2.2.1,v11.2.2.2.2.1,v11.2.2.2.2.2.1,c13)
     else
      (Dv 0 1 [] v11.2.2.2.2.2.2).bind λc14=>
      some (v11.2.1,v11.2.2.1,v11.2.2.2.1,v11.2.2.2.2.1,v11.2.2.2.2.2.1,c14)) λv15=>
   some (v15.1,v15.2.1,v15.2.2.1,v15.2.2.2.1,v15.2.2.2.2.1,v15.2.2.2.2.2)) λv16=>
  some (.inl (v16.1,v16.2.1,wI (v16.2.2.1+1),v16.2.2.2.1,v16.2.2.2.2.1,v16.2.2.2.2.2))
 else
  some (.inr y.2.2.2.2.2)
def If (x0:List Bool) (x1:List LB):Option (List (Int×(Int×LB))):=
 (Ab LS (x1,(x1.length:Int),0,x0,x1,[])).bind λv17=>
 some v17
def F6 (y:AeB):Option (AeB⊕Ajb):=
 if decide (y.2.2.2.2.2.2.2.2.1 < y.2.2.2.2.2.2.2.1)then
  cZ y.1 <|
  cK (decide (y.1 < (y.2.2.2.2.2.2.2.2.2.2.1.length:Int))) <|
  Option.bind (y.2.2.2.2.2.2.2.2.2.2.1[0+y.1.toNat]?) λr16=>
  Option.bind (α:=AeB) (
   if r16 then
    sX y.2.2.2.2.2.2.2.2.1 (wI (y.2.2.2.2.2.2.2.2.1+1)) (y.2.2.1.length:Int) (y.2.2.1.length) <|
    cK (decide ((y.2.2.2.1.length+(((y.2.2.1:LB).drop (y.2.2.2.2.2.2.2.2.1.toNat)).take ((wI (y.2.2.2.2.2.2.2.2.1+1)).toNat - y.2.2.2.2.2.2.2.2.1.toNat)).length:Nat)<=9223372036854775807)) <|
    some (y.1,y.2.1,y.2.2.1,(y.2.2.2.1:LB)++(((y.2.2.1:LB).drop (y.2.2.2.2.2.2.2.2.1.toNat)).take ((wI (y.2.2.2.2.2.2.2.2.1+1)).toNat - y.2.2.2.2.2.2.2.2.1.toNat)),y.2.2.2.2.1,y.2.2.2.2.2.1,y.2.2.2.2.2.2.1,y.2.2.2.2.2.2.2.1,y.2.2.2.2.2.2.2.2.1,y.2.2.2.2.2.2.2.2.2.1,y.2.2.2.2.2.2.2.2.2.2.1,y.2.2.2.2.2.2.2.2.2.2.2.1,y.2.2.2.2.2.2.2.2.2.2.2.2.1,y.2.2.2.2.2.2.2.2.2.2.2.2.2)
   else
    some (y.1,y.2.1,y.2.2.1,y.2.2.2.1,y.2.2.2.2.1,y.2.2.2.2.2.1,y.2.2.2.2.2.2.1,y.2.2.2.2.2.2.2.1,y.2.2.2.2.2.2.2.2.1,y.2.2.2.2.2.2.2.2.2.1,y.2.2.2.2.2.2.2.2.2.2.1,y.2.2.2.2.2.2.2.2.2.2.2.1,y.2.2.2.2.2.2.2.2.2.2.2.2.1,y.2.2.2.2.2.2.2.2.2.2.2.2.2)) λv17=>
  cZ (wI (v17.1+1)) <|
  cK (decide (wI (v17.1+1) < (v17.2.2.2.2.2.2.2.2.2.2.2.1.length:Int))) <|
  Option.bind (v17.2.2.2.2.2.2.2.2.2.2.2.1[0+(wI (v17.1+1)).toNat]?) λr18=>
  cK (decide ((v17.2.2.2.1.length+r18.length:Nat)<=9223372036854775807)) <|
  some (.inl (wI (v17.1+1),v17.2.1,v17.2.2.1,(v17.2.2.2.1:LB)++r18,v17.2.2.2.2.1,v17.2.2.2.2.2.1,v17.2.2.2.2.2.2.1,v17.2.2.2.2.2.2.2.1,wI (v17.2.2.2.2.2.2.2.2.1+1),v17.2.2.2.2.2.2.2.2.2.1,v17.2.2.2.2.2.2.2.2.2.2.1,v17.2.2.2.2.2.2.2.2.2.2.2.1,v17.2.2.2.2.2.2.2.2.2.2.2.2.1,v17.2.2.2.2.2.2.2.2.2.2.2.2.2))
 else
  some (.inr (y.1,y.2.1,y.2.2.2.1,y.2.2.2.2.1,y.2.2.2.2.2.1,y.2.2.2.2.2.2.1,y.2.2.2.2.2.2.2.2.2.1,y.2.2.2.2.2.2.2.2.2.2.1,y.2.2.2.2.2.2.2.2.2.2.2.1,y.2.2.2.2.2.2.2.2.2.2.2.2.1,y.2.2.2.2.2.2.2.2.2.2.2.2.2))
def KI (y:Aa6):Option (Aa6⊕(List Bool×List LB)):=
 if decide (y.2.2.2.2.1 < y.2.2.2.1)then
  Option.bind (α:=Aa6⊕(List Bool×List LB)) (
    cZ y.2.2.2.2.1 <|
    cK (decide (y.2.2.2.2.1 < (y.2.2.1.length:Int))) <|
    Option.bind (y.2.2.1[0+y.2.2.2.2.1.toNat]?) λr15=>
    (Ab F6 (y.1,y.2.2.2.2.1,r15,y.2.1,y.2.2.1,y.2.2.2.1,y.2.2.2.2.1,(r15.length:Int),0,y.2.2.2.2.2.1,y.2.2.2.2.2.2.1,y.2.2.2.2.2.2.2.1,y.2.2.2.2.2.2.2.2.1,y.2.2.2.2.2.2.2.2.2)).bind λv19=>
    cK (Aa (v19.2.2.2.2.2.2.2.2.2.2.length+([v19.2.2.1]:List LB).length) 16) <|
    if decide (v19.2.1=(v19.2.2.2.2.2.2.1.length:Int))then
     some (.inr (v19.2.2.2.2.2.2.2.2.2.1,v19.2.2.2.2.2.2.2.2.2.2++([v19.2.2.1]:List LB)))
    else
    cZ v19.2.1 <|
    cK (decide (v19.2.1 < (v19.2.2.2.2.2.2.1.length:Int))) <|
    Option.bind (v19.2.2.2.2.2.2.1[0+v19.2.1.toNat]?) λr20=>
    if(!r20)then
     cK (Aa (v19.2.2.2.2.2.2.2.2.2.1.length+([false]:List Bool).length) 1) <|
     some (.inl (v19.1,([]:LB),v19.2.2.2.1,v19.2.2.2.2.1,v19.2.2.2.2.2.1,v19.2.2.2.2.2.2.1,v19.2.2.2.2.2.2.2.1,v19.2.2.2.2.2.2.2.2.1,v19.2.2.2.2.2.2.2.2.2.1++([false]:List Bool),v19.2.2.2.2.2.2.2.2.2.2++([v19.2.2.1]:List LB)))
    else
    cZ v19.1 <|
    cK (decide (v19.1 < (v19.2.2.2.2.2.2.2.1.length:Int))) <|
    Option.bind (v19.2.2.2.2.2.2.2.1[0+v19.1.toNat]?) λr21=>
    cK (Aa (v19.2.2.2.2.2.2.2.2.2.1.length+([r21]:List Bool).length) 1) <|
    cZ (wI (v19.1+1)) <|
    cK (decide (wI (v19.1+1) < (v19.2.2.2.2.2.2.2.2.1.length:Int))) <|
    Option.bind (v19.2.2.2.2.2.2.2.2.1[0+(wI (v19.1+1)).toNat]?) λr22=>
    some (.inl (wI (v19.1+1),r22,v19.2.2.2.1,v19.2.2.2.2.1,v19.2.2.2.2.2.1,v19.2.2.2.2.2.2.1,v19.2.2.2.2.2.2.2.1,v19.2.2.2.2.2.2.2.2.1,v19.2.2.2.2.2.2.2.2.2.1++([r21]:List Bool),v19.2.2.2.2.2.2.2.2.2.2++([v19.2.2.1]:List LB)))) λv23=>
  match v23 with
  | .inl y24=>
   some (.inl (y24.1,y24.2.1,y24.2.2.1,y24.2.2.2.1,wI (y24.2.2.2.2.1+1),y24.2.2.2.2.2.1,y24.2.2.2.2.2.2.1,y24.2.2.2.2.2.2.2.1,y24.2.2.2.2.2.2.2.2.1,y24.2.2.2.2.2.2.2.2.2))
  | .inr s25=>
   some (.inr (s25.1,s25.2))
 else
  some (.inr (y.2.2.2.2.2.2.2.2.1,y.2.2.2.2.2.2.2.2.2))
def LG (x0 x1:List (Int×(Int×LB))):Option (List (Int×(Int×LB))):=
 (PG x0).bind λc1=>
 (PG x1).bind λc2=>
 cZ 0 <|
 cK (decide (0 < (c2.2.length:Int))) <|
 Option.bind (c2.2[0+Int.toNat 0]?) λr3=>
 (Ab KI (0,r3,c1.2,(c1.2.length:Int),0,c1.1,c2.1,c2.2,[],[])).bind λv26=>
 (If v26.1 v26.2).bind λc27=>
 some c27
def FM (y:U51):Option (U51⊕(List (Int×(Int×LB)))):=
 if decide (y.2.2.2 < y.2.2.1)then
  gX y.2.1 y.2.2.2 λr4=>
  (LG y.1 r4).bind λc5=>
  some (.inl (c5,y.2.1,y.2.2.1,wI (y.2.2.2+1)))
 else
  some (.inr y.1)
def Ki (x0:List (List (Int×(Int×LB)))):Option (List (Int×(Int×LB))):=
 gX x0 0 λr1=>
 sX 1 (x0.length:Int) (x0.length:Int) (x0.length) <|
 (Ab FM (r1,(List.drop (Int.toNat 1) x0).take ((x0.length:Int).toNat - Int.toNat 1),(((List.drop (Int.toNat 1) x0).take ((x0.length:Int).toNat - Int.toNat 1)).length:Int),0)).bind λv6=>
 cK (Aa (([]:List (Int×(Int×LB))).length+v6.length) 32) <|
 some (([]:List (Int×(Int×LB)))++v6)
def EE (x0:Int) (x1:LB) (x2:List (Int×Int)) (x3:List (List (Int×(Int×LB)))) (x4 x5:Int):Option (List (Int×(Int×LB))):=
 if decide (x4=x5)then
  (DT x0 x1 x2 x3 x4).bind λc1=>
  (RY (c1.length:Int)).bind λc2=>
  some c2
 else
 sX (wI (x4 - x0)) (wI (x5 - x0)) (x3.length:Int) (x3.length) <|
 (Ki ((List.drop ((wI (x4 - x0)).toNat) x3).take ((wI (x5 - x0)).toNat - (wI (x4 - x0)).toNat))).bind λc3=>
 some c3
def Am (y:U48):Option (U48⊕(Unit⊕Bool)):=match y with
 | (a,b,c,d)=>
 if decide (d < c)then
  gX a d λr1=>
  gX b d λr2=>
  if(!(decide (r1.1=r2.1) && (decide (r1.2.1=r2.2.1) && (((r1.2.2:LB) == r2.2.2) && true))))then
   some (.inr (.inr false))
  else
   some (.inl (a,b,c,wI (d+1)))
 else
  some (.inr (.inl ()))
def Av (x0 x1:List (Int×(Int×LB))):Option (Bool):=
 if decide (¬ (x0.length:Int)=(x1.length:Int))then
  some false
 else
  (Ab Am (x0,x1,(x0.length:Int),0)).bind λv3=>
  match v3 with
  | .inl y4=>
   some true
  | .inr s5=>
   some s5
def Iv (x0 x1:List (Int×(Int×LB))):Option (Bool):=
 (Av x0 x1).bind λc1=>
 some c1
def I3 (x0:Int) (x1:LB) (x2:List (Int×Int)) (x3:List (List (Int×(Int×LB)))):Option (Int):=
 some (wI (x0+(x3.length:Int)))
def Hr (y:(Int×(Int×(LI×Int)))):Option ((Int×(Int×(LI×Int)))⊕LI):=match y with
 | (a,b,c,d)=>
 if decide (d<=a)then
  cK (decide (¬ b=0)) <|
  Option.bind (α:=(Int×(Int×(LI×Int)))) (
   if decide (Int.tmod d b=0)then
    cK (Aa (c.length+([d]:LI).length) 8) <|
    some (a,b,c++([d]:LI),d)
   else
    some (a,b,c,d)) λ(e,f,g,h)=>
  some (.inl (e,f,g,wI (h+1)))
 else
  some (.inr c)
def KQ (x0 x1 x2:Int):Option LI:=
 (Ab Hr (x1,x2,[],wI (x0+1))).bind λv2=>
 some v2
def EM (y:U65):Option (U65⊕(List (Int×Int))):=
 if decide (y.2.1 < 1024)then
  (DW y.2.2.1 y.2.2.2.1 y.2.2.2.2 y.2.1).bind λc1=>
  Option.bind (α:=U65) (
   if decide (¬ c1=0)then
    cK (Aa (y.1.length+([(y.2.1,c1)]:List (Int×Int)).length) 16) <|
    some (y.1++([(y.2.1,c1)]:List (Int×Int)),y.2.1,y.2.2.1,y.2.2.2.1,y.2.2.2.2)
   else
    some (y.1,y.2.1,y.2.2.1,y.2.2.2.1,y.2.2.2.2)) λv2=>
  some (.inl (v2.1,wI (v2.2.1+1),v2.2.2.1,v2.2.2.2.1,v2.2.2.2.2))
 else
  some (.inr y.1)
def Ju (x0:Int) (x1:LI) (x2:LL):Option (List (Int×Int)):=
 (Ab EM ([],0,x0,x1,x2)).bind λv3=>
 some v3
def FY (x0:List Int):Option (List Int):=
 if x0.length < 4611686018427387904 then some (x0.mergeSort λx y=>decide (x<=y))else none
def C8 (y:U23):Option (U23⊕LI):=match y with
 | (a,b,c)=>
 if decide (c < (a.1.length:Int))then
  (EV a c).bind λc1=>
  Option.bind (α:=U23) (
   if c1 then
    cK (Aa (b.length+([c]:LI).length) 8) <|
    some (a,b++([c]:LI),c)
   else
    some (a,b,c)) λ(d,e,f)=>
  some (.inl (d,e,wI (f+1)))
 else
  some (.inr b)
def Fo (x0:U41):Option LI:=
 (Ab C8 (x0,[],33)).bind λv3=>
 some v3
def Cp (y:U31):Option (U31⊕(Unit⊕Bool)):=match y with
 | (a,b,c,d)=>
 if decide (d < c)then
  gX a d λr1=>
  gX b d λr2=>
  if decide (¬ r1=r2)then
   some (.inr (.inr false))
  else
   some (.inl (a,b,c,wI (d+1)))
 else
  some (.inr (.inl ()))
def DF (x0 x1:LI):Option (Bool):=
 if decide (¬ (x0.length:Int)=(x1.length:Int))then
  some false
 else
  (Ab Cp (x0,x1,(x0.length:Int),0)).bind λv3=>
  match v3 with
  | .inl y4=>
   some true
  | .inr s5=>
   some s5
def Mj (y:Rm):Option (Rm⊕U88):=match y with
 | (a,b,c,d,e,f,g,h,i)=>
 if decide (c < b)then
  gX a c λr1=>
  Option.bind (α:=AgG) (
   if g then
    some (r1,a,b,c,d,e,f,true,h,i)
   else
    (AK e r1).bind λc2=>
    some (r1,a,b,c,d,e,f,c2,h,i)) λ(j,k,l,m,n,o,p,q,r,s)=>
  cK (Aa (o.length+([j]:LI).length) 8) <|
  some (.inl (k,l,wI (m+1),n,o++([j]:LI),p,q,r,s))
 else
  some (.inr (d,e,f,g,h,i))
def Oy (x0 x1 x2 x3:LI) (x4:Bool) (x5:LL) (x6:List (Int×Int)):Option U88:=
 (Ab Mj (x0,(x0.length:Int),0,x1,x2,x3,x4,x5,x6)).bind λ(a,b,c,d,e,f)=>
 some (a,b,c,d,e,f)
def Cg (y:Rm):Option (Rm⊕Ah5):=match y with
 | (a,b,c,d,e,f,g,h,i)=>
 if decide (c < b)then
  cZ c <|
  cK (decide (c < (a.length:Int))) <|
  Option.bind (a[0+c.toNat]?) λr1=>
  Option.bind (α:=Ajq) (
   if g then
    some (a,r1,b,c,d,e,f,true,h,i)
   else
    (AK e r1).bind λc2=>
    some (a,r1,b,c,d,e,f,c2,h,i)) λ(j,k,l,m,n,o,p,q,r,s)=>
  cK (Aa (o.length+([k]:LI).length) 8) <|
  some (.inl (j,l,wI (m+1),n,o++([k]:LI),p,q,r,s))
 else
  some (.inr (a,d,e,f,g,h,i))
def BH (x0 x1 x2 x3:LI) (x4:Bool) (x5:LL) (x6:List (Int×Int)):Option Ah5:=
 (Ab Cg (x0,(x0.length:Int),0,x1,x2,x3,x4,x5,x6)).bind λ(a,b,c,d,e,f,g)=>
 some (a,b,c,d,e,f,g)
def CH (y:Rm):Option (Rm⊕U88):=match y with
 | (a,b,c,d,e,f,g,h,i)=>
 if decide (c < b)then
  gX a c λr1=>
  Option.bind (α:=AgG) (
   if g then
    some (r1,a,b,c,d,e,f,true,h,i)
   else
    (AK e r1).bind λc2=>
    some (r1,a,b,c,d,e,f,c2,h,i)) λ(j,k,l,m,n,o,p,q,r,s)=>
  cK (Aa (o.length+([j]:LI).length) 8) <|
  some (.inl (k,l,wI (m+1),n,o++([j]:LI),p,q,r,s))
 else
  some (.inr (d,e,f,g,h,i))
def Ef (x0 x1 x2 x3:LI) (x4:Bool) (x5:LL) (x6:List (Int×Int)):Option U88:=
 (Ab CH (x0,(x0.length:Int),0,x1,x2,x3,x4,x5,x6)).bind λ(a,b,c,d,e,f)=>
 some (a,b,c,d,e,f)
def B5 (y:AhO):Option (AhO⊕AhD):=match y with
 | (a,b,c,d,e,f,g,h,i,j,k,l,m,n,o,p,q,r,s,t,u,v)=>
 if decide (d < c)then
  gX b d λr4=>
  Option.bind (α:=Ajm) (
   if decide (CB v r4=0)then
    (BH [r4] e f g h i v).bind λ(_,w,x,z,a0,b0,c0)=>
    some (a,r4,b,c,d,w,x,z,a0,b0,j,k,l,m,n,o,p,q,r,s,t,u,c0)
   else
    some (a,r4,b,c,d,e,f,g,h,i,j,k,l,m,n,o,p,q,r,s,t,u,v)) λ(d0,e0,f0,g0,h0,i0,j0,k0,l0,m0,n0,o0,p0,q0,r0,s0,t0,u0,v0,w0,x0,y0,z0)=>
  some (.inl (d0,f0,g0,wI (h0+1),i0,j0,k0,l0,m0,n0,o0,p0,q0,r0,s0,t0,u0,v0,w0,x0,y0,Ds z0 e0 (wI ((CB z0 e0)+1))))
 else
  some (.inr (a,e,f,g,h,i,j,k,l,m,n,o,p,q,r,s,t,u,v))
def Bj (x0:Int) (x1 x2 x3:LI) (x4:Bool) (x5:LL) (x6:Int) (x7:Bool) (x8 x9 x10 x11 x12 x13:Int) (x14:LL) (x15 x16 x17:LI) (x18:List (Int×Int)):Option AhD:=
 Option.bind (α:=AjF) (
   (Il (x14,(x15,(x16,x17))) x0).bind λ(a,b,c)=>
   some (a,b,c,x1,x2,x3,x4,x5,x6,x7,x8,x9,x10,x11,x12,x13,x14,x15,x16,x17,x18)) λ(d,e,f,g,h,i,j,k,l,m,n,o,p,q,r,s,t,u,v,w,x)=>
 if(!f)then
  some (([]:LB),g,h,i,true,k,l,m,n,o,p,q,r,s,t,u,v,w,x)
 else
 sX (wI ((e.length:Int) - 1)) (e.length:Int) (e.length:Int) (e.length) <|
 (Ef ((List.drop ((wI ((e.length:Int) - 1)).toNat) e).take ((e.length:Int).toNat - (wI ((e.length:Int) - 1)).toNat)) g h i j k x).bind λ(y,z,a0,b0,c0,d0)=>
 sX 0 (wI ((e.length:Int) - 1)) (e.length:Int) (e.length) <|
 (Ab B5 (d,(List.drop (Int.toNat 0) e).take ((wI ((e.length:Int) - 1)).toNat - Int.toNat 0),(((List.drop (Int.toNat 0) e).take ((wI ((e.length:Int) - 1)).toNat - Int.toNat 0)).length:Int),0,y,z,a0,b0,c0,l,m,n,o,p,q,r,s,t,u,v,w,d0)).bind λ(e0,f0,g0,h0,i0,j0,k0,l0,m0,n0,o0,p0,q0,r0,s0,t0,u0,v0,w0)=>
 some (e0,f0,g0,h0,i0,j0,k0,l0,m0,n0,o0,p0,q0,r0,s0,t0,u0,v0,w0)
def Bw (x0:Int) (x1 x2 x3:LI) (x4:Bool) (x5:LL) (x6:Int) (x7:Bool) (x8 x9 x10 x11 x12 x13:Int) (x14:LL) (x15 x16 x17:LI) (x18:Int) (x19:LI) (x20:LL) (x21:List (Int×Int)):Option AhC:=
 cK (Aa (x1.length+([x0]:LI).length) 8) <|
 (DW x18 x19 x20 x0).bind λc1=>
 (GT (x14,(x15,(x16,x17))) c1).bind λ(a,b,c)=>
 Option.bind (α:=Aje) (
  if x4 then
   some (a,b,x1++([x0]:LI),x2,x3,true,x5,x6,x7,x8,x9,x10,x11,x12,x13,x14,x15,x16,x17,x18,x19,x20,x21)
  else
  some (a,b,x1++([x0]:LI),x2,x3,(!c),x5,x6,x7,x8,x9,x10,x11,x12,x13,x14,x15,x16,x17,x18,x19,x20,x21)) λ(d,e,f,g,h,i,j,k,l,m,n,o,p,q,r,s,t,u,v,w,x,y,z)=>
 (BH e f g h i j z).bind λ(_,a0,b0,c0,d0,e0,f0)=>
 some (d,a0,b0,c0,d0,e0,k,l,m,n,o,p,q,r,s,t,u,v,w,x,y,f0)
def B0 (y:Aey):Option (Aey⊕Ajd):=match y with
 | (a,b,c,d,e,f,g,h,i,j,k,l,m,n,o,p,q,r,s,t,u,v,w,x,z,a0,b0,c0,d0)=>
 if decide (d < c)then
  cZ d <|
  cK (decide (d < (a.length:Int))) <|
  Option.bind (a[0+d.toNat]?) λr5=>
  Option.bind (a[0+d.toNat]?) λr6=>
  Option.bind (α:=Ajc) (
   (MH r5.1 r6.2).bind λc7=>
   (Bw c7 e f g h j k l m n o p q r s t u v w x z i).bind λ(e0,f0,g0,h0,i0,j0,k0,l0,m0,n0,o0,p0,q0,r0,s0,t0,u0,v0,w0,x0,y0,z0)=>
   (E4 e0).bind λc9=>
   some (a,b,c9.1,c9.2,c,d,r5.1,r6.2,f0,g0,h0,i0,z0,j0,k0,l0,m0,n0,o0,p0,q0,r0,s0,t0,u0,v0,w0,x0,y0,a0,b0,c0,d0)) λ(a1,b1,c1,d1,e1,f1,g1,h1,i1,j1,k1,l1,m1,n1,o1,p1,q1,r1,s1,t1,u1,v1,w1,x1,y1,z1,a2,b2,c2,d2,e2,f2,g2)=>
  Option.bind (α:=AiX) (
   if l1 then
    some (a1,b1,c1,e1,f1,g1,h1,i1,j1,k1,true,m1,n1,o1,p1,q1,r1,s1,t1,u1,v1,w1,x1,y1,z1,a2,b2,c2,d2,e2,f2,g2)
   else
   some (a1,b1,c1,e1,f1,g1,h1,i1,j1,k1,(!d1),m1,n1,o1,p1,q1,r1,s1,t1,u1,v1,w1,x1,y1,z1,a2,b2,c2,d2,e2,f2,g2)) λ(h2,i2,j2,k2,l2,m2,_,n2,o2,p2,q2,r2,s2,t2,u2,v2,w2,x2,y2,z2,a3,b3,c3,d3,e3,f3,g3,h3,i3,j3,k3,l3)=>
  cK (Aa (i2.length+([j2]:List (List (Int×(Int×LB)))).length) 24) <|
  Option.bind (α:=Aey) (
   if decide (m2=0)then
    cK (Aa (l3.length+([j2]:List (List (Int×(Int×LB)))).length) 24) <|
    some (h2,i2++([j2]:List (List (Int×(Int×LB)))),k2,l2,n2,o2,p2,q2,r2,s2,t2,u2,v2,w2,x2,y2,z2,a3,b3,c3,d3,e3,f3,g3,h3,i3,j3,k3,l3++([j2]:List (List (Int×(Int×LB)))))
   else
    some (h2,i2++([j2]:List (List (Int×(Int×LB)))),k2,l2,n2,o2,p2,q2,r2,s2,t2,u2,v2,w2,x2,y2,z2,a3,b3,c3,d3,e3,f3,g3,h3,i3,j3,k3,l3)) λ(m3,n3,o3,p3,q3,r3,s3,t3,u3,v3,w3,x3,y3,z3,a4,b4,c4,d4,e4,f4,g4,h4,i4,j4,k4,l4,m4,n4,o4)=>
  some (.inl (m3,n3,o3,wI (p3+1),q3,r3,s3,t3,u3,v3,w3,x3,y3,z3,a4,b4,c4,d4,e4,f4,g4,h4,i4,j4,k4,l4,m4,n4,o4))
 else
  some (.inr (a,b,e,f,g,h,i,j,k,l,m,n,o,p,q,r,s,t,u,v,w,x,z,a0,b0,c0,d0))
def BB (y:Ahr):Option (Ahr⊕(ND⊕XR)):=match y with
 | (a,b,c,d,e,f,g,h,i,j,k,l,m,n,o,p,q,r,s,t,u,v,w,x,z,a0,b0,c0,d0)=>
 if decide (d < c)then
  cZ d <|
  cK (decide (d < (b.length:Int))) <|
  Option.bind (b[0+d.toNat]?) λr18=>
  Option.bind (b[0+d.toNat]?) λr19=>
  cZ d <|
  cK (decide (d < (a.length:Int))) <|
  Option.bind (a[0+d.toNat]?) λr20=>
  (ER r18.1 r19.2).bind λc21=>
  (Ge r18.1 r19.2).bind λc22=>
  (EE a0 b0 c0 d0 c21 c22).bind λc23=>
  (Iv r20 c23).bind λc24=>
  if(!c24)then
   some (.inr (.inr (false,j,k,l,m,n,o,p,q,r,s,t,u,v,w,x,z,a0,b0,c0,d0)))
  else
   some (.inl (a,b,c,wI (d+1),e,f,g,h,i,j,k,l,m,n,o,p,q,r,s,t,u,v,w,x,z,a0,b0,c0,d0))
 else
  some (.inr (.inl (e,f,g,h,i,j,k,l,m,n,o,p,q,r,s,t,u,v,w,x,z,a0,b0,c0,d0)))
def Bz (y:AgK):Option (AgK⊕(ND⊕XR)):=match y with
 | (a,b,c,d,e,f,g,h,i,j,k,l,m,n,o,p,q,r,s,t,u,v,w,x,z,a0,b0,c0)=>
 if decide (c < b)then
  cZ c <|
  cK (decide (c < (a.length:Int))) <|
  Option.bind (a[0+c.toNat]?) λr30=>
  cK (Aa (d.length+([wI (384+r30)]:LI).length) 8) <|
  (DW v w x (wI (384+r30))).bind λc31=>
  (Bj c31 (d++([wI (384+r30)]:LI)) e f g i j k l m n o p q r s t u h).bind λ(d0,e0,f0,g0,h0,i0,j0,k0,l0,m0,n0,o0,p0,q0,r0,s0,t0,u0,v0)=>
  (DT z a0 b0 c0 r30).bind λc33=>
  if(!((d0:LB) == c33))then
   some (.inr (.inr (false,i0,j0,k0,l0,m0,n0,o0,p0,q0,r0,s0,t0,u0,v,w,x,z,a0,b0,c0)))
  else
   some (.inl (a,b,wI (c+1),e0,f0,g0,h0,v0,i0,j0,k0,l0,m0,n0,o0,p0,q0,r0,s0,t0,u0,v,w,x,z,a0,b0,c0))
 else
  some (.inr (.inl (d,e,f,g,h,i,j,k,l,m,n,o,p,q,r,s,t,u,v,w,x,z,a0,b0,c0)))
def BZ (y:Xm) (e:Int×Int):Option Xm:=match y with
 | (a,b,c,d,f,g,h,i,j,k,l,m,n,o,p,q,r,s,t,u,v,w,x,z)=>
 (FJ (o,(p,(q,r))) e.1).bind λ(_,_,a0,_)=>
 Option.bind (α:=Xm) (
  if d then
   some (a,b,c,true,f,g,h,i,j,k,l,m,n,o,p,q,r,s,t,u,v,w,x,z)
  else
  some (a,b,c,decide (¬ a0=e.2),f,g,h,i,j,k,l,m,n,o,p,q,r,s,t,u,v,w,x,z)) λ(b0,c0,d0,e0,f0,g0,h0,i0,j0,k0,l0,m0,n0,o0,p0,q0,r0,s0,t0,u0,v0,w0,x0,y0)=>
 some (b0,c0,d0,e0,f0,g0,h0,i0,j0,k0,l0,m0,n0,o0,p0,q0,r0,s0,t0,u0,v0,w0,x0,y0)
def B3 (y:Aei):Option (Aei⊕Xm):=match y with
 | (a,b,c,d,e,f,g,h,i,j,k,l,m,n,o,p,q,r,s,t,u,v,w,x,z,a0,b0)=>
 if decide (c < b)then
  cZ c <|
  cK (decide (c < (a.length:Int))) <|
  Option.bind (a[0+c.toNat]?) λr41=>
  Option.bind (a[0+c.toNat]?) λr42=>
  Option.bind (α:=Aei) (
   if g then
    some (a,b,c,d,e,f,true,h,i,j,k,l,m,n,o,p,q,r,s,t,u,v,w,x,z,a0,b0)
   else
    (AK d r41.1).bind λc43=>
    some (a,b,c,d,e,f,(!c43),h,i,j,k,l,m,n,o,p,q,r,s,t,u,v,w,x,z,a0,b0)) λ(c0,d0,e0,f0,g0,h0,i0,j0,k0,l0,m0,n0,o0,p0,q0,r0,s0,t0,u0,v0,w0,x0,y0,z0,a1,b1,c1)=>
  some (.inl (c0,d0,wI (e0+1),f0,g0,h0,i0,j0,k0,l0,m0,n0,o0,p0,q0,r0,s0,t0,u0,v0,w0,x0,y0,z0,a1,b1,c1))
 else
  some (.inr (d,e,f,g,h,i,j,k,l,m,n,o,p,q,r,s,t,u,v,w,x,z,a0,b0))
def Cs (x0:LL) (x1:Int) (x2:Bool) (x3 x4 x5 x6 x7 x8:Int) (x9:LL) (x10 x11 x12:LI) (x13:Int) (x14:LI) (x15:LL) (x16:Int) (x17:LB) (x18:List (Int×Int)) (x19:List (List (Int×(Int×LB)))):Option XR:=
 (II x13 x14 x15).bind λc1=>
 (BH c1 [] [] [] false x0 []).bind λ(_,a,b,c,d,e,f)=>
 (Bj x8 a b c d e x1 x2 x3 x4 x5 x6 x7 x8 x9 x10 x11 x12 f).bind λ(g,h,i,j,k,l,m,n,o,p,q,r,s,t,u,v,w,x,y)=>
 cK (decide (x4=p)) <|
 (Jn x4 q).bind λc4=>
 (Ab B0 (c4,[],(c4.length:Int),0,h,i,j,k,y,l,m,n,o,x4,q,r,s,t,u,v,w,x,x13,x14,x15,x4,g,x18,x19)).bind λ(z,a0,b0,c0,d0,e0,f0,g0,h0,i0,j0,k0,l0,m0,n0,o0,p0,q0,r0,s0,t0,u0,v0,w0,y0,_,z0)=>
 (Bw 448 b0 c0 d0 e0 g0 h0 i0 j0 k0 l0 m0 n0 o0 p0 q0 r0 s0 t0 u0 v0 f0).bind λ(a1,b1,d1,e1,f1,g1,h1,i1,j1,k1,l1,m1,n1,o1,p1,q1,r1,s1,t1,u1,v1,w1)=>
 (GV a1).bind λc15=>
 Option.bind (α:=Aju) (
   if(!c15.2)then
    some (z,a0,true,b1,d1,e1,f1,w1,g1,h1,i1,j1,k1,l1,m1,n1,o1,p1,q1,r1,s1,t1,u1,v1,w0,y0,c15.1,z0)
   else
   if f1 then
    some (z,a0,true,b1,d1,e1,f1,w1,g1,h1,i1,j1,k1,l1,m1,n1,o1,p1,q1,r1,s1,t1,u1,v1,w0,y0,c15.1,z0)
   else
    (Hw w0 y0 c15.1 z0).bind λc16=>
    some (z,a0,(!c16),b1,d1,e1,f1,w1,g1,h1,i1,j1,k1,l1,m1,n1,o1,p1,q1,r1,s1,t1,u1,v1,w0,y0,c15.1,z0)) λ(y1,z1,a2,b2,d2,e2,f2,g2,h2,i2,j2,k2,l2,m2,n2,o2,p2,q2,r2,s2,t2,u2,v2,w2,y2,z2,a3,b3)=>
 if a2 then
  some (false,h2,i2,j2,k2,l2,m2,n2,o2,p2,q2,r2,s2,t2,u2,v2,w2,y2,z2,a3,b3)
 else
  (Ab BB (z1,y1,(y1.length:Int),0,b2,d2,e2,f2,g2,h2,i2,j2,k2,l2,m2,n2,o2,p2,q2,r2,s2,t2,u2,v2,w2,y2,z2,a3,b3)).bind λv25=>
  match v25 with
  | .inl (d3,e3,f3,g3,h3,i3,j3,k3,l3,m3,n3,o3,p3,q3,r3,s3,t3,u3,v3,w3,y3,z3,a4,b4,d4)=>
   (I3 z3 a4 b4 d4).bind λc28=>
   (KQ z3 c28 o3).bind λc29=>
   (Ab Bz (c29,(c29.length:Int),0,d3,e3,f3,g3,h3,i3,j3,k3,l3,m3,n3,o3,p3,q3,r3,s3,t3,u3,v3,w3,y3,z3,a4,b4,d4)).bind λv34=>
   match v34 with
   | .inl (e4,f4,g4,h4,i4,j4,k4,l4,m4,n4,o4,p4,q4,r4,s4,t4,u4,v4,w4,y4,z4,a5,b5,c5,d5)=>
    Option.bind (Nl BZ i4 (e4,f4,g4,h4,j4,k4,l4,m4,n4,o4,p4,q4,r4,s4,t4,u4,v4,w4,y4,z4,a5,b5,c5,d5)) λ(e5,f5,g5,h5,i5,j5,k5,l5,m5,n5,o5,p5,q5,r5,s5,t5,u5,v5,w5,y5,z5,a6,b6,c6)=>
    (Ju v5 w5 y5).bind λc40=>
    (Ab B3 (c40,(c40.length:Int),0,e5,f5,g5,h5,i5,j5,k5,l5,m5,n5,o5,p5,q5,r5,s5,t5,u5,v5,w5,y5,z5,a6,b6,c6)).bind λ(_,d6,_,e6,f6,g6,h6,i6,j6,k6,l6,m6,n6,o6,p6,q6,r6,s6,t6,u6,v6,w6,y6,z6)=>
    (FY d6).bind λc46=>
    Option.bind (α:=XR) (
     if(!e6)then
      (Fo (o6,(p6,(q6,r6)))).bind λc47=>
      (DF c46 c47).bind λc48=>
      some (c48,f6,g6,h6,i6,j6,k6,l6,m6,n6,o6,p6,q6,r6,s6,t6,u6,v6,w6,y6,z6)
     else
     some (false,f6,g6,h6,i6,j6,k6,l6,m6,n6,o6,p6,q6,r6,s6,t6,u6,v6,w6,y6,z6)) λ(a7,b7,c7,d7,e7,f7,g7,h7,i7,j7,k7,l7,m7,n7,o7,p7,q7,r7,s7,t7,u7)=>
    some (a7,b7,c7,d7,e7,f7,g7,h7,i7,j7,k7,l7,m7,n7,o7,p7,q7,r7,s7,t7,u7)
   | .inr (v7,w7,y7,z7,a8,b8,c8,d8,e8,f8,g8,h8,i8,j8,k8,l8,m8,n8,o8,p8,q8)=>
    some (v7,w7,y7,z7,a8,b8,c8,d8,e8,f8,g8,h8,i8,j8,k8,l8,m8,n8,o8,p8,q8)
  | .inr (r8,s8,t8,u8,v8,w8,y8,z8,a9,b9,c9,d9,e9,f9,g9,h9,i9,j9,k9,l9,m9)=>
   some (r8,s8,t8,u8,v8,w8,y8,z8,a9,b9,c9,d9,e9,f9,g9,h9,i9,j9,k9,l9,m9)
def Dh (x0:LL) (x1:Int) (x2:Bool) (x3:Int):Option U13:=
 Option.bind (α:=U55) (
   (GM x0 x1 x2 x3).bind λc1=>
   if(!c1)then
    some (true,x0,x1,x2,x3)
   else
    (GW x0 x1 x2 x3).bind λc2=>
    some (decide (0 < (c2.length:Int)),x0,x1,x2,x3)) λ(a,b,c,d,e)=>
 if a then
  some (none,false)
 else
 gX b 0 λr4=>
 (LW r4).bind λ(f,g,h,i,j,k)=>
 if(!f)then
  some (none,false)
 else
  (Jy b c d e).bind λ(l,m,n)=>
  if(!l)then
   some (none,false)
  else
   (GB (m,(n,([],[]))) j).bind λ(o,p,q,r)=>
   if(!o)then
    some (none,false)
   else
    (Cs b c d e g h i j k m n [] [] p q r 0 [] [] []).bind λ(s,t,u,v,w,x,y,z,a0,b0,c0,d0,e0,f0,g0,h0,i0,j0,k0,l0,m0)=>
    if(!s)then
     some (none,false)
    else
     some (some (t,(u,(v,(w,(x,(y,(z,(a0,(b0,(c0,(d0,(e0,(f0,(g0,(h0,(i0,(j0,(k0,(l0,m0))))))))))))))))))),true)
def Ej (x0:LL) (x1:Int) (x2:Bool) (x3:Int):Option U11:=
 (Dh x0 x1 x2 x3).bind λc1=>
 Option.bind (α:=U97) (
   if(!c1.2)then
    some (c1.1,true,x0,x1,x2,x3)
   else
   some (c1.1,decide (999999900 < x1),x0,x1,x2,x3)) λ(a,b,_,_,c,_)=>
 if b then
  some (none,1)
 else
 if(!c)then
  some (none,2)
 else
  some (a,0)
def Fs (x0:LL) (x1:Int) (x2:Bool) (x3 x4 x5:Int):Option U11:=
 (Ej x0 x1 x2 x3).bind λc1=>
 Option.bind (α:=U27) (
  if decide (c1.2=0)then
   Option.bind (c1.1) λp2=>
   if decide (x4 < p2.2.2.2.2.1)then
    some (c1.1,c1.2,true)
   else
   if decide (x5 < x4)then
    some (c1.1,c1.2,true)
   else
    Option.bind (c1.1) λp3=>
    some (c1.1,c1.2,decide (p3.2.2.2.2.2.1 < x5))
  else
  some (c1.1,c1.2,false)) λ(a,b,c)=>
 Option.bind (α:=U11) (
  if c then
   some (a,3)
  else
   some (a,b)) λv5=>
 some (v5.1,v5.2)
def In (y:U34):Option (U34⊕U34):=match y with
 | (a,b,c,d)=>
 Option.bind (α:=U57) (
   cZ d <|
   cK (decide (¬ wI (1 * 2 ^ (min (d.toNat) (IntKind.bits .i64)))=0)) <|
   if decide (¬ Int.tmod c (wI (1 * 2 ^ (min (d.toNat) (IntKind.bits .i64))))=0)then
    some (a,b,c,d,true)
   else
   cZ d <|
   some (a,b,c,d,decide (a < (wI (c+(wI (1 * 2 ^ (min (d.toNat) (IntKind.bits .i64))))))))) λ(e,f,g,h,i)=>
 if i then
  some (.inl (e,f,g,wI (h - 1)))
 else
  some (.inr (e,f,g,h))
def Fw (y:(Int×(List (Int×Int)×Int))):Option ((Int×(List (Int×Int)×Int))⊕(List (Int×Int))):=match y with
 | (a,b,c)=>
 if decide (c < a)then
  (Ab In (a,b,c,5)).bind λ(d,e,f,g)=>
  cZ g <|
  cK (Aa (e.length+([(g,Int.fdiv f (2 ^ (min (g.toNat) (IntKind.bits .i64))))]:List (Int×Int)).length) 16) <|
  cZ g <|
  some (.inl (d,e++([(g,Int.fdiv f (2 ^ (min (g.toNat) (IntKind.bits .i64))))]:List (Int×Int)),wI (f+(wI (1 * 2 ^ (min (g.toNat) (IntKind.bits .i64)))))))
 else
  some (.inr b)
def P0 (x0 x1:Int):Option (List (Int×Int)):=
 (Ab Fw (x1,[],x0)).bind λv3=>
 some v3
def EC (x0:U2) (x1:Int):Option ((Int×Int)):=
 Option.bind (x0) λp1=>
 Option.bind (x0) λp2=>
 Option.bind (x0) λp3=>
 (KQ p1.2.2.2.2.1 (if(p2.2.2.2.2.2.1:Int) < x1 then p2.2.2.2.2.2.1 else x1) p3.2.2.2.2.2.2.1).bind λc4=>
 if decide (0 < (c4.length:Int))then
  Option.bind (x0) λp5=>
  cZ (wI ((c4.length:Int) - 1)) <|
  cK (decide (wI ((c4.length:Int) - 1) < (c4.length:Int))) <|
  Option.bind (c4[0+(wI ((c4.length:Int) - 1)).toNat]?) λr6=>
  (DW p5.2.2.2.2.2.2.2.2.2.2.2.2.2.1 p5.2.2.2.2.2.2.2.2.2.2.2.2.2.2.1 p5.2.2.2.2.2.2.2.2.2.2.2.2.2.2.2.1 (wI (384+r6))).bind λc7=>
  cZ (wI ((c4.length:Int) - 1)) <|
  cK (decide (wI ((c4.length:Int) - 1) < (c4.length:Int))) <|
  Option.bind (c4[0+(wI ((c4.length:Int) - 1)).toNat]?) λr8=>
  some (c7,r8)
 else
  Option.bind (x0) λp9=>
  Option.bind (x0) λp10=>
  some (p9.2.2.2.2.2.2.2.2.1,p10.2.2.2.2.1)
def Hl (x0:LL) (x1:Int) (x2:Bool) (x3 x4:Int):Option ((LB×(Int×Int))):=
 (Fs x0 x1 x2 x3 x4 x4).bind λc1=>
 if decide (¬ c1.2=0)then
  some (([]:LB),0,c1.2)
 else
  (EC c1.1 x4).bind λc2=>
  Option.bind (c1.1) λp3=>
  (DT p3.2.2.2.2.2.2.2.2.2.2.2.2.2.2.2.2.1 p3.2.2.2.2.2.2.2.2.2.2.2.2.2.2.2.2.2.1 p3.2.2.2.2.2.2.2.2.2.2.2.2.2.2.2.2.2.2.1 p3.2.2.2.2.2.2.2.2.2.2.2.2.2.2.2.2.2.2.2 x4).bind λc4=>
  (P0 c2.2 x4).bind λc5=>
  some (c4,(c5.length:Int),0)
def Is (y:(LI×(LI×Int))):Option ((LI×(LI×Int))⊕(Unit⊕Bool)):=
 if decide (y.2.2 < (y.1.length:Int))then
  gX y.1 y.2.2 λr1=>
  gX y.2.1 y.2.2 λr2=>
  if decide (¬ r1=r2)then
   some (.inr (.inr false))
  else
   some (.inl (y.1,y.2.1,wI (y.2.2+1)))
 else
  some (.inr (.inl ()))
def Lp (x0 x1:LI):Option (Bool):=
 if decide (¬ (x0.length:Int)=(x1.length:Int))then
  some false
 else
  (Ab Is (x0,x1,0)).bind λv3=>
  match v3 with
  | .inl y4=>
   some true
  | .inr s5=>
   some s5
def Hz (y:U19):Option (U19⊕(Unit⊕Bool)):=
 if decide (y.2.2 < (y.1.length:Int))then
  gX y.1 y.2.2 λr1=>
  gX y.2.1 y.2.2 λr2=>
  (Lp r1 r2).bind λc3=>
  if(!c3)then
   some (.inr (.inr false))
  else
   some (.inl (y.1,y.2.1,wI (y.2.2+1)))
 else
  some (.inr (.inl ()))
def JY (x0 x1:LL):Option (Bool):=
 if decide (¬ (x0.length:Int)=(x1.length:Int))then
  some false
 else
  (Ab Hz (x0,x1,0)).bind λv4=>
  match v4 with
  | .inl y5=>
   some true
  | .inr s6=>
   some s6
def KX (x0:LL) (x1:Int) (x2:Bool) (x3:Int) (x4:LL) (x5:Int) (x6:Bool) (x7:Int):Option (Bool):=
 (JY x0 x4).bind λc1=>
 if(!c1)then
  some false
 else
 if decide (¬ x1=x5)then
  some false
 else
 if(x2 != x6)then
  some false
 else
 if decide (¬ x3=x7)then
  some false
 else
  some true
def Dm (x0:LL) (x1:Int) (x2:Bool) (x3 x4:Int):Option (Bool):=
 (N9 x0 x1 x2 x3 1048576).bind λc1=>
 if decide (c1 < 0)then
  some true
 else
  (HW x0 x1 x2 x3).bind λ(a,b,c,d)=>
  (Ha a b c d x4).bind λ(l,m,n)=>
  (HW x0 x1 x2 x3).bind λ(e,f,g,h)=>
  (Hl e f g h x4).bind λ(i,j,k)=>
  Option.bind (α:=AjB) (
    if(!((i:LB) == l))then
     some (true,x0,x1,x2,x3,e,f,g,h)
    else
    if decide (¬ j=m)then
     some (true,x0,x1,x2,x3,e,f,g,h)
    else
    some (decide (¬ k=n),x0,x1,x2,x3,e,f,g,h)) λ(o,p,q,r,s,t,u,v,w)=>
  if o then
   some false
  else
   (HW p q r s).bind λ(x,y,z,a0)=>
   (KX t u v w x y z a0).bind λc8=>
   if(!c8)then
    some false
   else
    some true
end
end Go.V.G
namespace Go.V.G
open Go.V
theorem w64 {n:Int} (h1:-9223372036854775808<=n) (h2:n<=9223372036854775807):IntKind.wrap .i64 n=n:=IntWalk.i64_in n ⟨h1,h2⟩
theorem wu8 {n:Int} (h1:0<=n) (h2:n<=255):IntKind.wrap .u8 n=n:=IntWalk.u8_in n ⟨h1,h2⟩
theorem Yf {n:Int} (h1:0<=n) (h2:n<=18446744073709551615):IntKind.wrap .u64 n=n:=IntWalk.u64_in n ⟨h1,h2⟩
section
variable {σ τ:Type}
theorem An (f:σ->Option (σ⊕τ)) (st:Nat->σ) (n:Nat) (z:τ) (h:∀k,k < n->f (st k)=some (.inl (st (k+1)))) (hz:f (st n)=some (.inr z)):Ab f (st 0)=some z:=by
 have:∀j,j<=n->Ab f (st (n - j))=some z:=by
  intro j
  induction j with
  | zero=>intro _;rw [Ar,AlD,hz]
  | succ j ih=>
   intro hj;rw [Ar,h _ O,(O:n - (j+1)+1=n - j)];exact ih O
 have:=this n (Akk _)
 rwa [AlE]at this
theorem Ad3 (f:σ->Option (σ⊕τ)) (I:σ->Prop) (m:σ->Nat) (Q:τ->Prop) (step:∀x,I x->(∃y,f x=some (.inl y)/\I y/\m y < m x)\/∃z,f x=some (.inr z)/\Q z) :
  ∀x,I x->∃z,Ab f x=some z/\Q z:=by
 intro x
 induction hm:m x using Nat.strongRecOn generalizing x with
 | ind k ih=>
  intro hx;rcases step x hx with⟨y,h1,h2,h3⟩ | ⟨z,h1,h2⟩
  .obtain ⟨z,h4,h5⟩:=ih (m y) O y rfl h2;exact⟨z,by rw [Ar,h1];exact h4,h5⟩
  .exact⟨z,by rw [Ar,h1],h2⟩
theorem Afz (f:σ->Option (σ⊕τ)) (I:σ->Prop) (m:σ->Nat) (F:σ->τ) (step:∀x,I x->(∃y,f x=some (.inl y)/\I y/\m y < m x/\F y=F x)\/f x=some (.inr (F x))) :
  ∀x,I x->Ab f x=some (F x):=by
 intro x
 induction hm:m x using Nat.strongRecOn generalizing x with
 | ind k ih=>
  intro hx;rcases step x hx with⟨y,h1,h2,h3,h4⟩ | h1
  .rw [Ar,h1,<- h4];exact ih (m y) O y rfl h2
  .rw [Ar,h1]
end
end Go.V.G
set_option maxRecDepth 100000
namespace Go.V.G
open Go.V
def Ok {α:Type} (o:Option α) (Q:α->Prop):Prop:=∃r,o=some r/\Q r
section
variable {α β σ τ:Type} {Q:α->Prop}
theorem Ok.mk {r:α} (h:Q r):Ok (some r) Q:=⟨r,rfl,h⟩
theorem Ok.of {o:Option α} {r:α} (h:o=some r) (hq:Q r):Ok o Q:=⟨r,h,hq⟩
theorem Ok.eq {o:Option α} {r:α} (h:Ok o λx=>x=r):o=some r:=by obtain ⟨x,h,rfl⟩:=h;exact h
theorem Ok.mono {o:Option α} {R:α->Prop} (h:Ok o Q) (hq:∀x,Q x->R x):Ok o R:=by obtain ⟨x,h,h'⟩:=h;exact⟨x,h,hq x h'⟩
theorem Ok.bind {o:Option α} {f:α->Option β} {R:β->Prop} (h:Ok o Q) (hf:∀x,Q x->Ok (f x) R):Ok (o.bind f) R:=by
 obtain ⟨x,h,hx⟩:=h;subst h;exact hf x hx
theorem Ok.bind_eq {o:Option α} {f:α->Option β} {R:β->Prop} {r:α} (h:o=some r) (hf:Ok (f r) R):Ok (o.bind f) R:=by subst h;exact hf
theorem Ok.ite {c:Prop} [Decidable c] {a b:Option α} (h1:c->Ok a Q) (h2:¬ c->Ok b Q):Ok (if c then a else b) Q:=by
 split
 .rename_i h;exact h1 h
 .rename_i h;exact h2 h
theorem Ok.yes {c:Prop} [Decidable c] {a b:Option α} (hc:c) (h:Ok a Q):Ok (if c then a else b) Q:=by rw [AjS hc];exact h
theorem Ok.no {c:Prop} [Decidable c] {a b:Option α} (hc:¬ c) (h:Ok b Q):Ok (if c then a else b) Q:=by rw [AjR hc];exact h
theorem Ok.loop {f:σ->Option (σ⊕τ)} (I:σ->Prop) (m:σ->Nat) {R:τ->Prop} {x:σ} (hx:I x) (step:∀x,I x->Ok (f x) λr=>match r with
  | .inl y=>I y/\m y < m x
  | .inr z=>R z):Ok (Ab f x) R:=by
 obtain ⟨z,h1,h2⟩:=Ad3 f I m R (λx hx=>by
  obtain ⟨r,h1,h2⟩:=step x hx;cases r with
  | inl y=>exact .inl ⟨y,h1,h2⟩
  | inr z=>exact .inr ⟨z,h1,h2⟩) x hx
 exact⟨z,h1,h2⟩
end
abbrev Prt:=Int×(Int×List UInt8)
def kd (p:Prt):Int:=if 0 < p.1/\p.2.1=0/\p.2.2=[]then 1 else if 0 < p.2.1/\p.1=0/\p.2.2=[]then 2 else if p.2.2≠[]/\p.1=0/\p.2.1=0 then 3 else 0
theorem O7 (a b:Int) (s:List UInt8):Eu a b s=some (kd (a,b,s)):=by
 unfold Eu kd;by_cases h1:0 < a <;> by_cases h2:b=0 <;> by_cases h3:s=[] <;> by_cases h4:0 < b <;> by_cases h5:a=0 <;> simp [h1,h2,h3,h4,h5]
theorem Lq (a b:Int) (s:List UInt8):F7 a b s=some (kd (a,b,s)):=by
 unfold F7 kd;by_cases h1:0 < a <;> by_cases h2:b=0 <;> by_cases h3:s=[] <;> by_cases h4:0 < b <;> by_cases h5:a=0 <;> simp [h1,h2,h3,h4,h5]
def I64 (n:Int):Prop:=-9223372036854775808<=n/\n<=9223372036854775807
theorem I64.wrap (n:Int):I64 (IntKind.wrap .i64 n):=by rw [IntKind.wrap_i64];unfold I64;omega
theorem I64.eq {n:Int} (h:I64 n):IntKind.wrap .i64 n=n:=w64 h.1 h.2
def BX:List Prt->Nat
 | []=>0
 | p::l=>p.2.2.length+BX l
theorem DO:∀a b:List Prt,BX (a++b)=BX a+BX b
 | [],b=>by simp [BX]
 | p::a,b=>by simp only [AkB,BX,DO a b];omega
theorem HL:∀{l:List Prt} {p:Prt},p∈l->p.2.2.length<=BX l
 | q::l,p,h=>by
  rcases Aj5.1 h with rfl | h
  .simp only [BX];omega
  .have:=HL h;simp only [BX];omega
structure Sm (B:Nat) (l:List Prt):Prop where
 len:l.length<=B
 put:BX l<=B
 fit:∀p∈l,I64 p.1/\I64 p.2.1
theorem Sm.mono {B C:Nat} {l:List Prt} (h:Sm B l) (hc:B<=C):Sm C l:=⟨Ako h.len hc,Ako h.put hc,h.fit⟩
theorem Sm.nil (B:Nat):Sm B []:=⟨All _,All _,λ_ h=>by cases h⟩
def B7 (l:List Prt) (p:Prt):List Prt:=
 if p=(0,0,[])then l else
 match l.getLast? with
 | none=>[p]
 | some q=>if kd q=kd p then l.dropLast++[(IntKind.wrap .i64 (q.1+p.1),IntKind.wrap .i64 (q.2.1+p.2.1),q.2.2++p.2.2)]else l++[p]
theorem Kx {B:Nat} {l:List Prt} {p:Prt} (h:Sm B l) (hp:I64 p.1/\I64 p.2.1) {C:Nat} (hl:B+1<=C) (hc:B+p.2.2.length<=C):Sm C (B7 l p):=by
 unfold B7;split
 .exact h.mono O
 .split
  .exact⟨AjJ,by simp only [BX];have:=h.put;omega,λq hq=>by rw [AjX.1 hq];exact hp⟩
  .rename_i q hq;obtain ⟨l',rfl⟩:=List.getLast?_eq_some_iff.1 hq;have h1:=h.len;have h2:=h.put;rw [DO]at h2;simp only [BX,AjU,AjZ]at h1 h2;split
   .rw [List.dropLast_concat];refine⟨AjJ,by rw [DO];simp only [BX,AjU];omega,λr hr=>?_⟩;rcases AjV.1 hr with hr | hr
    .exact h.fit r (by simp [hr])
    .rw [AjX.1 hr];exact⟨I64.wrap _,I64.wrap _⟩
   .refine⟨AjJ,by rw [DO,DO];simp only [BX];omega,λr hr=>?_⟩;rcases AjV.1 hr with hr | hr
    .exact h.fit r hr
    .rw [AjX.1 hr];exact hp
theorem Q1 {α:Type} {l:List α} {q:α} (h:l.getLast?=some q):∃n,l.length=n+1/\l[n]?=some q/\∀x,l.set n x=l.dropLast++[x]:=by
 obtain ⟨l',rfl⟩:=List.getLast?_eq_some_iff.1 h;exact⟨l'.length,Z,Z,λx=>by simp⟩
theorem Nq {B:Nat} {l:List Prt} (h:Sm B l) (hB:B<=1099511627776) (a b:Int) (s:List UInt8) (hs:s.length<=1099511627776):KA l a b s=some (B7 l (a,b,s)):=by
 unfold KA B7 cK cZ wI;by_cases h0:((a,b,s):Prt)=(0,0,[])
 .obtain ⟨rfl,rfl,rfl⟩:a=0/\b=0/\s=[]:=by simpa using h0
  simp
 .rw [AjR h0,AjR (by simpa using h0)];have hroom:∀x:Prt,Aa (l.length + [x].length) 32=true:=λx=>by
   have:=h.len;simp [Aa];omega
  cases hg:l.getLast? with
  | none=>
   obtain rfl:l=[]:=by simpa using hg
   simp [Aa]
  | some q=>
   obtain ⟨n,hn,hq,hset⟩:=Q1 hg;have hqs:q.2.2.length<=B:=Ako (HL (Akz hq)) h.put;have e1:IntKind.wrap .i64 ((l.length:Int) - 1)=(n:Int):=by rw [hn,w64 O (by have:=h.len;omega)];omega
   have hpos:(0:Int) < (l.length:Int):=O
   have hlt:(n:Int) < (l.length:Int):=O
   have hge:(0:Int)<=(n:Int):=O
   have hst:∀x:Prt,(l.set n x)[n]?=some x:=λx=>Alh O
   simp only [e1,hpos,hlt,hge,decide_true,Akh,AjO,Ake,hq,AjM,Lq];by_cases hk:kd q=kd (a,b,s)
   .have hk':(kd (q.1,q.2.1,q.2.2)=kd (a,b,s)):=hk;have hlen:q.2.2.length+s.length<=9223372036854775807:=O
    simp only [hk',hk,decide_true,Akh,e1,hlt,hge,AjO,hq,AjM,hst,List.set_set,hlen];rw [hset]
   .have hk':¬ (kd (q.1,q.2.1,q.2.2)=kd (a,b,s)):=hk;simp only [hk',hk,decide_false,Aku,Aj4,hroom,Akh]
def Aiw (code:List Int):Prop:=∀x∈code,0<=x/\x<=255
structure At (code:List Int) (k:Int) (a:Int):Prop where
 b:Aiw code
 lo:0<=a
 hi:a+k<=4611686018427387904
structure To (code:List Int) (a k:Int) (code':List Int) (a':Int):Prop where
 c:code'=code
 lo:a<=a'
 hi:a'<=a+k
theorem To.at {code code':List Int} {a k a' j:Int} (t:To code a k code' a') (h:At code (k+j) a):At code' j a':=by
 obtain ⟨rfl,h1,h2⟩:=t;exact⟨h.b,by have:=h.lo;omega,by have:=h.hi;omega⟩
theorem To.trans {c c1 c2:List Int} {a k a1 j a2:Int} (t:To c a k c1 a1) (u:To c1 a1 j c2 a2):To c a (k+j) c2 a2:=by
 obtain ⟨rfl,h1,h2⟩:=t;obtain ⟨rfl,h3,h4⟩:=u;exact⟨rfl,O,O⟩
theorem To.refl (c:List Int) (a:Int):To c a 0 c a:=⟨rfl,AkZ _,O⟩
theorem To.more {c c1:List Int} {a k a1 j:Int} (t:To c a k c1 a1) (h:k<=j):To c a j c1 a1:=⟨t.c,t.lo,by have:=t.hi;omega⟩
end Go.V.G
set_option maxRecDepth 100000
namespace Go.V.G
open Go.V
theorem Sm.snoc {B C:Nat} {l:List Prt} {p:Prt} (h:Sm B l) (hp:I64 p.1/\I64 p.2.1) (hl:B+1<=C) (hc:B+p.2.2.length<=C):Sm C (l++[p]):=
 ⟨by have:=h.len;simp;omega,by rw [DO];simp only [BX];have:=h.put;omega,λq hq=>by
  rcases AjV.1 hq with hq | hq
  .exact h.fit q hq
  .rw [AjX.1 hq];exact hp⟩
end Go.V.G
set_option maxRecDepth 100000
namespace Go.V.G
open Go.V
def src:List Prt->Int
 | []=>0
 | p::l=>p.1+p.2.1+src l
def tgt:List Prt->Int
 | []=>0
 | p::l=>p.1+p.2.2.length+tgt l
theorem Df:∀a b:List Prt,src (a++b)=src a+src b
 | [],b=>by simp [src]
 | p::a,b=>by simp only [AkB,src,Df a b];omega
theorem Dg:∀a b:List Prt,tgt (a++b)=tgt a+tgt b
 | [],b=>by simp [tgt]
 | p::a,b=>by simp only [AkB,tgt,Dg a b];omega
def okk:Int->List Prt->Bool
 | _,[]=>true
 | k,p::l=>!(decide (kd p=0)) && !(decide (kd p=k)) && okk (kd p) l
def AG (c:List Prt):Bool:=okk 0 c && decide (src c<=120) && decide (tgt c<=120)
structure Some1 (p:Prt):Prop where
 k:0<=p.1
 d:0<=p.2.1
 ne:kd p≠0
theorem Jf {p:Prt} (h:kd p≠0):Some1 p:=by
 refine⟨?_,?_,h⟩ <;> (unfold kd at h;split at h;omega;split at h;omega;split at h;omega;exact absurd rfl h)
theorem Bf:∀{k:Int} {l:List Prt},okk k l=true->∀p∈l,Some1 p
 | k,q::l,h,p,hp=>by
  simp only [okk,AjT,Aj0,decide_eq_false_iff_not]at h;rcases Aj5.1 hp with rfl | hp
  .exact Jf h.1.1
  .exact Bf h.2 p hp
theorem Bq:∀{l:List Prt},(∀p∈l,Some1 p)->0<=src l
 | [],_=>AkZ _
 | p::l,h=>by
  have h1:=h p Z;have h2:=Bq (l:=l) (λq hq=>h q (by simp [hq]));have:=h1.k;have:=h1.d;simp only [src];omega
theorem Ck:∀{l:List Prt},(∀p∈l,Some1 p)->0<=tgt l
 | [],_=>AkZ _
 | p::l,h=>by
  have h1:=h p Z;have h2:=Ck (l:=l) (λq hq=>h q (by simp [hq]));have:=h1.k;simp only [tgt];omega
theorem Adm {l:List Prt} {i:Nat} (h:i < l.length):l=l.take i++l[i]::l.drop (i+1):=by
 rw [<- Aks h,AkH]
theorem K8 {l:List Prt} {i:Nat} (h:i < l.length):src l=src (l.take i)+(l[i].1+l[i].2.1+src (l.drop (i+1))):=by
 conv=>lhs;rw [Adm h]
 rw [Df];rfl
theorem Po {l:List Prt} {i:Nat} (h:i < l.length):tgt l=tgt (l.take i)+(l[i].1+l[i].2.2.length+tgt (l.drop (i+1))):=by
 conv=>lhs;rw [Adm h]
 rw [Dg];rfl
theorem NN {l:List Prt} {i:Nat} (h:i < l.length):src (l.take (i+1))=src (l.take i)+(l[i].1+l[i].2.1):=by
 rw [Akd h,Df];simp [src]
theorem Rt {l:List Prt} {i:Nat} (h:i < l.length):tgt (l.take (i+1))=tgt (l.take i)+(l[i].1+l[i].2.2.length):=by
 rw [Akd h,Dg];simp [tgt]
def CL (l:List Prt) (i:Nat):Int:=if i=0 then 0 else match l[i - 1]? with
 | some p=>kd p
 | none=>0
theorem QB {l:List Prt} {i:Nat} (h:i < l.length):CL l (i+1)=kd l[i]:=by simp [CL,AjP h]
theorem Wt {l:List Prt} {i:Nat} (h:i < l.length) (k:Int):okk k (l.drop i)=(!(decide (kd l[i]=0)) && !(decide (kd l[i]=k)) && okk (kd l[i]) (l.drop (i+1))):=by
 rw [Aks h];rfl
theorem CQ {l:List Prt} {i:Nat} {p:Prt} (h:p∈l.drop i):p∈l:=AlV h
theorem C9 {l:List Prt} {i:Nat} {p:Prt} (h:p∈l.take i):p∈l:=Alo h
theorem Ax {i:Nat} {n:Nat} (hn:n<=1099511627776) (h:i < n):IntKind.wrap .i64 ((i:Int)+1)=((i+1:Nat):Int):=by
 rw [w64 O O];omega
theorem YS {c:List Prt} (hlen:c.length<=1099511627776):Ok (Ab IO (c,c,(List.length c:Int),0)) λr=>match r with
  | .inl y=>y=c/\okk 0 c=true
  | .inr b=>b=false/\okk 0 c=false:=by
 refine Ok.loop (λy=>y.1=c/\y.2.1=c/\y.2.2.1=(List.length c:Int)/\∃i:Nat,y.2.2.2=(i:Int)/\i<=c.length/\okk 0 c=okk (CL c i) (c.drop i)) (λy=>((List.length c:Int) - y.2.2.2).toNat)
  ⟨rfl,rfl,rfl,0,rfl,All _,by simp [CL]⟩ ?_
 rintro ⟨a,b,n,i'⟩ ⟨e1,e2,e3,i,e4,hi,hk⟩;dsimp only at e1 e2 e3 e4;subst e1 e2 e3 e4;unfold IO gX wI;dsimp only;refine Ok.ite (λhc=>?_) λhc=>?_
 .have hlt:i < b.length:=by simpa using hc
  refine Ok.yes Z (Ok.bind_eq (r:=b[i]) (by simp [AjP hlt]) (Ok.bind_eq (O7 _ _ _) ?_));have hb:CL b i=CL b i:=rfl;refine Ok.bind (Q:=λv=>v=(b,b,(List.length b:Int),(i:Int),decide (kd b[i]=0) || decide (kd b[i]=CL b i))) ?_ ?_
  .refine Ok.ite (λh0=>?_) λh0=>?_
   .exact Ok.mk (by
       have:kd b[i]=0:=by simpa using h0
       simp [this])
   .have h0':¬ kd b[i]=0:=by simpa using h0
    refine Ok.ite (λhp=>?_) λhp=>?_
    .have hp':0 < i:=by simpa using hp
     have e:IntKind.wrap .i64 ((i:Int) - 1)=((i - 1:Nat):Int):=by rw [w64 O O];omega
     have hl1:i - 1 < b.length:=O
     refine Ok.yes (by simp [e]) (Ok.bind_eq (r:=b[i - 1]) (by simp [e,AjP hl1]) (Ok.bind_eq (O7 _ _ _) (Ok.mk ?_)));have hne:¬ i=0:=O
     have hb:CL b i=kd b[i - 1]:=by simp [CL,hne,AjP hl1]
     rw [hb];have e0:decide (kd b[i]=0)=false:=by simpa using h0'
     rw [e0,Ak3];show(_,_,_,_,decide (kd b[i - 1]=kd b[i]))=_
     congr 4
     exact decide_eq_decide.2 eq_comm
    .have hi0:i=0:=by
      have:¬ (0:Int) < (i:Int):=by simpa using hp
      omega
     subst hi0;have e0:decide (kd b[0]=0)=false:=by simpa using h0'
     exact Ok.mk (by simp [CL,e0])
  .rintro _ rfl;dsimp only;rw [Wt hlt]at hk;refine Ok.ite (λhbad=>Ok.mk ⟨rfl,?_⟩) λhfine=>Ok.mk ⟨⟨rfl,rfl,rfl,i+1,Ax hlen hlt,O,?_⟩,?_⟩
   .rw [hk];rcases Bool.or_eq_true_iff.1 hbad with h | h <;> simp [h]
   .rw [hk,QB hlt];have:(decide (kd b[i]=0) || decide (kd b[i]=CL b i))=false:=by simpa using hfine
    obtain ⟨h1,h2⟩:=AlG.1 this;simp [h1,h2]
   .rw [Ax hlen hlt];dsimp only;omega
 .have:i=b.length:=by
   have:¬ ((i:Int) < (List.length b:Int)):=by simpa using hc
   omega
  subst this;exact Ok.mk ⟨rfl,by rw [hk];simp [okk]⟩
def Xi (c:List Prt):Int×(Int×Bool):=if src c<=120/\tgt c<=120 then(src c,tgt c,true)else(0,0,false)
theorem OH {c:List Prt} (hlen:c.length<=1099511627776) (hput:BX c<=1099511627776) (hs:∀p∈c,Some1 p) (hf:∀p∈c,I64 p.1/\I64 p.2.1):JG c=some (Xi c):=by
 unfold JG;refine Ok.eq ?_;refine Ok.bind (Q:=λr=>match r with
  | .inl y=>src c<=120/\tgt c<=120/\y=(src c,tgt c)
  | .inr y=>¬ (src c<=120/\tgt c<=120)/\y=(0,0,false)) ?_ ?_
 .refine Ok.loop (λy=>y.2.2.1=c/\y.2.2.2.1=(List.length c:Int)/\∃i:Nat,y.2.2.2.2=(i:Int)/\i<=c.length/\y.1=src (c.take i)/\y.2.1=tgt (c.take i)/\y.1<=120/\y.2.1<=120) (λy=>((List.length c:Int) - y.2.2.2.2).toNat)
   ⟨rfl,rfl,0,rfl,All _,by simp [src],by simp [tgt],Z,Z⟩ ?_
  rintro ⟨s,t,c',n,i'⟩ ⟨e1,e2,i,e3,hi,e4,e5,h1,h2⟩;dsimp only at e1 e2 e3 e4 e5 h1 h2;subst e1 e2 e3;unfold OQ gX wI;dsimp only;refine Ok.ite (λhc=>?_) λhc=>?_
  .have hlt:i < c'.length:=by simpa using hc
   have hmem:c'[i]∈c':=Akc hlt;have hp:=hs _ hmem;have hpf:=hf _ hmem;have hpp:=HL hmem;have k0:=hp.k;have d0:=hp.d;have n1:=Bq (l:=c'.take i) λp h=>hs p (C9 h)
   have n2:=Ck (l:=c'.take i) λp h=>hs p (C9 h)
   have n3:=Bq (l:=c'.drop (i+1)) λp h=>hs p (CQ h)
   have n4:=Ck (l:=c'.drop (i+1)) λp h=>hs p (CQ h)
   have a1:=K8 hlt;have a2:=Po hlt;refine Ok.yes Z (Ok.bind_eq (r:=c'[i]) (by simp [AjP hlt]) ?_);refine Ok.bind (Q:=λv=>v=(s,t,c',(List.length c':Int),(i:Int),decide (120 < c'[i].1\/120 < c'[i].2.1),c'[i].1,c'[i].2.1,c'[i].2.2)) ?_ ?_
   .refine Ok.ite (λh=>Ok.mk ?_) λh=>Ok.mk ?_
    .have:120 < c'[i].1:=by simpa using h
     simp [this]
    .have:¬ 120 < c'[i].1:=by simpa using h
     simp [this]
   rintro _ rfl;dsimp only;refine Ok.ite (λhb=>Ok.mk ⟨?_,rfl⟩) λhb=>?_
   .have:120 < c'[i].1\/120 < c'[i].2.1:=by simpa using hb
    omega
   .have hb':¬ (120 < c'[i].1\/120 < c'[i].2.1):=by simpa using hb
    have w1:IntKind.wrap .i64 (c'[i].1+c'[i].2.1)=c'[i].1+c'[i].2.1:=w64 O O;have w2:IntKind.wrap .i64 (s+(c'[i].1+c'[i].2.1))=s+(c'[i].1+c'[i].2.1):=w64 O O;have w3:IntKind.wrap .i64 (c'[i].1+(List.length c'[i].2.2:Int))=c'[i].1+(List.length c'[i].2.2:Int):=w64 O O;have w4:IntKind.wrap .i64 (t+(c'[i].1+(List.length c'[i].2.2:Int)))=t+(c'[i].1+(List.length c'[i].2.2:Int)):=w64 O O;rw [w1,w2,w3,w4];refine Ok.bind (Q:=λv=>v=(s+(c'[i].1+c'[i].2.1),t+(c'[i].1+(List.length c'[i].2.2:Int)),c',(List.length c':Int),(i:Int),decide (120 < s+(c'[i].1+c'[i].2.1)\/120 < t+(c'[i].1+(List.length c'[i].2.2:Int))))) ?_ ?_
    .refine Ok.ite (λh=>Ok.mk ?_) λh=>Ok.mk ?_
     .have:120 < s+(c'[i].1+c'[i].2.1):=by simpa using h
      simp [this]
     .have:¬ 120 < s+(c'[i].1+c'[i].2.1):=by simpa using h
      simp [this]
    rintro _ rfl;dsimp only;refine Ok.ite (λhb=>Ok.mk ⟨?_,rfl⟩) λhb=>Ok.mk ⟨⟨rfl,rfl,i+1,Ax hlen hlt,O,?_,?_,?_,?_⟩,?_⟩
    .have:120 < s+(c'[i].1+c'[i].2.1)\/120 < t+(c'[i].1+(List.length c'[i].2.2:Int)):=by simpa using hb
     omega
    .rw [NN hlt,e4]
    .rw [Rt hlt,e5]
    .have:¬ (120 < s+(c'[i].1+c'[i].2.1)\/120 < t+(c'[i].1+(List.length c'[i].2.2:Int))):=by simpa using hb
     dsimp only;omega
    .have:¬ (120 < s+(c'[i].1+c'[i].2.1)\/120 < t+(c'[i].1+(List.length c'[i].2.2:Int))):=by simpa using hb
     dsimp only;omega
    .rw [Ax hlen hlt];dsimp only;omega
  .have:i=c'.length:=by
    have:¬ ((i:Int) < (List.length c':Int)):=by simpa using hc
    omega
   subst this;rw [AkC]at e4 e5;exact Ok.mk ⟨O,O,by rw [e4,e5]⟩
 .rintro (y | y) h
  .obtain ⟨h1,h2,rfl⟩:=h;exact Ok.mk (by simp [Xi,h1,h2])
  .obtain ⟨h1,rfl⟩:=h;exact Ok.mk (by simp [Xi,h1])
theorem OV {B:Nat} {c:List Prt} (h:Sm B c) (hB:B<=1099511627776):E3 c=some (AG c):=by
 unfold E3;refine Ok.eq (Ok.bind (YS (Ako h.len hB)) ?_);rintro (y | b) hr
 .obtain ⟨rfl,hk⟩:=hr;refine Ok.bind_eq (OH (Ako h.len hB) (Ako h.put hB) (Bf hk) h.fit) (Ok.mk ?_);unfold AG Xi;rw [hk];by_cases h1:src y<=120 <;> by_cases h2:tgt y<=120 <;> simp [h1,h2]
 .obtain ⟨rfl,hk⟩:=hr;exact Ok.mk (by simp [AG,hk])
def Xp (c:List Prt):Int×(Int×Bool):=if AG c=true then(src c,tgt c,true)else(0,0,false)
theorem Aq {c:List Prt} (h:AG c=true):okk 0 c=true/\src c<=120/\tgt c<=120:=by
 simp only [AG,AjT,decide_eq_true_eq]at h;exact⟨h.1.1,h.1.2,h.2⟩
theorem TH {B:Nat} {c:List Prt} (h:Sm B c) (hB:B<=1099511627776):Jk c=some (Xp c):=by
 unfold Jk Xp;rw [OV h hB,AjM];cases hg:AG c with
 | false=>simp
 | true=>
  obtain ⟨h1,h2,h3⟩:=Aq hg;simp [OH (Ako h.len hB) (Ako h.put hB) (Bf h1) h.fit,Xi,h2,h3]
end Go.V.G
set_option maxRecDepth 100000
namespace Go.V.G
open Go.V
theorem LT {B:Nat} {c:List Prt} (h:Sm B c) (hB:B<=1099511627776):EI c=some (AG c):=by
 have hlen:=Ako h.len hB;have hput:=Ako h.put hB;unfold EI;refine Ok.eq (Ok.bind (Q:=λr=>match r with
  | .inl _=>AG c=true
  | .inr b=>b=false/\AG c=false) ?_ ?_)
 .refine Ok.loop (λy=>y.1=c/\y.2.2.2.1=c/\y.2.2.2.2.1=(List.length c:Int)/\∃i:Nat,y.2.2.2.2.2=(i:Int)/\i<=c.length/\y.2.1=src (c.take i)/\y.2.2.1=tgt (c.take i)/\y.2.1<=120/\y.2.2.1<=120/\
    okk 0 c=okk (CL c i) (c.drop i)/\∀p∈c.take i,Some1 p) (λy=>((List.length c:Int) - y.2.2.2.2.2).toNat)
   ⟨rfl,rfl,rfl,0,rfl,All _,by simp [src],by simp [tgt],Z,Z,by simp [CL],λp hp=>by simp at hp⟩ ?_
  rintro ⟨c0,s,t,c',n,i'⟩ ⟨e1,e2,e3,i,e4,hi,e5,e6,h1,h2,hk,hs⟩;dsimp only at e1 e2 e3 e4 e5 e6 h1 h2;subst e1 e2 e3 e4;unfold LC gX wI;dsimp only;refine Ok.ite (λhc=>?_) λhc=>?_
  .have hlt:i < c'.length:=by simpa using hc
   have hmem:c'[i]∈c':=Akc hlt;have hpf:=h.fit _ hmem;have hpp:=HL hmem;refine Ok.yes Z (Ok.bind_eq (r:=c'[i]) (by simp [AjP hlt]) (Ok.bind_eq (Lq _ _ _) ?_));rw [Wt hlt]at hk;have n1:=Bq hs;have n2:=Ck hs;have a1:=K8 hlt;have a2:=Po hlt;have bad:(kd c'[i]=0\/kd c'[i]=CL c' i\/120 < c'[i].1\/120 < c'[i].2.1\/120 < c'[i].2.2.length)->AG c'=false:=by
    intro hb;cases hg:AG c' with
    | false=>rfl
    | true=>
     exfalso;obtain ⟨g1,g2,g3⟩:=Aq hg;have q:=Bf g1;have n3:=Bq (l:=c'.drop (i+1)) λp h=>q p (CQ h)
     have n4:=Ck (l:=c'.drop (i+1)) λp h=>q p (CQ h)
     have p1:=q _ hmem;have k0:=p1.k;have d0:=p1.d;rw [g1]at hk;have hk':=hk.symm;simp only [AjT,Aj0,decide_eq_false_iff_not]at hk';rcases hb with hb | hb | hb | hb | hb
     .exact p1.ne hb
     .exact hk'.1.2 hb
     .omega
     .omega
     .omega
   refine Ok.bind (Q:=λv=>∃b:Bool,v=(c',s,t,c',(List.length c':Int),(i:Int),b,c'[i].1,c'[i].2.1,c'[i].2.2)/\
     (b=true->kd c'[i]=0\/kd c'[i]=CL c' i\/120 < c'[i].1\/120 < c'[i].2.1\/120 < c'[i].2.2.length)/\
     (b=false->kd c'[i]≠0/\kd c'[i]≠CL c' i/\c'[i].1<=120/\c'[i].2.1<=120/\c'[i].2.2.length<=120)) ?_ ?_
   .refine Ok.ite (λh0=>?_) λh0=>?_
    .have h0':kd c'[i]=0:=by simpa using h0
     exact Ok.mk ⟨true,rfl,λ_=>.inl h0',λh=>by cases h⟩
    .have h0':¬ kd c'[i]=0:=by simpa using h0
     refine Ok.ite (λhp=>?_) λhp=>?_
     .have hp':0 < i:=by simpa using hp
      have e:IntKind.wrap .i64 ((i:Int) - 1)=((i - 1:Nat):Int):=by rw [w64 O O];omega
      have hl1:i - 1 < c'.length:=O
      have hne:¬ i=0:=O
      have hb:CL c' i=kd c'[i - 1]:=by simp [CL,hne,AjP hl1]
      refine Ok.yes (by simp [e]) (Ok.bind_eq (r:=c'[i - 1]) (by simp [e,AjP hl1]) (Ok.bind_eq (Lq _ _ _) ?_));rw [hb];refine Ok.ite (λhq=>?_) λhq=>?_
      .have hq':kd c'[i - 1]=kd c'[i]:=by simpa using hq
       exact Ok.mk ⟨true,rfl,λ_=>.inr (.inl hq'.symm),λh=>by cases h⟩
      have hq':¬ kd c'[i - 1]=kd c'[i]:=by simpa using hq
      refine Ok.ite (λhq1=>Ok.mk ⟨true,rfl,λ_=>.inr (.inr (.inl (by simpa using hq1))),λh=>by cases h⟩) λhq1=>?_
      refine Ok.ite (λhq2=>Ok.mk ⟨true,rfl,λ_=>.inr (.inr (.inr (.inl (by simpa using hq2)))),λh=>by cases h⟩) λhq2=>?_
      refine Ok.mk ⟨_,rfl,λhq3=>.inr (.inr (.inr (.inr ?_))),λhq3=>⟨h0',λh=>hq' h.symm,by simpa using hq1,by simpa using hq2,?_⟩⟩
      .simp only [decide_eq_true_eq]at hq3;omega
      .simp only [decide_eq_false_iff_not]at hq3;omega
     .have hi0:i=0:=by
       have:¬ (0:Int) < (i:Int):=by simpa using hp
       omega
      subst hi0;have hb:CL c' 0=0:=rfl;rw [hb];refine Ok.ite (λhq1=>Ok.mk ⟨true,rfl,λ_=>.inr (.inr (.inl (by simpa using hq1))),λh=>by cases h⟩) λhq1=>?_
      refine Ok.ite (λhq2=>Ok.mk ⟨true,rfl,λ_=>.inr (.inr (.inr (.inl (by simpa using hq2)))),λh=>by cases h⟩) λhq2=>?_
      refine Ok.mk ⟨_,rfl,λhq3=>.inr (.inr (.inr (.inr ?_))),λhq3=>⟨h0',h0',by simpa using hq1,by simpa using hq2,?_⟩⟩
      .simp only [decide_eq_true_eq]at hq3;omega
      .simp only [decide_eq_false_iff_not]at hq3;omega
   rintro _ ⟨b,rfl,hb1,hb2⟩;dsimp only;cases b with
   | true=>exact Ok.yes rfl (Ok.mk ⟨rfl,bad (hb1 rfl)⟩)
   | false=>
    refine Ok.no Z ?_;obtain ⟨g1,g2,g3,g4,g5⟩:=hb2 rfl;have p1:=Jf g1;have k0:=p1.k;have d0:=p1.d;have w1:IntKind.wrap .i64 (c'[i].1+c'[i].2.1)=c'[i].1+c'[i].2.1:=w64 O O;have w2:IntKind.wrap .i64 (s+(c'[i].1+c'[i].2.1))=s+(c'[i].1+c'[i].2.1):=w64 O O;have w3:IntKind.wrap .i64 (c'[i].1+(List.length c'[i].2.2:Int))=c'[i].1+(List.length c'[i].2.2:Int):=w64 O O;have w4:IntKind.wrap .i64 (t+(c'[i].1+(List.length c'[i].2.2:Int)))=t+(c'[i].1+(List.length c'[i].2.2:Int)):=w64 O O;rw [w1,w2,w3,w4];have over:(120 < s+(c'[i].1+c'[i].2.1)\/120 < t+(c'[i].1+(List.length c'[i].2.2:Int)))->AG c'=false:=by
     intro ho;cases hg:AG c' with
     | false=>rfl
     | true=>
      exfalso;obtain ⟨q1,q2,q3⟩:=Aq hg;have q:=Bf q1;have n3:=Bq (l:=c'.drop (i+1)) λp h=>q p (CQ h)
      have n4:=Ck (l:=c'.drop (i+1)) λp h=>q p (CQ h)
      omega
    refine Ok.bind (Q:=λv=>v=(c',s+(c'[i].1+c'[i].2.1),t+(c'[i].1+(List.length c'[i].2.2:Int)),c',(List.length c':Int),(i:Int),decide (120 < s+(c'[i].1+c'[i].2.1)\/120 < t+(c'[i].1+(List.length c'[i].2.2:Int))))) ?_ ?_
    .refine Ok.ite (λh=>Ok.mk ?_) λh=>Ok.mk ?_
     .have:120 < s+(c'[i].1+c'[i].2.1):=by simpa using h
      simp [this]
     .have:¬ 120 < s+(c'[i].1+c'[i].2.1):=by simpa using h
      simp [this]
    rintro _ rfl;dsimp only;refine Ok.ite (λhb=>Ok.mk ⟨rfl,over (by simpa using hb)⟩) λhb=>Ok.mk ⟨⟨rfl,rfl,rfl,i+1,Ax hlen hlt,O,?_,?_,?_,?_,?_,?_⟩,?_⟩
    .rw [NN hlt,e5]
    .rw [Rt hlt,e6]
    .have:¬ (120 < s+(c'[i].1+c'[i].2.1)\/120 < t+(c'[i].1+(List.length c'[i].2.2:Int))):=by simpa using hb
     dsimp only;omega
    .have:¬ (120 < s+(c'[i].1+c'[i].2.1)\/120 < t+(c'[i].1+(List.length c'[i].2.2:Int))):=by simpa using hb
     dsimp only;omega
    .rw [hk,QB hlt];simp [g1,g2]
    .intro p hp;rw [Akd hlt]at hp;rcases AjV.1 hp with hp | hp
     .exact hs p hp
     .rw [AjX.1 hp];exact p1
    .rw [Ax hlen hlt];dsimp only;omega
  .have:i=c'.length:=by
    have:¬ ((i:Int) < (List.length c':Int)):=by simpa using hc
    omega
   subst this;rw [AkC]at e5 e6;refine Ok.mk ?_;unfold AG;rw [hk];simp [okk];omega
 .rintro (y | b) hr
  .exact Ok.mk hr.symm
  .obtain ⟨rfl,hk⟩:=hr;exact Ok.mk hk.symm
theorem Qu {B:Nat} {c:List Prt} (h:Sm B c) (hB:B<=1099511627776) (hs:∀p∈c,Some1 p) (hle:src c<=1000000):Ii c=some (src c):=by
 have hlen:=Ako h.len hB;unfold Ii;have:Ab FP (0,c,(List.length c:Int),0)=some (src c):=by
  have:=An FP (λk=>(src (c.take k),c,(List.length c:Int),(k:Int))) c.length (src c) (by
   intro i hlt;have n1:=Bq (l:=c.take i) λp h=>hs p (C9 h)
   have n3:=Bq (l:=c.drop (i+1)) λp h=>hs p (CQ h)
   have p1:=hs _ (Akc hlt);have k0:=p1.k;have d0:=p1.d;have a1:=K8 hlt;have w1:IntKind.wrap .i64 (c[i].1+c[i].2.1)=c[i].1+c[i].2.1:=w64 O O;have w2:IntKind.wrap .i64 (src (c.take i)+(c[i].1+c[i].2.1))=src (c.take i)+(c[i].1+c[i].2.1):=w64 O O;have hi:(i:Int) < (List.length c:Int):=O
   simp [FP,gX,wI,hi,AjP hlt,w1,w2,NN hlt,Ax hlen hlt]) (by simp [FP,gX,wI])
  simpa [src] using this
 rw [this];rfl
theorem Yv {B:Nat} {c:List Prt} (h:Sm B c) (hB:B<=1099511627776) (hs:∀p∈c,Some1 p) (hle:tgt c<=1000000):J2 c=some (tgt c):=by
 have hlen:=Ako h.len hB;unfold J2;have:Ab FN (0,c,(List.length c:Int),0)=some (tgt c):=by
  have:=An FN (λk=>(tgt (c.take k),c,(List.length c:Int),(k:Int))) c.length (tgt c) (by
   intro i hlt;have n1:=Ck (l:=c.take i) λp h=>hs p (C9 h)
   have n3:=Ck (l:=c.drop (i+1)) λp h=>hs p (CQ h)
   have p1:=hs _ (Akc hlt);have k0:=p1.k;have a1:=Po hlt;have w1:IntKind.wrap .i64 (c[i].1+(List.length c[i].2.2:Int))=c[i].1+(List.length c[i].2.2:Int):=w64 O O;have w2:IntKind.wrap .i64 (tgt (c.take i)+(c[i].1+(List.length c[i].2.2:Int)))=tgt (c.take i)+(c[i].1+(List.length c[i].2.2:Int)):=w64 O O;have hi:(i:Int) < (List.length c:Int):=O
   simp [FN,gX,wI,hi,AjP hlt,w1,w2,Rt hlt,Ax hlen hlt]) (by simp [FN,gX,wI])
  simpa [tgt] using this
 rw [this];rfl
theorem Ca (n lo hi:Int):Bt n lo hi=some (decide (lo<=n/\n<=hi)):=by
 unfold Bt;by_cases h1:lo<=n <;> simp [h1]
theorem AH (n lo hi:Int):Bo n lo hi=some (decide (lo<=n/\n<=hi)):=by
 unfold Bo;by_cases h1:lo<=n <;> simp [h1]
end Go.V.G
set_option maxRecDepth 100000
namespace Go.V.G
open Go.V
abbrev Bls:=List (List Int)
structure Bd (bl:Bls):Prop where
 n:bl.length<=100000
 b:∀x∈bl,0 < x.length/\x.length<=100000
def gd (bl:Bls) (wr lf:Int):Bool:=decide (40<=bl.length/\bl.length<=160) && (bl.all (λb=>b.length == 128) && (decide (0<=wr/\wr<=1000000000) && decide (-1<=lf/\lf<=1000000)))
theorem Uj {x:List Int} (h:x.length<=1048576):BU x=some x:=by
 unfold BU cK;have hr:Aa (List.length ([]:List Int)+List.length x) 1=true:=by
  simp only [Akl,Aa,decide_eq_true_eq];omega
 cases x with
 | nil=>simp [Ij,Aa]
 | cons a x=>simp only [Ij,List.isEmpty_cons,Aj4,Aku,AjM,hr,Akh,Akm]
theorem AdJ {x:List Int} (h:0 < x.length/\x.length<=100000):BU x=some x:=Uj O
theorem Vu {bl:Bls} (h:Bd bl):IC bl=some bl:=by
 have hn:=h.n;unfold IC;refine Ok.eq (Ok.bind (Q:=λr=>r=bl) ?_ (λr hr=>Ok.mk hr));refine Ok.loop (λy=>∃k:Nat,k<=bl.length/\y=(bl.take k,bl,(bl.length:Int),(k:Int))) (λy=>((bl.length:Int) - y.2.2.2).toNat) ⟨0,O,Z⟩ ?_;rintro _ ⟨k,hk,rfl⟩;unfold LR cK gX wI;dsimp only;refine Ok.ite (λhc=>?_) λhc=>?_
 .have hlt:k < bl.length:=by simpa using hc
  refine Ok.yes Z ?_;have hg:bl[Int.toNat (k:Int)]?=some bl[k]:=by simp [hlt]
  refine Ok.bind_eq hg (Ok.bind_eq (AdJ (h.b _ (Akc hlt))) ?_);have e1:IntKind.wrap .i64 ((k:Int)+1)=(((k+1:Nat)):Int):=by rw [w64 O O];omega
  refine Ok.yes ?_ (Ok.mk ⟨⟨k+1,O,?_⟩,?_⟩)
  .simp only [AjW,AjZ,Aa,decide_eq_true_eq];omega
  .rw [e1,Akd hlt]
  .dsimp only;rw [e1];omega
 .have:k=bl.length:=by simp at hc;omega
  refine Ok.mk ?_;dsimp only;rw [this,AkC]
theorem Ah2 {bl:Bls} (h:Bd bl) (wr:Int) (on:Bool) (lf:Int):Qh bl wr on lf=some (bl,wr,on,lf):=by
 have hn:=h.n;unfold Qh;refine Ok.eq (Ok.bind (Q:=λr=>r.1=bl/\r.2.2.1=wr/\r.2.2.2.1=on/\r.2.2.2.2.1=lf) ?_ (λr hr=>Ok.mk (by rw [hr.1,hr.2.1,hr.2.2.1,hr.2.2.2])));refine Ok.loop (λy=>∃k:Nat,k<=bl.length/\y.1=bl.take k/\y.2.1=bl/\y.2.2.1=(bl.length:Int)/\y.2.2.2.1=(k:Int)/\y.2.2.2.2.2.1=wr/\y.2.2.2.2.2.2.1=on/\y.2.2.2.2.2.2.2.1=lf) (λy=>((bl.length:Int) - y.2.2.2.1).toNat) ⟨0,O,Z,rfl,rfl,rfl,rfl,rfl,rfl⟩ ?_;rintro ⟨a,b,c,d,e,f,g,i,j⟩ ⟨k,hk,q1,q2,q3,q4,q5,q6,q7⟩;dsimp only at q1 q2 q3 q4 q5 q6 q7;subst q1 q2 q3 q4 q5 q6 q7;unfold R9 cK gX wI;dsimp only;refine Ok.ite (λhc=>?_) λhc=>?_
 .have hlt:k < b.length:=by simpa using hc
  refine Ok.yes Z ?_;have hg:b[Int.toNat (k:Int)]?=some b[k]:=by simp [hlt]
  have hb:=h.b _ (Akc hlt);have e1:IntKind.wrap .i64 ((k:Int)+1)=(((k+1:Nat)):Int):=by rw [w64 O O];omega
  refine Ok.bind_eq hg (Ok.yes ?_ (Ok.yes ?_ (Ok.mk ⟨⟨k+1,O,?_,rfl,rfl,?_,rfl,rfl,rfl⟩,?_⟩)))
  .simp only [Akl,Aa,decide_eq_true_eq];omega
  .simp only [AjW,AjZ,Aa,decide_eq_true_eq];omega
  .rw [Akd hlt,Akm]
  .dsimp only;rw [e1]
  .dsimp only;rw [e1];omega
 .have:k=b.length:=by simp at hc;omega
  refine Ok.mk ⟨?_,rfl,rfl,rfl⟩;dsimp only;rw [this,AkC]
theorem VY {bl:Bls} (hn:bl.length<=1048576):Ok (Bg bl) λr=>(0<=r↔¬ bl.all (λb=>b.length == 128)=true):=by
 unfold Bg;refine Ok.bind (Q:=λr=>match r with | .inl _=>bl.all (λb=>b.length == 128)=true | .inr i=>0<=i/\¬ bl.all (λb=>b.length == 128)=true) ?_ ?_
 .refine Ok.loop (λy=>∃k:Nat,k<=bl.length/\y=(bl,(bl.length:Int),(k:Int))/\∀j (hj:j < bl.length),j < k->bl[j].length=128) (λy=>((bl.length:Int) - y.2.2).toNat) ⟨0,O,rfl,λ_ _ h=>absurd h O⟩ ?_;rintro _ ⟨k,hk,rfl,hall⟩;unfold CA gX wI;dsimp only;refine Ok.ite (λhc=>?_) λhc=>?_
  .have hlt:k < bl.length:=by simpa using hc
   refine Ok.yes Z ?_;have hg:bl[Int.toNat (k:Int)]?=some bl[k]:=by simp [hlt]
   refine Ok.bind_eq hg (Ok.bind_eq rfl (Ok.ite (λhb=>Ok.mk ⟨O,?_⟩) λhb=>?_))
   .have hb':¬ bl[k].length=128:=by simp at hb;omega
    intro hx;have:=Aki.1 hx _ (Akc hlt);simp at this;exact hb' this
   .have hb':bl[k].length=128:=by simp at hb;omega
    have e1:IntKind.wrap .i64 ((k:Int)+1)=(((k+1:Nat)):Int):=by rw [w64 O O];omega
    refine Ok.mk ⟨⟨k+1,O,by rw [e1],λj hj hjk=>?_⟩,?_⟩
    .by_cases hjk2:j=k
     .subst hjk2;exact hb'
     .exact hall j hj O
    .dsimp only;rw [e1];omega
  .have:k=bl.length:=by simp at hc;omega
   refine Ok.mk ?_;dsimp only;rw [Aki];intro x hx;obtain ⟨j,hj,rfl⟩:=Akq hx;simp [hall j hj O]
 .rintro (u | i) hr
  .refine Ok.mk ?_;simp only at hr;simp [hr]
  .refine Ok.mk ?_;simp only at hr;simp only [hr.1,true_iff];exact hr.2
theorem I9 {bl:Bls} (hn:bl.length<=1048576) (wr:Int) (on:Bool) (lf:Int):GM bl wr on lf=some (gd bl wr lf):=by
 have hA:Et bl=some (decide (40<=bl.length/\bl.length<=160) && bl.all (λb=>b.length == 128)):=by
  unfold Et;refine Ok.eq (Ok.bind (Q:=λr=>r=_) ?_ (λr hr=>Ok.mk hr));refine Ok.bind_eq (AH _ _ _) ?_;refine Ok.ite (λhc=>?_) λhc=>Ok.mk ?_
  .refine Ok.bind (Q:=λr=>r = !(bl.all (λb=>b.length == 128))) ?_ (λr hr=>Ok.mk ?_)
   .unfold Ba;refine(VY hn).bind λr hr=>Ok.mk ?_
    cases ha:bl.all (λb=>b.length == 128)with
    | true=>rw [ha]at hr;simpa using hr
    | false=>rw [ha]at hr;simpa using hr
   .have hc':40<=bl.length/\bl.length<=160:=by simp at hc;omega
    rw [hr];simp [hc']
  .have hc':¬ (40<=bl.length/\bl.length<=160):=by simp at hc;omega
   simp [hc']
 unfold GM gd;refine Ok.eq (Ok.bind (Q:=λr=>r=_) ?_ (λr hr=>Ok.mk hr));refine Ok.bind_eq hA ?_;refine Ok.ite (λhc=>?_) λhc=>Ok.mk ?_
 .simp only [AjT]at hc;refine Ok.bind_eq (AH _ _ _) (Ok.ite (λhw=>Ok.bind_eq (AH _ _ _) (Ok.mk ?_)) λhw=>Ok.mk ?_)
  .simp only [decide_eq_true_eq]at hw;simp [hc.1,hc.2,hw]
  .simp only [decide_eq_true_eq]at hw;simp [hw]
 .have:(decide (40<=bl.length/\bl.length<=160) && bl.all (λb=>b.length == 128))=false:=by simpa using hc
  rw [<- AlT,this,Alc]
theorem HZ {bl:Bls} (hn:bl.length<=1048576) (wr:Int) (on:Bool) (lf:Int):Im bl wr on lf=some (gd bl wr lf):=by
 unfold Im gd;refine Ok.eq (Ok.bind (Q:=λr=>r=(!(decide (40<=bl.length/\bl.length<=160) && (decide (0<=wr/\wr<=1000000000) && decide (-1<=lf/\lf<=1000000))),bl,wr,on,lf)) ?_ ?_)
 .refine Ok.bind_eq (Ca _ _ _) (Ok.ite (λhc=>Ok.mk ?_) λhc=>?_)
  .have hc':¬ (40<=bl.length/\bl.length<=160):=by simp at hc;omega
   simp [hc']
  .have hc':40<=bl.length/\bl.length<=160:=by simp at hc;omega
   refine Ok.bind_eq (Ca _ _ _) (Ok.ite (λhw=>Ok.mk ?_) λhw=>Ok.bind_eq (Ca _ _ _) (Ok.mk ?_))
   .have hw':¬ (0<=wr/\wr<=1000000000):=by simpa only [Aj0,decide_eq_false_iff_not] using hw
    simp [hw']
   .have hw':0<=wr/\wr<=1000000000:=by simpa using hw
    simp [hc',hw']
 .rintro _ rfl;dsimp only;refine Ok.ite (λhc=>Ok.mk ?_) λhc=>?_
  .have hc':(decide (40<=bl.length/\bl.length<=160) && (decide (0<=wr/\wr<=1000000000) && decide (-1<=lf/\lf<=1000000)))=false:=by simpa only [Bool.not_not,Aj0,Bool.not_eq_true,Bool.not_eq_false'] using hc
   cases h1:decide (40<=bl.length/\bl.length<=160)with
   | false=>simp
   | true=>rw [h1,Aj3]at hc';rw [hc'];simp
  .have hc':(decide (40<=bl.length/\bl.length<=160) && (decide (0<=wr/\wr<=1000000000) && decide (-1<=lf/\lf<=1000000)))=true:=by simpa using hc
   rw [AjT]at hc';rw [hc'.1,hc'.2,Aj3,Alm];refine Ok.bind (Q:=λr=>match r with | .inl _=>bl.all (λb=>b.length == 128)=true | .inr i=>i=false/\¬ bl.all (λb=>b.length == 128)=true) ?_ ?_
   .refine Ok.loop (λy=>∃k:Nat,k<=bl.length/\y=(bl,(bl.length:Int),(k:Int))/\∀j (hj:j < bl.length),j < k->bl[j].length=128) (λy=>((bl.length:Int) - y.2.2).toNat) ⟨0,O,rfl,λ_ _ h=>absurd h O⟩ ?_;rintro _ ⟨k,hk,rfl,hall⟩;unfold Oo gX wI;dsimp only;refine Ok.ite (λhc=>?_) λhc=>?_
    .have hlt:k < bl.length:=by simpa using hc
     refine Ok.yes Z ?_;have hg:bl[Int.toNat (k:Int)]?=some bl[k]:=by simp [hlt]
     refine Ok.bind_eq hg (Ok.ite (λhb=>Ok.mk ⟨rfl,?_⟩) λhb=>?_)
     .have hb':¬ bl[k].length=128:=by simp at hb;omega
      intro hx;have:=Aki.1 hx _ (Akc hlt);simp at this;exact hb' this
     .have hb':bl[k].length=128:=by simp at hb;omega
      have e1:IntKind.wrap .i64 ((k:Int)+1)=(((k+1:Nat)):Int):=by rw [w64 O O];omega
      refine Ok.mk ⟨⟨k+1,O,by rw [e1],λj hj hjk=>?_⟩,?_⟩
      .by_cases hjk2:j=k
       .subst hjk2;exact hb'
       .exact hall j hj O
      .dsimp only;rw [e1];omega
    .have:k=bl.length:=by simp at hc;omega
     refine Ok.mk ?_;dsimp only;rw [Aki];intro x hx;obtain ⟨j,hj,rfl⟩:=Akq hx;simp [hall j hj O]
   .rintro (u | i) hr
    .exact Ok.mk hr.symm
    .refine Ok.mk ?_;simp only at hr;rw [hr.1];simpa using hr.2
end Go.V.G
set_option maxRecDepth 100000
namespace Go.V.G
open Go.V
theorem Bd.set {bl:Bls} (h:Bd bl) {x:List Int} (hx:0 < x.length/\x.length<=100000) (i:Nat):Bd (bl.set i x):=
 ⟨by rw [AkQ];exact h.n,λy hy=>by
  rcases AkS hy with hy | rfl
  .exact h.b y hy
  .exact hx⟩
end Go.V.G
set_option maxRecDepth 100000
namespace Go.V.G
open Go.V
section
variable {α:Type}
theorem ixS {n i:Nat} (hn:n<=4611686018427387904) (h:i < n):IntKind.wrap .i64 ((i:Int)+1)=((i+1:Nat):Int):=by rw [w64 O O];omega
def D4 (w:α->Nat):List α->Nat
 | []=>0
 | x::xs=>w x+D4 w xs
theorem Rl (w:α->Nat):∀{xs:List α} {x:α},x∈xs->w x<=D4 w xs
 | y::xs,x,h=>by
  rcases Aj5.1 h with rfl | h
  .simp only [D4];omega
  .have:=Rl w h;simp only [D4];omega
def lft (l:Int) (n:Nat):Int:=if(n:Int)<=l then l - n else -1
theorem Agb (f:List α×(Int×Int)->Option ((List α×(Int×Int))⊕(Int⊕Int))) (w:α->Nat) (xs:List α)
  (step:∀(i:Nat) (h:i < xs.length) (l:Int),0<=l->l<=1048576->f (xs,l,(i:Int))=some (if(w xs[i]:Int)<=l then .inl (xs,l - w xs[i],((i+1:Nat):Int))else .inr (.inr (-1))))
  (last:∀l,f (xs,l,(xs.length:Int))=some (.inr (.inl l))) {l:Int} (h0:0<=l) (h1:l<=1048576) :
  Ab f (xs,l,0)=some (if(D4 w xs:Int)<=l then .inl (l - D4 w xs)else .inr (-1)):=by
 have:=Afz f (λy=>y.1=xs/\(0<=y.2.1/\y.2.1<=1048576)/\∃i:Nat,y.2.2=(i:Int)/\i<=xs.length) (λy=>((xs.length:Int) - y.2.2).toNat)
  (λy=>if(D4 w (y.1.drop y.2.2.toNat):Int)<=y.2.1 then .inl (y.2.1 - D4 w (y.1.drop y.2.2.toNat))else .inr (-1)) (by
   rintro ⟨ys,l,i'⟩ ⟨e1,⟨h0,h1⟩,i,e2,hi⟩;dsimp only at e1 h0 h1 e2;subst e1 e2;dsimp only;rcases Nat.lt_or_ge i ys.length with hlt | hge
   .have hs:=step i hlt l h0 h1;have hd:D4 w (ys.drop i)=w ys[i]+D4 w (ys.drop (i+1)):=by rw [Aks hlt];rfl
    simp only [AjO];by_cases hw:(w ys[i]:Int)<=l
    .left;rw [AjS hw]at hs;refine⟨_,hs,⟨rfl,AjL,i+1,rfl,O⟩,AjL,?_⟩;dsimp only;simp only [AjO,hd];by_cases hx:((D4 w (ys.drop (i+1)):Int))<=l - (w ys[i]:Int)
     .rw [AjS hx,AjS O]
      congr 1;omega
     .rw [AjR hx,AjR O]
    .right;rw [AjR hw]at hs;rw [hs,AjR (by rw [hd];omega)]
   .right;have:i=ys.length:=O
    subst this;rw [last];simp [D4,h0]) (xs,l,0) ⟨rfl,⟨h0,h1⟩,0,rfl,All _⟩
 simpa using this
theorem ZT (f:List α×(List α×Int)->Option ((List α×(List α×Int))⊕(Unit⊕Bool))) (xs:List α) (step:∀(i:Nat) (h:i < xs.length),f (xs,xs,(i:Int))=some (.inl (xs,xs,((i+1:Nat):Int))))
  (last:f (xs,xs,(xs.length:Int))=some (.inr (.inl ()))):Ab f (xs,xs,0)=some (.inl ()):=by
 have:=An f (λk=>(xs,xs,((k:Nat):Int))) xs.length (.inl ()) (λk hk=>step k hk) last;simpa using this
theorem Aau (f:List α×(List α×Int)->Option ((List α×(List α×Int))⊕(List α))) (xs:List α) (z:α)
  (step:∀(ys:List α) (i:Nat) (h:i < xs.length),ys.length=xs.length->f (xs,ys,(i:Int))=some (.inl (xs,ys.set i xs[i],((i+1:Nat):Int))))
  (last:∀ys:List α,f (xs,ys,(xs.length:Int))=some (.inr ys)):Ab f (xs,List.replicate xs.length z,0)=some xs:=by
 have:=An f (λk=>(xs,xs.take k++List.replicate (xs.length - k) z,((k:Nat):Int))) xs.length xs (λk hk=>by
  rw [step _ k hk AjJ,(O:xs.length - k=(xs.length - (k+1))+1),AkP,Akd hk,List.set_append_right _ _ AjJ,
   AjW,Al5 (Nat.le_of_lt hk),AlE,List.set_cons_zero,AjY]
  rfl) (by rw [last];simp)
 simpa using this
end
end Go.V.G