import Derived.Test.YtofhefmbioblbaaGreatQNpA
set_option linter.unusedVariables false
set_option linter.unusedSimpArgs false
set_option maxRecDepth 100000
namespace Go.V.G
noncomputable section
abbrev LI:=List Int
abbrev LL:=List LI
abbrev LB:=List UInt8
abbrev cK {α:Type} (b:Bool) (a:Option α):Option α:=if b=true then a else none
abbrev cZ {α:Type} (x:Int) (a:Option α):Option α:=if decide ((0:Int)<=x)=true then a else none
abbrev gX {α β:Type} (l:List α) (i:Int) (k:α->Option β):Option β:=if decide ((0:Int)<=i)=true then Option.bind (l[Int.toNat i]?) k else none
abbrev sX {α:Type} (l h m:Int) (n:Nat) (a:Option α):Option α:=if decide ((0:Int)<=l)=true then(if decide ((l:Int)<=h)=true then(if decide ((h:Int)<=m)=true then(if decide ((m:Int)<=(n:Int))=true then a else none)else none)else none)else none
abbrev wI (x:Int):Int:=IntKind.wrap .i64 x
abbrev wB (x:Int):Int:=IntKind.wrap .u8 x
abbrev U0:=List (List (Int×(Int×LB)))
abbrev U1:=Option (LL×(LI×(LI×LI)))
abbrev U2:=Option (LL×(Int×(Bool×(Int×(Int×(Int×(Int×(Int×(Int×(LL×(LI×(LI×(LI×(Int×(LI×(LL×(Int×(LB×(List (Int×Int)×List (List (Int×(Int×LB))))))))))))))))))))))
abbrev U3:=List (Int×LI)×LI
abbrev U4:=List (Int×(Int×LB))×Bool
abbrev U5:=LI×List (Int×(Int×LB))
abbrev U6:=List (Int×(Int×LB))×List Bool
abbrev U7:=LB×List (Int×(Int×LB))
abbrev U9:=Bool×Option (LL×(LI×(LI×LI)))
abbrev U12:=LI×Option (LL×(LI×(LI×LI)))
abbrev U13:=(Option (LL×(Int×(Bool×(Int×(Int×(Int×(Int×(Int×(Int×(LL×(LI×(LI×(LI×(Int×(LI×(LL×(Int×(LB×(List (Int×Int)×List (List (Int×(Int×LB)))))))))))))))))))))))×Int
abbrev U14:=(Option (LL×(Int×(Bool×(Int×(Int×(Int×(Int×(Int×(Int×(LL×(LI×(LI×(LI×(Int×(LI×(LL×(Int×(LB×(List (Int×Int)×List (List (Int×(Int×LB)))))))))))))))))))))))×Bool
abbrev U15:=LB×LI×Bool
abbrev U16:=LI×List (Int×Int)×Int
abbrev U17:=Bool×LL×LI
abbrev U19:=LL×LI×Bool
abbrev U20:=LL×LL×Int
abbrev U21:=LI×List (Int×(Int×LB))×Int
abbrev U22:=LB×List (Int×(Int×LB))×Bool
abbrev U23:=List (Int×(Int×LB))×List Bool×Bool
abbrev U24:=(LL×(LI×(LI×LI)))×Int×Bool
abbrev U25:=(LL×(LI×(LI×LI)))×LI×Int
abbrev U26:=LI×Int×Option (LL×(LI×(LI×LI)))
abbrev U28:=LI×Bool×Option (LL×(LI×(LI×LI)))
abbrev U29:=Int×Int×Int×LB
abbrev U30:=Bool×Int×Int×LB
abbrev U32:=LI×LI×Int×Int
abbrev U34:=Int×Int×List (Int×Int)×Int
abbrev U35:=Int×List (Int×Int)×Int×Int
abbrev U36:=List (Int×Int)×Int×Int×Bool
abbrev U37:=LL×Int×Bool×Int
abbrev U38:=Int×Int×LI×LL
abbrev U39:=LI×List (Int×Int)×Int×Int
abbrev U40:=List (Int×Int)×LI×Int×Int
abbrev U41:=Bool×Int×LI×LL
abbrev U42:=LL×LL×Int×Int
abbrev U43:=List (Int×Int)×LL×Int×Int
abbrev U44:=LL×LI×LI×LI
abbrev U45:=Int×List (Int×(Int×LB))×Int×Int
abbrev U47:=LI×List (Int×(Int×LB))×Int×Int
abbrev U48:=LI×List (Int×(Int×LB))×Int×Bool
abbrev U49:=Int×List (List (Int×(Int×LB)))×Int×Int
abbrev U50:=List (Int×LI)×List (Int×LI)×Int×Int
abbrev U51:=LB×List (List (Int×(Int×LB)))×Int×Int
abbrev U52:=List (Int×(Int×LB))×List (Int×(Int×LB))×Int×Int
abbrev U53:=(LL×(LI×(LI×LI)))×LI×Int×Bool
abbrev U54:=(LL×(LI×(LI×LI)))×Int×LI×LI
abbrev U55:=List (Int×(Int×LB))×List (List (Int×(Int×LB)))×Int×Int
abbrev U56:=LI×Int×Int×Option (LL×(LI×(LI×LI)))
abbrev U57:=LI×Int×Int×Int×Int
abbrev U58:=Int×U32
abbrev U59:=Int×U35
abbrev U60:=Bool×U37
abbrev U61:=List (Int×Int)×Int×Bool×Int×Int
abbrev U62:=Int×U40
abbrev U63:=LI×Int×List (Int×LI)×Int×Int
abbrev U64:=Int×List (Int×Int)×List (Int×Int)×Int×Int
abbrev U65:=List (Int×Int)×U35
abbrev U66:=Int×U44
abbrev U67:=LI×LI×List (Int×LI)×Int×Int
abbrev U68:=Bool×U44
abbrev U69:=Int×U45
abbrev U71:=List (Int×Int)×U38
abbrev U72:=LL×List Bool×List (Int×Int)×Int×Int
abbrev U73:=LI×U44
abbrev U74:=List (Int×LI)×Int×List (Int×LI)×Int×Int
abbrev U75:=Int×List (List (Int×(Int×LB)))×Int×Int×Bool
abbrev U76:=List (Int×LI)×List (Int×LI)×Int×Int×Bool
abbrev U77:=List (Int×LI)×LI×List (Int×LI)×Int×Int
abbrev U78:=List (Int×(Int×LB))×Int×Int×List Bool×List LB
abbrev U79:=Bool×Int×LB×List (Int×Int)×List (List (Int×(Int×LB)))
abbrev U80:=List (Int×(Int×LB))×List (Int×(Int×LB))×Int×Int×Bool
abbrev U81:=(LL×(LI×(LI×LI)))×Int×LI×LI×Bool
abbrev U82:=List (List (Int×(Int×LB)))×Int×Int×Bool×List (Int×(Int×LB))
abbrev U83:=Bool×Int×Int×Int×Int×Int
abbrev U85:=Int×Int×List (Int×Int)×Int×Int×Int
abbrev U86:=List Bool×Int×Int×LL×Int×Int
abbrev U87:=Int×U66
abbrev U88:=Int×U68
abbrev U89:=Int×Int×List (Int×(Int×LB))×Int×Int×Bool
abbrev U91:=Int×U73
abbrev U92:=LI×U66
abbrev U93:=List (Int×(Int×LB))×Int×U29
abbrev U94:=LI×U68
abbrev U95:=LI×List (Int×LI)×U37
abbrev U96:=List (Int×(Int×LB))×Int×U30
abbrev U97:=Int×Bool×Int×Int×LB×List (Int×(Int×LB))
abbrev U98:=List (Int×LI)×Int×List (Int×LI)×Int×Int×Bool
abbrev U99:=LB×U73
abbrev Amj:=Int×LB×U47
abbrev TO:=LI×LI×LI×Bool×LL×List (Int×Int)
abbrev AeI:=LB×LB×U45
abbrev Al6:=List (Int×(Int×LB))×U69
abbrev Anu:=(LL×(LI×(LI×LI)))×Int×U30
abbrev AdY:=List (Int×(Int×LB))×List LB×Int×Int×List Bool×List LB
abbrev ZT:=List LB×Int×Int×List Bool×List LB×List (Int×(Int×LB))
abbrev AiH:=List (Int×(Int×LB))×List (Int×(Int×LB))×List Bool×List LB×Int×Int
abbrev Ahu:=Int×(Option (LL×(LI×(LI×LI))))×U38
abbrev Amo:=(LL×(LI×(LI×LI)))×LI×U45
abbrev An5:=(Option (LL×(Int×(Bool×(Int×(Int×(Int×(Int×(Int×(Int×(LL×(LI×(LI×(LI×(Int×(LI×(LL×(Int×(LB×(List (Int×Int)×List (List (Int×(Int×LB)))))))))))))))))))))))×U60
abbrev Amv:=LL×Int×Int×Int×Int×Int×LI
abbrev Amy:=Int×Int×Int×U39
abbrev Alb:=LI×Int×List (Int×Int)×Int×Int×Int×Int
abbrev Aoa:=List (Int×Int)×Int×Int×LI×Int×Int×Bool
abbrev AeE:=List (Int×Int)×Int×U59
abbrev Wy:=Int×U88
abbrev Ai2:=List (Int×Int)×Int×Bool×U38
abbrev AiP:=Int×U92
abbrev TD:=LI×U87
abbrev Al4:=Int×LI×U73
abbrev AhK:=Int×LI×LI×U45
abbrev Anw:=LL×U94
abbrev AlZ:=Int×LI×List (Int×Int)×U45
abbrev Alf:=LI×TO
abbrev AeU:=List (Int×(Int×LB))×U87
abbrev AnD:=List (Int×(Int×LB))×U89
abbrev Ant:=Int×ZT
abbrev An2:=LI×Bool×(Option (LL×(LI×(LI×LI))))×U38
abbrev Afe:=Bool×Int×Int×Int×U29
abbrev Aod:=Int×LI×Int×Int×U30
abbrev Alw:=LI×List (Int×Int)×Int×Int×Int×Int×Int×Int
abbrev Ai0:=List (Int×Int)×Int×LL×Int×Int×Int×Int×Int
abbrev Ank:=LL×LL×Int×Bool×Int×Int×Bool×Int
abbrev AnC:=List (Int×Int)×Int×List (Int×Int)×Int×Int×Bool×Int×Int
abbrev AnS:=LL×List Bool×Int×List (Int×Int)×Int×Int×Int×Int
abbrev AnG:=List (Int×Int)×Int×Bool×Int×U41
abbrev Afh:=Int×TD
abbrev Ak6:=LI×Int×List (Int×LI)×Int×U37
abbrev Amg:=LI×List (Int×LI)×Int×Int×U37
abbrev Amf:=LI×AiP
abbrev YZ:=LI×TD
abbrev AnO:=Int×LI×U94
abbrev Zq:=Int×LL×U87
abbrev MU:=LL×LI×LI×LI×LI×LI×LI×Bool
abbrev Ah5:=LL×TD
abbrev Aep:=LL×LI×LI×LI×List (Int×Int)×Bool×Int×Bool
abbrev An7:=(LL×(LI×(LI×LI)))×Int×LI×LI×LI×Int×Int×Bool
abbrev AkU:=Int×Int×Ahu
abbrev Ai6:=LI×Int×Ahu
abbrev AiQ:=List (List (Int×(Int×LB)))×List (Int×Int)×Int×Int×Int×LB×List (Int×Int)×List (List (Int×(Int×LB)))
abbrev Ad4:=List (Int×Int)×List (List (Int×(Int×LB)))×Int×Int×Int×LB×List (Int×Int)×List (List (Int×(Int×LB)))
abbrev AnQ:=Bool×LL×Int×Bool×Int×U37
abbrev Alo:=Int×Int×List (Int×(Int×LB))×Int×Int×U30
abbrev Ame:=List (Int×Int)×Int×Bool×LI×Bool×U38
abbrev AlM:=Int×YZ
abbrev Amh:=LI×LI×Wy
abbrev Alu:=Int×LI×LI×Int×List (Int×(Int×LB))×Int×Int×Int×Int
abbrev AlX:=Int×LI×LB×U87
abbrev Ajk:=Int×Aep
abbrev Ue:=LI×Int×Int×TO
abbrev AdZ:=LI×MU
abbrev An0:=LI×Int×Int×LI×LL×U44
abbrev AkS:=LB×MU
abbrev Ale:=LI×LI×List LB×U87
abbrev AnH:=LI×LI×Int×LI×LL×U44
abbrev Amz:=Int×List (Int×(Int×LB))×Int×Int×List Bool×List LB×Int×Int×LB
abbrev Aan:=Int×List LB×Int×Int×List Bool×List Bool×List LB×List Bool×List LB
abbrev Alv:=List Bool×LI×AeU
abbrev Aoo:=List (Int×(Int×LB))×List (Int×(Int×LB))×List Bool×Int×LB×List LB×Int×Int×Bool
abbrev Aei:=(Option (LL×(Int×(Bool×(Int×(Int×(Int×(Int×(Int×(Int×(LL×(LI×(LI×(LI×(Int×(LI×(LL×(Int×(LB×(List (Int×Int)×List (List (Int×(Int×LB)))))))))))))))))))))))×Aep
abbrev AlT:=List (Int×Int)×Int×Int×Int×List (Int×Int)×Int×Int×Bool×Int×Int
abbrev Aie:=LI×Int×LI×Wy
abbrev AnP:=LL×LI×Int×Int×U87
abbrev Alq:=Int×Ue
abbrev AnA:=LI×Int×Int×Int×TO
abbrev AnR:=LL×LI×Afh
abbrev An8:=LI×LI×Int×List LB×U87
abbrev Aov:=LI×AdZ
abbrev AnW:=Int×LI×List (Int×Int)×Int×U93
abbrev Al2:=List (Int×(Int×LB))×Int×Int×Int×Int×List Bool×List LB×Int×Int×LB
abbrev AnI:=Int×Aan
abbrev AnB:=List (Int×(Int×LB))×Alo
abbrev AlF:=LI×LL×LI×Int×LI×LL×U44
abbrev AeM:=Int×LB×List LB×Int×Int×List Bool×List Bool×List LB×List Bool×List LB
abbrev AnK:=(LL×(LI×(LI×LI)))×LI×Int×List (Int×(Int×LB))×Int×Int×U30
abbrev AiG:=Int×Aei
abbrev Ali:=Bool×Int×Int×Int×Int×Int×Int×Int×Int×Int×Int
abbrev AlD:=LL×LL×Int×Int×LL×Int×Bool×Int×Int×Bool×Int
abbrev AnT:=LI×LI×Int×LI×Int×U87
abbrev AnE:=Int×LI×Amh
abbrev VO:=LI×Int×Int×MU
abbrev AnJ:=LL×Aie
abbrev AkT:=Int×LI×List (Int×Int)×Int×Int×U93
abbrev Aon:=LB×LI×Bool×MU
abbrev Aol:=Int×AeM
abbrev AnY:=List (Int×Int)×AlF
abbrev An3:=Int×Bool×Aei
abbrev Anm:=Bool×LL×Int×Bool×Int×Int×Int×Int×U29
abbrev Aop:=Int×VO
abbrev An1:=LI×Int×Int×Int×MU
abbrev Ami:=Int×LI×LL×Int×Afh
abbrev Al8:=LL×LI×Int×LI×Int×Int×U87
abbrev Aox:=LI×LI×Int×Int×List LB×Wy
abbrev Al1:=LB×VO
abbrev Aob:=Bool×Int×LI×LL×Aep
abbrev Aib:=Int×Int×LB×Aan
abbrev Aok:=List Bool×LI×List (Int×(Int×LB))×Int×Int×Int×Int×LB×U44
abbrev Anj:=LI×Int×Int×LI×Int×Int×Bool×(Option (LL×(LI×(LI×LI))))×U38
abbrev Aoj:=Int×LI×LL×Int×Int×LI×Wy
abbrev Aow:=LL×LI×Int×LI×Int×Int×Wy
abbrev Ai4:=List (Int×Int)×Int×Bool×Int×LI×Bool×Int×List (Int×Int)×Int×U38
abbrev Aih:=LI×LL×LI×LI×Int×Int×Int×LI×LL×U44
abbrev AmE:=List (Int×Int)×LI×LL×LI×Int×Int×Int×LI×LL×U44
abbrev Alg:=LI×LL×LI×List (Int×Int)×Int×Int×Int×LI×LL×U44
abbrev Ak4:=LL×LI×Int×Int×Int×Int×Int×Int×U87
abbrev An6:=LI×LL×LI×Int×LI×Int×Int×Int×LI×LL×U44
abbrev Aiy:=Int×Int×LB×LB×List LB×Int×Int×Int×Int×List Bool×List Bool×List LB×List Bool×List LB
abbrev Aoh:=Bool×Int×Int×Int×Int×Int×Ajk
abbrev Ahx:=Int×Int×Int×Int×Int×Int×LL×LI×LI×LI×List (Int×Int)×Int×LB×List (Int×Int)×List (List (Int×(Int×LB)))×LI
abbrev AnF:=Bool×Int×Int×Int×Int×Int×LL×LI×LI×LI×List (Int×Int)×Int×LB×List (Int×Int)×List (List (Int×(Int×LB)))×LI
abbrev ZK:=Int×Int×Int×Int×Int×Int×AiG
abbrev AlO:=Bool×Int×Int×Int×Int×Int×Int×LB×Int×Int×Int×U87
abbrev Ano:=Int×LI×Int×Int×Int×Int×Int×LL×LI×LI×LI×List (Int×Int)×Int×LB×List (Int×Int)×List (List (Int×(Int×LB)))×LI
abbrev Alj:=Int×Int×Bool×Int×Int×Int×Int×AiG
abbrev AnL:=Bool×AlO
abbrev Aog:=List (Int×Int)×LI×Int×Int×Int×Int×Int×Int×LB×Int×Int×Int×U87
abbrev Aiv:=Int×LI×Ahx
abbrev AlP:=LB×LI×LI×LI×Bool×LL×Int×Bool×Int×Int×Int×Int×Int×Int×LL×LI×LI×LI×List (Int×Int)
abbrev AhX:=Int×Int×LI×ZK
abbrev Amt:=Int×Int×List (Int×Int)×ZK
abbrev Alr:=Int×LI×List (Int×Int)×Int×Ahx
abbrev Ak0:=List (Int×Int)×LI×LI×Int×Int×Int×Int×Int×Int×Int×Int×LB×Int×Int×Int×U87
abbrev An4:=LB×LI×Bool×LI×LI×LI×Bool×LL×Int×Bool×Int×Int×Int×Int×Int×Int×LL×LI×LI×LI×List (Int×Int)
abbrev AaV:=Bool×LL×Int×Bool×Int×Int×Int×Int×Int×Int×LL×LI×LI×LI×Int×LI×LL×Int×LB×List (Int×Int)×List (List (Int×(Int×LB)))
abbrev An9:=Int×Int×Int×LI×Alj
abbrev Amu:=LB×LI×Int×Int×LI×LI×LI×Bool×LL×Int×Bool×Int×Int×Int×Int×Int×Int×LL×LI×LI×LI×List (Int×Int)
abbrev Amd:=LI×LI×LI×LI×Bool×LL×Int×Bool×Int×Int×Int×Int×Int×Int×LL×LI×LI×LI×Int×LI×LL×List (Int×Int)
abbrev Anr:=LB×Int×LI×Int×Int×LI×LI×LI×Bool×LL×Int×Bool×Int×Int×Int×Int×Int×Int×LL×LI×LI×LI×List (Int×Int)
abbrev AnN:=LI×Amd
abbrev AnM:=Bool×Int×Int×Int×Int×Int×Int×LB×Int×Int×Int×Int×Int×LL×LI×LI×LI×List (Int×Int)×Int×LB×List (Int×Int)×List (List (Int×(Int×LB)))×LI
abbrev YU:=LI×LI×LI×AaV
abbrev Qg:=LI×LI×LI×Bool×List (Int×Int)×LL×Int×Bool×Int×Int×Int×Int×Int×Int×LL×LI×LI×LI×Int×LI×LL×Int×LB×List (Int×Int)×List (List (Int×(Int×LB)))
abbrev AhQ:=List (Int×Int)×Int×Int×YU
abbrev AnX:=List (Int×Int)×List (List (Int×(Int×LB)))×Qg
abbrev Aml:=LI×Int×Int×Qg
abbrev Anx:=List (Int×Int)×List (List (Int×(Int×LB)))×Bool×Qg
abbrev Aoq:=Int×Int×Bool×LL×Int×Bool×Int×Int×Int×Int×Int×Int×Int×LB×Int×Int×Int×Int×Int×LL×LI×LI×LI×List (Int×Int)×Int×LB×List (Int×Int)×List (List (Int×(Int×LB)))×LI
abbrev Aja:=List (Int×Int)×List (List (Int×(Int×LB)))×Int×Int×Qg
abbrev AmD:=List (List (Int×(Int×LB)))×List (Int×Int)×Int×Int×Qg
abbrev Anv:=Int×Int×Int×Int×Int×Int×LB×Int×Int×Int×Int×Int×LL×LI×LI×LI×List (Int×Int)×Int×LB×Int×LB×List (Int×Int)×List (List (Int×(Int×LB)))×MU
abbrev Anz:=List (Int×Int)×List (List (Int×(Int×LB)))×List (Int×(Int×LB))×Int×Int×Int×Int×Qg
abbrev Aoc:=List (Int×Int)×List (List (Int×(Int×LB)))×List (Int×(Int×LB))×Bool×Int×Int×Int×Int×Qg
abbrev Anl:=Int×Int×Int×Int×Int×Int×LB×LL×LI×LI×LI×Int×Int×Int×Int×Int×LL×LI×LI×LI×List (Int×Int)×Int×LB×Int×LB×List (Int×Int)×List (List (Int×(Int×LB)))×MU
abbrev Aip:=LI×Int×Int×Int×Int×Int×Int×Int×Int×LB×LL×LI×LI×LI×Int×Int×Int×Int×Int×LL×LI×LI×LI×List (Int×Int)×Int×LB×Int×LB×List (Int×Int)×List (List (Int×(Int×LB)))×LL×LI×LI×LI×LI×LI×Bool
abbrev Aor:=Int×Aip
abbrev Amw:=LI×Int×Int×Bool×Int×Int×Int×Int×Int×Int×LB×LL×LI×LI×LI×Int×Int×Int×Int×Int×LL×LI×LI×LI×List (Int×Int)×Int×LB×Int×LB×List (Int×Int)×List (List (Int×(Int×LB)))×LL×LI×LI×LI×LI×LI×Bool
abbrev Aom:=Int×Int×Int×Int×Int×Int×LB×Int×Int×Int×Int×Int×LL×LI×LI×LI×Int×Int×Int×Int×Int×LL×LI×LI×LI×List (Int×Int)×Int×LB×Int×LB×List (Int×Int)×MU
abbrev Abb:=Int×Int×Int×Int×Int×Int×LB×Int×Int×Int×Int×Int×LL×LI×LI×LI×Int×Int×Int×Int×Int×LL×LI×LI×LI×List (Int×Int)×Int×LB×Int×LB×List (Int×Int)×List (List (Int×(Int×LB)))×MU
abbrev Aoi:=Int×Int×Amw
abbrev Z8:=Int×Abb
abbrev Amn:=Bool×Abb
abbrev AhM:=Int×Amn
abbrev Anp:=Int×List (Int×(Int×LB))×Abb
abbrev Ak9:=List (List (Int×(Int×LB)))×List (Int×Int)×Int×Z8
abbrev Aof:=List (List (Int×(Int×LB)))×List (Int×Int)×Int×AhM
def NI (x0:LI) (x1:Int):Option (Int):=
 if decide (wI (x1 - (x0.length:Int)) < 0)then
  some (-1)
 else
  some (wI (x1 - (x0.length:Int)))
def IL (y:(LL×(Int×Int))):Option ((LL×(Int×Int))⊕(Int⊕Int)):=
 if decide (y.2.2 < (y.1.length:Int))then
  gX y.1 y.2.2 λr1=>
  (NI r1 y.2.1).bind λc2=>
  if decide (c2 < 0)then
   some (.inr (.inr (-1)))
  else
   some (.inl (y.1,c2,wI (y.2.2+1)))
 else
  some (.inr (.inl y.2.1))
def L8 (x0:LL) (x1:Int):Option (Int):=
 if decide (wI (x1 - (x0.length:Int)) < 0)then
  some (-1)
 else
  (Ab IL (x0,wI (x1 - (x0.length:Int)),0)).bind λv3=>
  match v3 with
  | .inl y4=>
   some y4
  | .inr s5=>
   some s5
def Qc (x0:LL) (x1:Int) (x2:Bool) (x3 x4:Int):Option (Int):=
 (L8 x0 x4).bind λc1=>
 if decide (c1 < 0)then
  some (-1)
 else
  some c1
def JZ (y:(LI×(LI×Int))):Option ((LI×(LI×Int))⊕LI):=
 if decide (y.2.2 < (y.1.length:Int))then
  gX y.1 y.2.2 λr1=>
  cZ y.2.2 <|
  cK (decide (y.2.2 < (y.2.1.length:Int))) <|
  Option.bind (y.2.1[0+y.2.2.toNat]?) λr2=>
  Option.bind (y.2.1[0+y.2.2.toNat]?) λr3=>
  some (.inl (y.1,y.2.1.set (0+y.2.2.toNat) r1,wI (y.2.2+1)))
 else
  some (.inr y.2.1)
def N5 (x0:LI):Option LI:=
 cZ (x0.length:Int) <|
 cK (decide ((x0.length:Int)<=(x0.length:Int))) <|
 cK (Aa ((x0.length:Int).toNat) 1) <|
 (Ab JZ (x0,List.replicate ((x0.length:Int).toNat) (0:Int),0)).bind λv4=>
 some v4
def IH (y:U20):Option (U20⊕LL):=
 if decide (y.2.2 < (y.1.length:Int))then
  gX y.1 y.2.2 λr1=>
  (N5 r1).bind λc2=>
  cZ y.2.2 <|
  cK (decide (y.2.2 < (y.2.1.length:Int))) <|
  Option.bind (y.2.1[0+y.2.2.toNat]?) λr3=>
  Option.bind (y.2.1[0+y.2.2.toNat]?) λr4=>
  some (.inl (y.1,y.2.1.set (0+y.2.2.toNat) c2,wI (y.2.2+1)))
 else
  some (.inr y.2.1)
def LR (x0:LL):Option LL:=
 cZ (x0.length:Int) <|
 cK (decide ((x0.length:Int)<=(x0.length:Int))) <|
 cK (Aa ((x0.length:Int).toNat) 24) <|
 (Ab IH (x0,List.replicate ((x0.length:Int).toNat) ([]:LI),0)).bind λv5=>
 some v5
def I3 (x0:LL) (x1:Int) (x2:Bool) (x3:Int):Option U37:=
 (LR x0).bind λc1=>
 some (c1,x1,x2,x3)
def BA (x0 x1 x2:Int):Option (Bool):=
 Option.bind (α:=Bool) (
  if decide (x1<=x0)then
   some (decide (x0<=x2))
  else
  some false) λv1=>
 some v1
def Qr (y:(LL×(Int×Int))):Option ((LL×(Int×Int))⊕(Unit⊕Bool)):=
 if decide (y.2.2 < y.2.1)then
  gX y.1 y.2.2 λr5=>
  if decide (¬ (r5.length:Int)=128)then
   some (.inr (.inr false))
  else
   some (.inl (y.1,y.2.1,wI (y.2.2+1)))
 else
  some (.inr (.inl ()))
def J9 (x0:LL) (x1:Int) (x2:Bool) (x3:Int):Option (Bool):=
 Option.bind (α:=U60) (
   (BA (x0.length:Int) 40 160).bind λc1=>
   if(!c1)then
    some (true,x0,x1,x2,x3)
   else
    (BA x1 0 1000000000).bind λc2=>
    if(!c2)then
     some (true,x0,x1,x2,x3)
    else
     (BA x3 (-1) 1000000).bind λc3=>
     some ((!c3),x0,x1,x2,x3)) λv4=>
 if v4.1 then
  some false
 else
  (Ab Qr (v4.2.1,(v4.2.1.length:Int),0)).bind λv6=>
  match v6 with
  | .inl y7=>
   some true
  | .inr s8=>
   some s8
def UI (x0 x1:Int):Option (Bool):=
 Option.bind (α:=Bool) (
  if decide (x0=0)then
   some true
  else
  if decide (x0=1)then
   some true
  else
   (BA x0 33 (wI (x1 - 1))).bind λc1=>
   some c1) λv2=>
 some v2
def Jt (y:U74):Option (U74⊕(Unit⊕Bool)):=match y with
 | (a,b,c,d,e)=>
 if decide (e < d)then
  gX c e λr2=>
  Option.bind (α:=U98) (
    (UI r2.1 b).bind λc3=>
    if(!c3)then
     some (a,b,c,d,e,true)
    else
    if decide (¬ (r2.2.length:Int)=128)then
     some (a,b,c,d,e,true)
    else
    if decide (0 < e)then
     gX a (wI (e - 1)) λr4=>
     some (a,b,c,d,e,decide (r2.1<=r4.1))
    else
    some (a,b,c,d,e,false)) λ(f,g,h,i,j,k)=>
  if k then
   some (.inr (.inr false))
  else
   some (.inl (f,g,h,i,wI (j+1)))
 else
  some (.inr (.inl ()))
def ND (x0:List (Int×LI)) (x1:Int):Option (Bool):=
 (BA (x0.length:Int) 1 30).bind λc1=>
 if(!c1)then
  some false
 else
  (Ab Jt (x0,x1,x0,(x0.length:Int),0)).bind λv6=>
  match v6 with
  | .inl y7=>
   some true
  | .inr s8=>
   some s8
def Gx (y:(Int×(LI×(Int×Int)))):Option ((Int×(LI×(Int×Int)))⊕Int):=
 if decide (y.2.2.2 < y.2.2.1)then
  gX y.2.1 y.2.2.2 λr1=>
  cK (decide (¬ (4294967296:Int)=0)) <|
  some (.inl (Int.tmod (IntKind.wrap .u64 ((IntKind.wrap .u64 (((BitVec.ofInt (IntKind.bits .u64) y.1 ^^^ BitVec.ofInt (IntKind.bits .u64) (IntKind.wrap .u64 r1)).toNat:Int))) * 16777619)) 4294967296,y.2.1,y.2.2.1,wI (y.2.2.2+1)))
 else
  some (.inr y.1)
def JN (x0:LI):Option (Int):=
 (Ab Gx (2166136261,x0,(x0.length:Int),0)).bind λv2=>
 some (IntKind.wrap .u32 v2)
def Gw (y:U77):Option (U77⊕U3):=
 if decide (y.2.2.2.2 < y.2.2.2.1)then
  gX y.2.2.1 y.2.2.2.2 λr1=>
  cK (decide (¬ (256:Int)=0)) <|
  cK (Aa (y.2.1.length+([wB (wI (Int.tdiv r1.1 256)),IntKind.wrap .u8 r1.1]:LI).length) 1) <|
  some (.inl (y.1,y.2.1++([wB (wI (Int.tdiv r1.1 256)),IntKind.wrap .u8 r1.1]:LI),y.2.2.1,y.2.2.2.1,wI (y.2.2.2.2+1)))
 else
  some (.inr (y.1,y.2.1))
def GF (y:U67):Option (U67⊕(LI×LI)):=
 if decide (y.2.2.2.2 < y.2.2.2.1)then
  gX y.2.2.1 y.2.2.2.2 λr3=>
  cK (Aa (y.2.1.length+r3.2.length) 1) <|
  some (.inl (y.1,y.2.1++r3.2,y.2.2.1,y.2.2.2.1,wI (y.2.2.2.2+1)))
 else
  some (.inr (y.1,y.2.1))
def LH (x0:List (Int×LI)):Option LI:=
 (Ab Gw (x0,[76,79,71,49,wB (x0.length:Int)],x0,(x0.length:Int),0)).bind λv2=>
 cZ (wI (124 - (v2.2.length:Int))) <|
 cK (Aa (v2.2.length+(List.replicate ((wI (124 - (v2.2.length:Int))).toNat) (0:Int)).length) 1) <|
 cK (Aa (([]:LI).length+(v2.2++(List.replicate ((wI (124 - (v2.2.length:Int))).toNat) (0:Int))).length) 1) <|
 (Ab GF (v2.2++(List.replicate ((wI (124 - (v2.2.length:Int))).toNat) (0:Int)),([]:LI)++(v2.2++(List.replicate ((wI (124 - (v2.2.length:Int))).toNat) (0:Int))),v2.1,(v2.1.length:Int),0)).bind λv4=>
 (JN v4.2).bind λc5=>
 cZ 24 <|
 cZ 16 <|
 cZ 8 <|
 cK (Aa (v4.1.length+([wB (Int.fdiv c5 (2 ^ (min (Int.toNat 24) (IntKind.bits .u32)))),wB (Int.fdiv c5 (2 ^ (min (Int.toNat 16) (IntKind.bits .u32)))),wB (Int.fdiv c5 (2 ^ (min (Int.toNat 8) (IntKind.bits .u32)))),IntKind.wrap .u8 c5]:LI).length) 1) <|
 some (v4.1++([wB (Int.fdiv c5 (2 ^ (min (Int.toNat 24) (IntKind.bits .u32)))),wB (Int.fdiv c5 (2 ^ (min (Int.toNat 16) (IntKind.bits .u32)))),wB (Int.fdiv c5 (2 ^ (min (Int.toNat 8) (IntKind.bits .u32)))),IntKind.wrap .u8 c5]:LI))
def Fq (y:Ak6):Option (Ak6⊕U95):=match y with
 | (a,b,c,d,e,f,g,h)=>
 if decide (d < b)then
  gX a (wI (5+(wI (2 * d)))) λr7=>
  gX a (wI (6+(wI (2 * d)))) λr8=>
  gX e (wI (3+d)) λr9=>
  cK (Aa (([]:LI).length+r9.length) 1) <|
  cK (Aa (c.length+([(wI ((wI ((IntKind.wrap .i64 r7) * 256))+(IntKind.wrap .i64 r8)),([]:LI)++r9)]:List (Int×LI)).length) 32) <|
  some (.inl (a,b,c++([(wI ((wI ((IntKind.wrap .i64 r7) * 256))+(IntKind.wrap .i64 r8)),([]:LI)++r9)]:List (Int×LI)),wI (d+1),e,f,g,h))
 else
  some (.inr (a,c,e,f,g,h))
def K5 (x0:LL) (x1:Int) (x2:Bool) (x3:Int):Option (List (Int×LI)):=
 gX x0 2 λr1=>
 gX r1 4 λr2=>
 (BA (IntKind.wrap .i64 r2) 1 30).bind λc3=>
 if(!c3)then
  some []
 else
  (Ab Fq (r1,IntKind.wrap .i64 r2,[],0,x0,x1,x2,x3)).bind λ(a,b,c,_,_,_)=>
  Option.bind (α:=(List (Int×LI)×Bool)) (
    (ND b (c.length:Int)).bind λc11=>
    if(!c11)then
     some (b,true)
    else
     (LH b).bind λc12=>
     some (b,(!((AL c12:LB) == (AL a))))) λv13=>
  if v13.2 then
   some []
  else
   some v13.1
def Q8 (x0 x1:Int):Option (Bool):=
 Option.bind (α:=Bool) (
  (BA x0 0 x1).bind λc1=>
  if c1 then
   some (decide (x1<=60))
  else
  some false) λv2=>
 some v2
def Nu (x0 x1 x2 x3 x4:Int):Option (Bool):=
 Option.bind (α:=Bool) (
  (Q8 x0 x1).bind λc1=>
  if c1 then
   (BA x2 1 30).bind λc2=>
   if c2 then
    (BA x3 33 159).bind λc3=>
    if c3 then
     (BA x4 33 159).bind λc4=>
     some c4
    else
    some false
   else
   some false
  else
  some false) λv5=>
 some v5
def L7 (x0 x1 x2 x3 x4:Int):Option LI:=
 cK (decide (¬ (256:Int)=0)) <|
 cK (decide (¬ (256:Int)=0)) <|
 cZ (wI (124 - (List.length [83,84,82,49,IntKind.wrap .u8 x0,IntKind.wrap .u8 x1,IntKind.wrap .u8 x2,0,wB (wI (Int.tdiv x3 256)),IntKind.wrap .u8 x3,wB (wI (Int.tdiv x4 256)),IntKind.wrap .u8 x4]:Int))) <|
 cK (Aa (([83,84,82,49,IntKind.wrap .u8 x0,IntKind.wrap .u8 x1,IntKind.wrap .u8 x2,0,wB (wI (Int.tdiv x3 256)),IntKind.wrap .u8 x3,wB (wI (Int.tdiv x4 256)),IntKind.wrap .u8 x4]:LI).length+(List.replicate ((wI (124 - (List.length [83,84,82,49,IntKind.wrap .u8 x0,IntKind.wrap .u8 x1,IntKind.wrap .u8 x2,0,wB (wI (Int.tdiv x3 256)),IntKind.wrap .u8 x3,wB (wI (Int.tdiv x4 256)),IntKind.wrap .u8 x4]:Int))).toNat) (0:Int)).length) 1) <|
 (JN (([83,84,82,49,IntKind.wrap .u8 x0,IntKind.wrap .u8 x1,IntKind.wrap .u8 x2,0,wB (wI (Int.tdiv x3 256)),IntKind.wrap .u8 x3,wB (wI (Int.tdiv x4 256)),IntKind.wrap .u8 x4]:LI)++(List.replicate ((wI (124 - (List.length [83,84,82,49,IntKind.wrap .u8 x0,IntKind.wrap .u8 x1,IntKind.wrap .u8 x2,0,wB (wI (Int.tdiv x3 256)),IntKind.wrap .u8 x3,wB (wI (Int.tdiv x4 256)),IntKind.wrap .u8 x4]:Int))).toNat) (0:Int)))).bind λc1=>
 cZ 24 <|
 cZ 16 <|
 cZ 8 <|
 cK (Aa ((([83,84,82,49,IntKind.wrap .u8 x0,IntKind.wrap .u8 x1,IntKind.wrap .u8 x2,0,wB (wI (Int.tdiv x3 256)),IntKind.wrap .u8 x3,wB (wI (Int.tdiv x4 256)),IntKind.wrap .u8 x4]:LI)++(List.replicate ((wI (124 - (List.length [83,84,82,49,IntKind.wrap .u8 x0,IntKind.wrap .u8 x1,IntKind.wrap .u8 x2,0,wB (wI (Int.tdiv x3 256)),IntKind.wrap .u8 x3,wB (wI (Int.tdiv x4 256)),IntKind.wrap .u8 x4]:Int))).toNat) (0:Int))).length+([wB (Int.fdiv c1 (2 ^ (min (Int.toNat 24) (IntKind.bits .u32)))),wB (Int.fdiv c1 (2 ^ (min (Int.toNat 16) (IntKind.bits .u32)))),wB (Int.fdiv c1 (2 ^ (min (Int.toNat 8) (IntKind.bits .u32)))),IntKind.wrap .u8 c1]:LI).length) 1) <|
 some ((([83,84,82,49,IntKind.wrap .u8 x0,IntKind.wrap .u8 x1,IntKind.wrap .u8 x2,0,wB (wI (Int.tdiv x3 256)),IntKind.wrap .u8 x3,wB (wI (Int.tdiv x4 256)),IntKind.wrap .u8 x4]:LI)++(List.replicate ((wI (124 - (List.length [83,84,82,49,IntKind.wrap .u8 x0,IntKind.wrap .u8 x1,IntKind.wrap .u8 x2,0,wB (wI (Int.tdiv x3 256)),IntKind.wrap .u8 x3,wB (wI (Int.tdiv x4 256)),IntKind.wrap .u8 x4]:Int))).toNat) (0:Int)))++([wB (Int.fdiv c1 (2 ^ (min (Int.toNat 24) (IntKind.bits .u32)))),wB (Int.fdiv c1 (2 ^ (min (Int.toNat 16) (IntKind.bits .u32)))),wB (Int.fdiv c1 (2 ^ (min (Int.toNat 8) (IntKind.bits .u32)))),IntKind.wrap .u8 c1]:LI))
def NY (x0:LI):Option U83:=
 if decide (¬ (x0.length:Int)=128)then
  some (false,0,0,0,0,0)
 else
 gX x0 4 λr1=>
 gX x0 5 λr2=>
 gX x0 6 λr3=>
 gX x0 8 λr4=>
 gX x0 9 λr5=>
 gX x0 10 λr6=>
 gX x0 11 λr7=>
 Option.bind (α:=Ali) (
   (Nu (IntKind.wrap .i64 r1) (IntKind.wrap .i64 r2) (IntKind.wrap .i64 r3) (wI ((wI ((IntKind.wrap .i64 r4) * 256))+(IntKind.wrap .i64 r5))) (wI ((wI ((IntKind.wrap .i64 r6) * 256))+(IntKind.wrap .i64 r7)))).bind λc8=>
   if(!c8)then
    some (true,0,0,0,0,0,IntKind.wrap .i64 r1,IntKind.wrap .i64 r2,IntKind.wrap .i64 r3,wI ((wI ((IntKind.wrap .i64 r4) * 256))+(IntKind.wrap .i64 r5)),wI ((wI ((IntKind.wrap .i64 r6) * 256))+(IntKind.wrap .i64 r7)))
   else
    (L7 (IntKind.wrap .i64 r1) (IntKind.wrap .i64 r2) (IntKind.wrap .i64 r3) (wI ((wI ((IntKind.wrap .i64 r4) * 256))+(IntKind.wrap .i64 r5))) (wI ((wI ((IntKind.wrap .i64 r6) * 256))+(IntKind.wrap .i64 r7)))).bind λc9=>
    some ((!((AL c9:LB) == (AL x0))),0,0,0,0,0,IntKind.wrap .i64 r1,IntKind.wrap .i64 r2,IntKind.wrap .i64 r3,wI ((wI ((IntKind.wrap .i64 r4) * 256))+(IntKind.wrap .i64 r5)),wI ((wI ((IntKind.wrap .i64 r6) * 256))+(IntKind.wrap .i64 r7)))) λ(a,_,_,_,_,_,b,c,d,e,f)=>
 if a then
  some (false,0,0,0,0,0)
 else
  some (true,b,c,d,e,f)
def VG (y:AlD):Option (AlD⊕Ank):=
 if decide (y.2.2.2.1 < y.2.2.1)then
  gX y.2.1 y.2.2.2.1 λr2=>
  cK (Aa (([]:LI).length+r2.length) 1) <|
  cK (Aa (y.1.length+([([]:LI)++r2]:LL).length) 24) <|
  some (.inl (y.1++([([]:LI)++r2]:LL),y.2.1,y.2.2.1,wI (y.2.2.2.1+1),y.2.2.2.2.1,y.2.2.2.2.2.1,y.2.2.2.2.2.2.1,y.2.2.2.2.2.2.2.1,y.2.2.2.2.2.2.2.2.1,y.2.2.2.2.2.2.2.2.2.1,y.2.2.2.2.2.2.2.2.2.2))
 else
  some (.inr (y.1,y.2.2.2.2.1,y.2.2.2.2.2.1,y.2.2.2.2.2.2.1,y.2.2.2.2.2.2.2.1,y.2.2.2.2.2.2.2.2.1,y.2.2.2.2.2.2.2.2.2.1,y.2.2.2.2.2.2.2.2.2.2))
def SE (x0:LL) (x1:Int) (x2:Bool) (x3:Int):Option U37:=
 (Ab VG ([],x0,(x0.length:Int),0,x0,x1,x2,x3,0,false,0)).bind λv3=>
 some (v3.1,v3.2.2.1,v3.2.2.2.1,v3.2.2.2.2.1)
def Hy (x0:LI) (x1:Int):Option (Bool):=
 cK (decide (¬ (8:Int)=0)) <|
 gX x0 (wI (Int.tdiv x1 8)) λr1=>
 cK (decide (¬ (8:Int)=0)) <|
 cZ (IntKind.wrap .u64 (Int.tmod x1 8)) <|
 some (decide (wB (((BitVec.ofInt (IntKind.bits .u8) (Int.fdiv r1 (2 ^ (min ((IntKind.wrap .u64 (Int.tmod x1 8)).toNat) (IntKind.bits .u8)))) &&& BitVec.ofInt (IntKind.bits .u8) 1).toNat:Int))=1))
def FT (y:Zq):Option (Zq⊕(U66⊕Bool)):=
 if decide (y.2.2.2.1 < y.2.2.1)then
  gX y.2.1 y.2.2.2.1 λr3=>
  if decide (¬ (r3.length:Int)=128)then
   some (.inr (.inr false))
  else
   some (.inl (y.1,y.2.1,y.2.2.1,wI (y.2.2.2.1+1),y.2.2.2.2.1,y.2.2.2.2.2.1,y.2.2.2.2.2.2.1,y.2.2.2.2.2.2.2))
 else
  some (.inr (.inl (y.1,y.2.2.2.2.1,y.2.2.2.2.2.1,y.2.2.2.2.2.2.1,y.2.2.2.2.2.2.2)))
def HT (y:U87):Option (U87⊕(U66⊕Bool)):=
 if decide (y.2.1 < 160)then
  (Hy y.2.2.2.1 y.2.1).bind λc7=>
  Option.bind (α:=Wy) (
    if decide (y.2.1 < 33)then
     if(!c7)then
      some (y.1,y.2.1,true,y.2.2.1,y.2.2.2.1,y.2.2.2.2.1,y.2.2.2.2.2)
     else
     if decide (y.1<=y.2.1)then
      some (y.1,y.2.1,c7,y.2.2.1,y.2.2.2.1,y.2.2.2.2.1,y.2.2.2.2.2)
     else
     some (y.1,y.2.1,false,y.2.2.1,y.2.2.2.1,y.2.2.2.2.1,y.2.2.2.2.2)
    else
    if decide (y.1<=y.2.1)then
     some (y.1,y.2.1,c7,y.2.2.1,y.2.2.2.1,y.2.2.2.2.1,y.2.2.2.2.2)
    else
    some (y.1,y.2.1,false,y.2.2.1,y.2.2.2.1,y.2.2.2.2.1,y.2.2.2.2.2)) λv8=>
  if v8.2.2.1 then
   some (.inr (.inr false))
  else
   some (.inl (v8.1,wI (v8.2.1+1),v8.2.2.2.1,v8.2.2.2.2.1,v8.2.2.2.2.2.1,v8.2.2.2.2.2.2))
 else
  some (.inr (.inl (y.1,y.2.2.1,y.2.2.2.1,y.2.2.2.2.1,y.2.2.2.2.2)))
def FS (y:Ami):Option (Ami⊕(Zq⊕Bool)):=
 if decide (y.2.2.2.2.2.2.2.1 < y.2.2.2.2.2.2.1)then
  gX y.2.2.2.2.2.1 y.2.2.2.2.2.2.2.1 λr13=>
  Option.bind (α:=Aoj) (
    (BA r13 33 (wI (y.1 - 1))).bind λc14=>
    if(!c14)then
     some (y.1,y.2.1,y.2.2.1,y.2.2.2.1,y.2.2.2.2.1,y.2.2.2.2.2.1,y.2.2.2.2.2.2.1,y.2.2.2.2.2.2.2.1,true,y.2.2.2.2.2.2.2.2.1,y.2.2.2.2.2.2.2.2.2.1,y.2.2.2.2.2.2.2.2.2.2.1,y.2.2.2.2.2.2.2.2.2.2.2)
    else
     (Hy y.2.2.2.2.2.2.2.2.2.1 r13).bind λc15=>
     if(!c15)then
      some (y.1,y.2.1,y.2.2.1,y.2.2.2.1,y.2.2.2.2.1,y.2.2.2.2.2.1,y.2.2.2.2.2.2.1,y.2.2.2.2.2.2.2.1,true,y.2.2.2.2.2.2.2.2.1,y.2.2.2.2.2.2.2.2.2.1,y.2.2.2.2.2.2.2.2.2.2.1,y.2.2.2.2.2.2.2.2.2.2.2)
     else
     if decide (0 < y.2.2.2.2.2.2.2.1)then
      gX y.2.1 (wI (y.2.2.2.2.2.2.2.1 - 1)) λr16=>
      some (y.1,y.2.1,y.2.2.1,y.2.2.2.1,y.2.2.2.2.1,y.2.2.2.2.2.1,y.2.2.2.2.2.2.1,y.2.2.2.2.2.2.2.1,decide (r13<=r16),y.2.2.2.2.2.2.2.2.1,y.2.2.2.2.2.2.2.2.2.1,y.2.2.2.2.2.2.2.2.2.2.1,y.2.2.2.2.2.2.2.2.2.2.2)
     else
     some (y.1,y.2.1,y.2.2.1,y.2.2.2.1,y.2.2.2.2.1,y.2.2.2.2.2.1,y.2.2.2.2.2.2.1,y.2.2.2.2.2.2.2.1,false,y.2.2.2.2.2.2.2.2.1,y.2.2.2.2.2.2.2.2.2.1,y.2.2.2.2.2.2.2.2.2.2.1,y.2.2.2.2.2.2.2.2.2.2.2)) λv17=>
  if v17.2.2.2.2.2.2.2.2.1 then
   some (.inr (.inr false))
  else
   some (.inl (v17.1,v17.2.1,v17.2.2.1,v17.2.2.2.1,v17.2.2.2.2.1,v17.2.2.2.2.2.1,v17.2.2.2.2.2.2.1,wI (v17.2.2.2.2.2.2.2.1+1),v17.2.2.2.2.2.2.2.2.2.1,v17.2.2.2.2.2.2.2.2.2.2.1,v17.2.2.2.2.2.2.2.2.2.2.2.1,v17.2.2.2.2.2.2.2.2.2.2.2.2))
 else
  some (.inr (.inl (y.1,y.2.2.1,y.2.2.2.1,y.2.2.2.2.1,y.2.2.2.2.2.2.2.2.1,y.2.2.2.2.2.2.2.2.2.1,y.2.2.2.2.2.2.2.2.2.2.1,y.2.2.2.2.2.2.2.2.2.2.2)))
def Kt (y:Zq):Option (Zq⊕(Unit⊕Bool)):=
 if decide (y.2.2.2.1 < y.2.2.1)then
  cZ y.2.2.2.1 <|
  cK (decide (y.2.2.2.1 < (y.2.1.length:Int))) <|
  Option.bind (y.2.1[0+y.2.2.2.1.toNat]?) λr12=>
  (Ab FS (y.1,r12,y.2.1,y.2.2.1,y.2.2.2.1,r12,(r12.length:Int),0,y.2.2.2.2.1,y.2.2.2.2.2.1,y.2.2.2.2.2.2.1,y.2.2.2.2.2.2.2)).bind λv18=>
  match v18 with
  | .inl y19=>
   some (.inl (y19.1,y19.2.1,y19.2.2.1,wI (y19.2.2.2.1+1),y19.2.2.2.2.1,y19.2.2.2.2.2.1,y19.2.2.2.2.2.2.1,y19.2.2.2.2.2.2.2))
  | .inr s20=>
   some (.inr (.inr s20))
 else
  some (.inr (.inl ()))
def Ih (x0:LL) (x1 x2 x3:LI):Option (Bool):=
 Option.bind (α:=U88) (
   (BA (x0.length:Int) 40 160).bind λc1=>
   if(!c1)then
    some ((x0.length:Int),true,x0,x1,x2,x3)
   else
   some ((x0.length:Int),decide (¬ (x1.length:Int)=20),x0,x1,x2,x3)) λv2=>
 if v2.2.1 then
  some false
 else
  (Ab FT (v2.1,v2.2.2.1,(v2.2.2.1.length:Int),0,v2.2.2.1,v2.2.2.2.1,v2.2.2.2.2.1,v2.2.2.2.2.2)).bind λv4=>
  match v4 with
  | .inl y5=>
   (Ab HT (y5.1,0,y5.2.1,y5.2.2.1,y5.2.2.2.1,y5.2.2.2.2)).bind λv9=>
   match v9 with
   | .inl y10=>
    (Ab Kt (y10.1,[y10.2.2.2.1,y10.2.2.2.2],(List.length [y10.2.2.2.1,y10.2.2.2.2]:Int),0,y10.2.1,y10.2.2.1,y10.2.2.2.1,y10.2.2.2.2)).bind λv21=>
    match v21 with
    | .inl y22=>
     some true
    | .inr s23=>
     some s23
   | .inr s11=>
    some s11
  | .inr s6=>
   some s6
def FQ (y:Amv):Option (Amv⊕((LL×LI)⊕Bool)):=match y with
 | (a,b,c,d,e,f,g)=>
 if decide (f < e)then
  cZ f <|
  Option.bind (a[b.toNat]?) λr9=>
  cK (decide (f < (((r9.drop (c.toNat)).take (d.toNat)).length:Int))) <|
  Option.bind (a[b.toNat]?) λr10=>
  Option.bind (r10[(c.toNat)+f.toNat]?) λr11=>
  if decide (¬ r11=0)then
   some (.inr (.inr false))
  else
   some (.inl (a,(b.toNat:Int),(((c.toNat):Nat):Int),(((d.toNat):Nat):Int),e,wI (f+1),g))
 else
  some (.inr (.inl (a,g)))
def KX (x0:LL) (x1:Int) (x2:Bool) (x3:Int):Option U17:=
 (J9 x0 x1 x2 x3).bind λc1=>
 if(!c1)then
  some (false,[],[])
 else
  (SE x0 x1 x2 x3).bind λ(a,_,_,_)=>
  cZ 1 <|
  cK (decide (1 < (a.length:Int))) <|
  Option.bind (a[0+Int.toNat 1]?) λr3=>
  Option.bind (a[0+Int.toNat 1]?) λr4=>
  sX 0 20 (r4.length:Int) (r4.length) <|
  Option.bind (a[0+Int.toNat 1]?) λr5=>
  cK (Aa (([]:LI).length+((r5.drop (Int.toNat 0)).take (Int.toNat 20 - Int.toNat 0)).length) 1) <|
  cZ 1 <|
  cK (decide (1 < (a.length:Int))) <|
  Option.bind (a[0+Int.toNat 1]?) λr6=>
  Option.bind (a[0+Int.toNat 1]?) λr7=>
  sX 20 (r7.length:Int) (r7.length:Int) (r7.length) <|
  Option.bind (a[0+Int.toNat 1]?) λr8=>
  (Ab FQ (a,((0+Int.toNat 1:Nat):Int),(((Int.toNat 20):Nat):Int),((((r7.length:Int).toNat - Int.toNat 20):Nat):Int),(((r8.drop (Int.toNat 20)).take ((r7.length:Int).toNat - Int.toNat 20)).length:Int),0,([]:LI)++((r5.drop (Int.toNat 0)).take (Int.toNat 20 - Int.toNat 0)))).bind λv12=>
  match v12 with
  | .inl y13=>
   (Ih y13.1 y13.2 [] []).bind λc15=>
   if(!c15)then
    some (false,[],[])
   else
    some (true,y13.1,y13.2)
  | .inr s14=>
   some (s14,[],[])
def UV (y:(Int×(LI×(Int×Int)))):Option ((Int×(LI×(Int×Int)))⊕(Unit⊕Bool)):=
 if decide (y.2.2.2 < y.2.2.1)then
  gX y.2.1 y.2.2.2 λr1=>
  if decide (r1=y.1)then
   some (.inr (.inr true))
  else
   some (.inl (y.1,y.2.1,y.2.2.1,wI (y.2.2.2+1)))
 else
  some (.inr (.inl ()))
def HN (x0:LI) (x1:Int):Option (Bool):=
 (Ab UV (x1,x0,(x0.length:Int),0)).bind λv2=>
 match v2 with
 | .inl y3=>
  some false
 | .inr s4=>
  some s4
def I0 (x0:LL) (x1 x2 x3:LI) (x4:Int):Option (Bool):=
 Option.bind (α:=Bool) (
  (BA x4 33 (wI ((x0.length:Int) - 1))).bind λc1=>
  if c1 then
   (Hy x1 x4).bind λc2=>
   if c2 then
    (HN x2 x4).bind λc3=>
    some (!c3)
   else
   some false
  else
  some false) λv4=>
 some v4
def Ei (y:AiP):Option (AiP⊕U91):=
 if decide (y.2.2.1 < 32)then
  gX y.2.2.2.1 y.1 λr9=>
  gX r9 (wI (1+(wI (2 * y.2.2.1)))) λr10=>
  gX y.2.2.2.1 y.1 λr11=>
  gX r11 (wI (2+(wI (2 * y.2.2.1)))) λr12=>
  cK (Aa (y.2.1.length+([wI ((wI ((IntKind.wrap .i64 r10) * 256))+(IntKind.wrap .i64 r12))]:LI).length) 8) <|
  some (.inl (y.1,y.2.1++([wI ((wI ((IntKind.wrap .i64 r10) * 256))+(IntKind.wrap .i64 r12))]:LI),wI (y.2.2.1+1),y.2.2.2.1,y.2.2.2.2.1,y.2.2.2.2.2.1,y.2.2.2.2.2.2))
 else
  some (.inr (y.1,y.2.1,y.2.2.2.1,y.2.2.2.2.1,y.2.2.2.2.2.1,y.2.2.2.2.2.2))
def Dt (y:U32):Option (U32⊕(LI⊕Bool)):=
 if decide (y.2.2.2 < y.2.2.1)then
  gX y.2.1 y.2.2.2 λr15=>
  if decide (¬ r15=0)then
   some (.inr (.inr false))
  else
   some (.inl (y.1,y.2.1,y.2.2.1,wI (y.2.2.2+1)))
 else
  some (.inr (.inl y.1))
def Ir (x0:LL) (x1 x2 x3:LI) (x4 x5:Int):Option ((LI×Bool)):=
 Option.bind (α:=U88) (
   (I0 x0 x1 x2 x3 x4).bind λc1=>
   if(!c1)then
    some (x4,true,x0,x1,x2,x3)
   else
   gX x0 x4 λr2=>
   gX r2 0 λr3=>
   some (x4,decide (¬ r3=x5),x0,x1,x2,x3)) λv4=>
 if v4.2.1 then
  some ([],false)
 else
  (Ab Ei (v4.1,[],0,v4.2.2.1,v4.2.2.2.1,v4.2.2.2.2.1,v4.2.2.2.2.2)).bind λv13=>
  gX v13.2.2.1 v13.1 λr14=>
  sX 65 (r14.length:Int) (r14.length:Int) (r14.length) <|
  (Ab Dt (v13.2.1,(List.drop (Int.toNat 65) r14).take ((r14.length:Int).toNat - Int.toNat 65),(((List.drop (Int.toNat 65) r14).take ((r14.length:Int).toNat - Int.toNat 65)).length:Int),0)).bind λv16=>
  match v16 with
  | .inl y17=>
   some (y17,true)
  | .inr s18=>
   some ([],s18)
def HZ (y:(LI×(Int×Int))):Option ((LI×(Int×Int))⊕(Unit⊕Bool)):=
 if decide (y.2.2 < y.2.1)then
  gX y.1 y.2.2 λr1=>
  if decide (¬ r1=0)then
   some (.inr (.inr true))
  else
   some (.inl (y.1,y.2.1,wI (y.2.2+1)))
 else
  some (.inr (.inl ()))
def Mr (x0:LI):Option (Bool):=
 (Ab HZ (x0,(x0.length:Int),0)).bind λv2=>
 match v2 with
 | .inl y3=>
  some false
 | .inr s4=>
  some s4
def NA (x0:LL) (x1 x2 x3:LI) (x4:Int):Option (Bool):=
 Option.bind (α:=Bool) (
  (BA x4 33 (wI ((x0.length:Int) - 1))).bind λc1=>
  if c1 then
   (Hy x1 x4).bind λc2=>
   some c2
  else
  some false) λv3=>
 some v3
def Ik (y:Ak4):Option (Ak4⊕(AnP⊕Bool)):=
 if decide (y.2.2.2.2.2.2.2.2.2.1 < y.2.2.2.2.2.2.2.2.1)then
  cZ y.2.2.2.2.2.2.2.2.2.1 <|
  cK (decide (y.2.2.2.2.2.2.2.2.2.1 < (((y.2.1.drop (y.2.2.2.2.2.2.1.toNat)).take (y.2.2.2.2.2.2.2.1.toNat)).length:Int))) <|
  Option.bind (y.2.1[(y.2.2.2.2.2.2.1.toNat)+y.2.2.2.2.2.2.2.2.2.1.toNat]?) λr5=>
  if decide (r5=y.2.2.2.1)then
   some (.inr (.inr false))
  else
   some (.inl (y.1,y.2.1,y.2.2.1,y.2.2.2.1,y.2.2.2.2.1,y.2.2.2.2.2.1,(((y.2.2.2.2.2.2.1.toNat):Nat):Int),(((y.2.2.2.2.2.2.2.1.toNat):Nat):Int),y.2.2.2.2.2.2.2.2.1,wI (y.2.2.2.2.2.2.2.2.2.1+1),y.2.2.2.2.2.2.2.2.2.2.1,y.2.2.2.2.2.2.2.2.2.2.2.1,y.2.2.2.2.2.2.2.2.2.2.2.2.1,y.2.2.2.2.2.2.2.2.2.2.2.2.2))
 else
  some (.inr (.inl (y.1,y.2.1,y.2.2.1,y.2.2.2.1,y.2.2.2.2.1,y.2.2.2.2.2.1,y.2.2.2.2.2.2.2.2.2.2.1,y.2.2.2.2.2.2.2.2.2.2.2.1,y.2.2.2.2.2.2.2.2.2.2.2.2.1,y.2.2.2.2.2.2.2.2.2.2.2.2.2)))
def Ig (y:Al8):Option (Al8⊕(AnR⊕Bool)):=
 if decide (y.2.2.2.2.2.2.2.1 < y.2.2.2.2.2.2.1)then
  cZ y.2.2.2.2.2.2.2.1 <|
  cK (decide (y.2.2.2.2.2.2.2.1 < (y.2.2.2.1.length:Int))) <|
  Option.bind (y.2.2.2.1[0+y.2.2.2.2.2.2.2.1.toNat]?) λr12=>
  Option.bind (α:=Aow) (
    if decide (¬ r12=0)then
     (NA y.2.2.2.2.2.2.2.2.1 y.2.2.2.2.2.2.2.2.2.1 y.2.2.2.2.2.2.2.2.2.2.1 y.2.2.2.2.2.2.2.2.2.2.2 r12).bind λc13=>
     some (y.1,y.2.1,y.2.2.1,y.2.2.2.1,y.2.2.2.2.1,y.2.2.2.2.2.1,y.2.2.2.2.2.2.1,y.2.2.2.2.2.2.2.1,(!c13),y.2.2.2.2.2.2.2.2.1,y.2.2.2.2.2.2.2.2.2.1,y.2.2.2.2.2.2.2.2.2.2.1,y.2.2.2.2.2.2.2.2.2.2.2)
    else
    some (y.1,y.2.1,y.2.2.1,y.2.2.2.1,y.2.2.2.2.1,y.2.2.2.2.2.1,y.2.2.2.2.2.2.1,y.2.2.2.2.2.2.2.1,false,y.2.2.2.2.2.2.2.2.1,y.2.2.2.2.2.2.2.2.2.1,y.2.2.2.2.2.2.2.2.2.2.1,y.2.2.2.2.2.2.2.2.2.2.2)) λv14=>
  if v14.2.2.2.2.2.2.2.2.1 then
   some (.inr (.inr false))
  else
   some (.inl (v14.1,v14.2.1,v14.2.2.1,v14.2.2.2.1,v14.2.2.2.2.1,v14.2.2.2.2.2.1,v14.2.2.2.2.2.2.1,wI (v14.2.2.2.2.2.2.2.1+1),v14.2.2.2.2.2.2.2.2.2.1,v14.2.2.2.2.2.2.2.2.2.2.1,v14.2.2.2.2.2.2.2.2.2.2.2.1,v14.2.2.2.2.2.2.2.2.2.2.2.2))
 else
  some (.inr (.inl (y.1,y.2.1,y.2.2.1,y.2.2.2.1,y.2.2.2.2.1,y.2.2.2.2.2.1,y.2.2.2.2.2.2.2.2.1,y.2.2.2.2.2.2.2.2.2.1,y.2.2.2.2.2.2.2.2.2.2.1,y.2.2.2.2.2.2.2.2.2.2.2)))
def GJ (y:Ah5):Option (Ah5⊕((LL×LI)⊕Bool)):=
 if decide (y.2.2.2.1 < y.2.2.1)then
  Option.bind (α:=Ah5⊕Bool) (
    cZ y.2.2.2.1 <|
    cK (decide (y.2.2.2.1 < (y.2.1.length:Int))) <|
    Option.bind (y.2.1[0+y.2.2.2.1.toNat]?) λr4=>
    if decide (r4=0)then
     some (.inl (y.1,y.2.1,y.2.2.1,y.2.2.2.1,y.2.2.2.2.1,y.2.2.2.2.2.1,y.2.2.2.2.2.2.1,y.2.2.2.2.2.2.2))
    else
    sX 0 y.2.2.2.1 (y.2.1.length:Int) (y.2.1.length) <|
    (Ab Ik (y.1,y.2.1,y.2.2.2.1,r4,y.2.2.1,y.2.2.2.1,(((Int.toNat 0):Nat):Int),(((y.2.2.2.1.toNat - Int.toNat 0):Nat):Int),(((y.2.1.drop (Int.toNat 0)).take (y.2.2.2.1.toNat - Int.toNat 0)).length:Int),0,y.2.2.2.2.1,y.2.2.2.2.2.1,y.2.2.2.2.2.2.1,y.2.2.2.2.2.2.2)).bind λv6=>
    match v6 with
    | .inl y7=>
     (Ir y7.2.2.2.2.2.2.1 y7.2.2.2.2.2.2.2.1 y7.2.2.2.2.2.2.2.2.1 y7.2.2.2.2.2.2.2.2.2 y7.2.2.2.1 81).bind λc9=>
     Option.bind (α:=AnJ) (
       if(!c9.2)then
        some (y7.1,y7.2.1,y7.2.2.1,c9.1,y7.2.2.2.2.1,y7.2.2.2.2.2.1,true,y7.2.2.2.2.2.2.1,y7.2.2.2.2.2.2.2.1,y7.2.2.2.2.2.2.2.2.1,y7.2.2.2.2.2.2.2.2.2)
       else
        (Mr c9.1).bind λc10=>
        some (y7.1,y7.2.1,y7.2.2.1,c9.1,y7.2.2.2.2.1,y7.2.2.2.2.2.1,(!c10),y7.2.2.2.2.2.2.1,y7.2.2.2.2.2.2.2.1,y7.2.2.2.2.2.2.2.2.1,y7.2.2.2.2.2.2.2.2.2)) λv11=>
     if v11.2.2.2.2.2.2.1 then
      some (.inr false)
     else
      (Ab Ig (v11.1,v11.2.1,v11.2.2.1,v11.2.2.2.1,v11.2.2.2.2.1,v11.2.2.2.2.2.1,(v11.2.2.2.1.length:Int),0,v11.2.2.2.2.2.2.2.1,v11.2.2.2.2.2.2.2.2.1,v11.2.2.2.2.2.2.2.2.2.1,v11.2.2.2.2.2.2.2.2.2.2)).bind λv15=>
      match v15 with
      | .inl y16=>
       cZ y16.2.2.1 <|
       cK (decide (y16.2.2.1 < (y16.1.length:Int))) <|
       Option.bind (y16.1[0+y16.2.2.1.toNat]?) λr18=>
       Option.bind (y16.1[0+y16.2.2.1.toNat]?) λr19=>
       some (.inl (y16.1.set (0+y16.2.2.1.toNat) y16.2.2.2.1,y16.2.1,y16.2.2.2.2.1,y16.2.2.2.2.2.1,y16.2.2.2.2.2.2.1,y16.2.2.2.2.2.2.2.1,y16.2.2.2.2.2.2.2.2.1,y16.2.2.2.2.2.2.2.2.2))
      | .inr s17=>
       some (.inr s17)
    | .inr s8=>
     some (.inr s8)) λv20=>
  match v20 with
  | .inl y21=>
   some (.inl (y21.1,y21.2.1,y21.2.2.1,wI (y21.2.2.2.1+1),y21.2.2.2.2.1,y21.2.2.2.2.2.1,y21.2.2.2.2.2.2.1,y21.2.2.2.2.2.2.2))
  | .inr s22=>
   some (.inr (.inr s22))
 else
  some (.inr (.inl (y.1,y.2.1)))
def IR (x0:LL) (x1 x2 x3:LI) (x4:Int):Option U19:=
 cZ 32 <|
 cK (decide ((32:Int)<=32)) <|
 cK (Aa (Int.toNat 32) 24) <|
 cZ 32 <|
 cK (decide ((32:Int)<=32)) <|
 cK (Aa (Int.toNat 32) 8) <|
 if decide (x4=0)then
  some (List.replicate (Int.toNat 32) ([]:LI),List.replicate (Int.toNat 32) (0:Int),true)
 else
  (Ir x0 x1 x2 x3 x4 80).bind λc1=>
  Option.bind (α:=Anw) (
    if(!c1.2)then
     some (List.replicate (Int.toNat 32) ([]:LI),c1.1,true,x0,x1,x2,x3)
    else
     (Mr c1.1).bind λc2=>
     some (List.replicate (Int.toNat 32) ([]:LI),c1.1,(!c2),x0,x1,x2,x3)) λv3=>
  if v3.2.2.1 then
   some ([],[],false)
  else
   (Ab GJ (v3.1,v3.2.1,(v3.2.1.length:Int),0,v3.2.2.2.1,v3.2.2.2.2.1,v3.2.2.2.2.2.1,v3.2.2.2.2.2.2)).bind λv23=>
   match v23 with
   | .inl y24=>
    some (y24.1,y24.2,true)
   | .inr s25=>
    some ([],[],s25)
def H7 (x0:LL) (x1 x2 x3:LI) (x4:Int):Option (Bool):=
 (Ih x0 x1 x2 x3).bind λc1=>
 if(!c1)then
  some false
 else
  (IR x0 x1 x2 x3 x4).bind λc2=>
  some c2.2.2
def Ix (y:Ai0):Option (Ai0⊕U43):=
 if decide (y.2.2.2.2.2.2.2 < y.2.2.2.2.2.2.1)then
  cZ y.2.2.2.2.2.2.2 <|
  Option.bind (y.2.2.1[y.2.2.2.2.2.1.toNat]?) λr16=>
  cK (decide (y.2.2.2.2.2.2.2 < (r16.length:Int))) <|
  Option.bind (y.2.2.1[y.2.2.2.2.2.1.toNat]?) λr17=>
  Option.bind (r17[0+y.2.2.2.2.2.2.2.toNat]?) λr18=>
  Option.bind (α:=Ai0) (
   if decide (¬ r18=0)then
    cK (Aa (y.1.length+([(wI ((wI (32 * y.2.1))+y.2.2.2.2.2.2.2),r18)]:List (Int×Int)).length) 16) <|
    some (y.1++([(wI ((wI (32 * y.2.1))+y.2.2.2.2.2.2.2),r18)]:List (Int×Int)),y.2.1,y.2.2.1,y.2.2.2.1,y.2.2.2.2.1,(y.2.2.2.2.2.1.toNat:Int),y.2.2.2.2.2.2.1,y.2.2.2.2.2.2.2)
   else
    some (y.1,y.2.1,y.2.2.1,y.2.2.2.1,y.2.2.2.2.1,(y.2.2.2.2.2.1.toNat:Int),y.2.2.2.2.2.2.1,y.2.2.2.2.2.2.2)) λv19=>
  some (.inl (v19.1,v19.2.1,v19.2.2.1,v19.2.2.2.1,v19.2.2.2.2.1,(v19.2.2.2.2.2.1.toNat:Int),v19.2.2.2.2.2.2.1,wI (v19.2.2.2.2.2.2.2+1)))
 else
  some (.inr (y.1,y.2.2.1,y.2.2.2.1,y.2.2.2.2.1))
def It (y:U43):Option (U43⊕(List (Int×Int))):=
 if decide (y.2.2.2 < y.2.2.1)then
  cZ y.2.2.2 <|
  cK (decide (y.2.2.2 < (y.2.1.length:Int))) <|
  Option.bind (y.2.1[0+y.2.2.2.toNat]?) λr14=>
  Option.bind (y.2.1[0+y.2.2.2.toNat]?) λr15=>
  (Ab Ix (y.1,y.2.2.2,y.2.1,y.2.2.1,y.2.2.2,((0+y.2.2.2.toNat:Nat):Int),(r15.length:Int),0)).bind λv20=>
  some (.inl (v20.1,v20.2.1,v20.2.2.1,wI (v20.2.2.2+1)))
 else
  some (.inr y.1)
def PH (x0:LL) (x1 x2 x3:LI) (x4:Int):Option ((List (Int×Int)×Bool)):=
 (H7 x0 x1 x2 x3 x4).bind λc1=>
 if(!c1)then
  some ([],false)
 else
  (IR x0 x1 x2 x3 x4).bind λc2=>
  (Ab It ([],c2.1,(c2.1.length:Int),0)).bind λv21=>
  some (v21,true)
def Qe (y:(LI×(Int×Int))):Option ((LI×(Int×Int))⊕(LI×(Int×Int))):=
 Option.bind (α:=(LI×(Int×(Int×Bool)))) (
   if decide (y.2.2 < (y.1.length:Int))then
    cZ y.2.2 <|
    cK (decide (y.2.2 < (y.1.length:Int))) <|
    Option.bind (y.1[0+y.2.2.toNat]?) λr1=>
    some (y.1,y.2.1,y.2.2,decide (r1 < y.2.1))
   else
   some (y.1,y.2.1,y.2.2,false)) λv2=>
 if v2.2.2.2 then
  some (.inl (v2.1,v2.2.1,wI (v2.2.2.1+1)))
 else
  some (.inr (v2.1,v2.2.1,v2.2.2.1))
def CY (x0:LI) (x1:Int):Option LI:=
 (Ab Qe (x0,x1,0)).bind λv3=>
 Option.bind (α:=(LI×(Int×(Int×Bool)))) (
   if decide (v3.2.2 < (v3.1.length:Int))then
    cZ v3.2.2 <|
    cK (decide (v3.2.2 < (v3.1.length:Int))) <|
    Option.bind (v3.1[0+v3.2.2.toNat]?) λr4=>
    some (v3.1,v3.2.1,v3.2.2,decide (r4=v3.2.1))
   else
   some (v3.1,v3.2.1,v3.2.2,false)) λv5=>
 if v5.2.2.2 then
  some v5.1
 else
 sX 0 v5.2.2.1 (v5.1.length:Int) (v5.1.length) <|
 cK (Aa (([]:LI).length+((v5.1.drop (Int.toNat 0)).take (v5.2.2.1.toNat - Int.toNat 0)).length) 8) <|
 cK (Aa ((([]:LI)++((v5.1.drop (Int.toNat 0)).take (v5.2.2.1.toNat - Int.toNat 0))).length+([v5.2.1]:LI).length) 8) <|
 sX v5.2.2.1 (v5.1.length:Int) (v5.1.length:Int) (v5.1.length) <|
 cK (Aa (((([]:LI)++((v5.1.drop (Int.toNat 0)).take (v5.2.2.1.toNat - Int.toNat 0)))++([v5.2.1]:LI)).length+((v5.1.drop (v5.2.2.1.toNat)).take ((v5.1.length:Int).toNat - v5.2.2.1.toNat)).length) 8) <|
 some (((([]:LI)++((v5.1.drop (Int.toNat 0)).take (v5.2.2.1.toNat - Int.toNat 0)))++([v5.2.1]:LI))++((v5.1.drop (v5.2.2.1.toNat)).take ((v5.1.length:Int).toNat - v5.2.2.1.toNat)))
def Hw (y:U32):Option (U32⊕LI):=
 if decide (y.2.2.2 < y.2.2.1)then
  cZ y.2.2.2 <|
  cK (decide (y.2.2.2 < (y.2.1.length:Int))) <|
  Option.bind (y.2.1[0+y.2.2.2.toNat]?) λr6=>
  Option.bind (α:=U32) (
   if decide (¬ r6=0)then
    (CY y.1 r6).bind λc7=>
    some (c7,y.2.1,y.2.2.1,y.2.2.2)
   else
    some (y.1,y.2.1,y.2.2.1,y.2.2.2)) λv8=>
  some (.inl (v8.1,v8.2.1,v8.2.2.1,wI (v8.2.2.2+1)))
 else
  some (.inr y.1)
def N8 (x0:LL) (x1 x2 x3:LI) (x4:Int):Option ((LI×Bool)):=
 (H7 x0 x1 x2 x3 x4).bind λc1=>
 if(!c1)then
  some ([],false)
 else
  (IR x0 x1 x2 x3 x4).bind λc2=>
  cK (Aa (c2.2.1.length+([x4]:LI).length) 8) <|
  (Ab Hw ([],c2.2.1++([x4]:LI),((c2.2.1++([x4]:LI)).length:Int),0)).bind λv9=>
  some (v9,true)
def Jp (y:U59):Option (U59⊕U34):=match y with
 | (a,b,c,d,e)=>
 cZ (IntKind.wrap .u64 d) <|
 if decide (wI ((wI (e+1)) * 2 ^ (min ((IntKind.wrap .u64 d).toNat) (IntKind.bits .i64)))<=b)then
  cZ (IntKind.wrap .u64 d) <|
  Option.bind (α:=U59) (
   if decide (a<=(wI (e * 2 ^ (min ((IntKind.wrap .u64 d).toNat) (IntKind.bits .i64)))))then
    cK (Aa (c.length+([(d,e)]:List (Int×Int)).length) 16) <|
    some (a,b,c++([(d,e)]:List (Int×Int)),d,e)
   else
    some (a,b,c,d,e)) λ(f,g,h,i,j)=>
  some (.inl (f,g,h,i,wI (j+1)))
 else
  some (.inr (a,b,c,d))
def L9 (y:U34):Option (U34⊕(List (Int×Int))):=match y with
 | (a,b,c,d)=>
 if decide (d<=5)then
  (Ab Jp (a,b,c,d,0)).bind λ(e,f,g,h)=>
  some (.inl (e,f,g,wI (h+1)))
 else
  some (.inr c)
def KH (x0 x1:Int):Option (List (Int×Int)):=
 (Ab L9 (x0,x1,[],0)).bind λv6=>
 some v6
def FW (x0 x1:Int):Option (Int):=
 Option.bind (α:=(Bool×(Int×Int))) (
   (BA x0 0 5).bind λc1=>
   if(!c1)then
    some (true,x0,x1)
   else
    (BA x1 0 63).bind λc2=>
    some ((!c2),x0,x1)) λ(a,b,c)=>
 if a then
  some (-1)
 else
  some (wI ((wI (64 * b))+c))
def FR (y:Amy):Option (Amy⊕(Int×(Int×(Int×LI)))):=match y with
 | (a,b,c,d,e,f,g)=>
 if decide (g < f)then
  cZ g <|
  cK (decide (g < (e.length:Int))) <|
  Option.bind (e[0+g.toNat]?) λr6=>
  Option.bind (e[0+g.toNat]?) λr7=>
  (FW r6.1 r7.2).bind λc8=>
  (CY d c8).bind λc9=>
  some (.inl (a,b,c,c9,e,f,wI (g+1)))
 else
  some (.inr (a,b,c,d))
def Fp (y:(Int×(Int×(LI×Int)))):Option ((Int×(Int×(LI×Int)))⊕LI):=match y with
 | (a,b,c,d)=>
 if decide (d<=a)then
  cK (decide (¬ b=0)) <|
  Option.bind (α:=(Int×(Int×(LI×Int)))) (
   if decide (Int.tmod d b=0)then
    (CY c (wI (384+d))).bind λc11=>
    some (a,b,c11,d)
   else
    some (a,b,c,d)) λ(e,f,g,h)=>
  some (.inl (e,f,g,wI (h+1)))
 else
  some (.inr c)
def KY (x0 x1 x2:Int):Option LI:=
 (KH x0 x1).bind λc1=>
 (Ab FR (x0,x1,x2,[],c1,(c1.length:Int),0)).bind λ(a,b,c,d)=>
 (Ab Fp (b,c,d,wI (a+1))).bind λv13=>
 (CY v13 448).bind λc14=>
 some c14
def Tq (y:(LI×(Int×Int))):Option ((LI×(Int×Int))⊕(Unit⊕Bool)):=
 if decide (y.2.2 < y.2.1)then
  gX y.1 y.2.2 λr1=>
  if decide (¬ r1=0)then
   some (.inr (.inr false))
  else
   some (.inl (y.1,y.2.1,wI (y.2.2+1)))
 else
  some (.inr (.inl ()))
def En (x0:LI) (x1:Int):Option (Bool):=
 sX x1 (x0.length:Int) (x0.length:Int) (x0.length) <|
 (Ab Tq ((List.drop (x1.toNat) x0).take ((x0.length:Int).toNat - x1.toNat),(((List.drop (x1.toNat) x0).take ((x0.length:Int).toNat - x1.toNat)).length:Int),0)).bind λv2=>
 match v2 with
 | .inl y3=>
  some true
 | .inr s4=>
  some s4
def EB (y:Amf):Option (Amf⊕((LI×(Int×LI))⊕Bool)):=
 if decide (y.2.2.2.1 < y.2.1)then
  gX y.1 (wI (2+(wI (2 * y.2.2.2.1)))) λr24=>
  gX y.1 (wI (3+(wI (2 * y.2.2.2.1)))) λr25=>
  Option.bind (α:=Aie) (
    (I0 y.2.2.2.2.1 y.2.2.2.2.2.1 y.2.2.2.2.2.2.1 y.2.2.2.2.2.2.2 (wI ((wI ((IntKind.wrap .i64 r24) * 256))+(IntKind.wrap .i64 r25)))).bind λc26=>
    if(!c26)then
     some (y.1,y.2.1,y.2.2.1,y.2.2.2.1,wI ((wI ((IntKind.wrap .i64 r24) * 256))+(IntKind.wrap .i64 r25)),true,y.2.2.2.2.1,y.2.2.2.2.2.1,y.2.2.2.2.2.2.1,y.2.2.2.2.2.2.2)
    else
     (HN y.2.2.1 (wI ((wI ((IntKind.wrap .i64 r24) * 256))+(IntKind.wrap .i64 r25)))).bind λc27=>
     some (y.1,y.2.1,y.2.2.1,y.2.2.2.1,wI ((wI ((IntKind.wrap .i64 r24) * 256))+(IntKind.wrap .i64 r25)),c27,y.2.2.2.2.1,y.2.2.2.2.2.1,y.2.2.2.2.2.2.1,y.2.2.2.2.2.2.2)) λv28=>
  if v28.2.2.2.2.2.1 then
   some (.inr (.inr false))
  else
  gX v28.2.2.2.2.2.2.1 v28.2.2.2.2.1 λr29=>
  gX r29 2 λr30=>
  Option.bind (α:=Aie) (
    gX r29 0 λr31=>
    if decide (¬ r31=83)then
     some (v28.1,v28.2.1,v28.2.2.1,v28.2.2.2.1,v28.2.2.2.2.1,true,v28.2.2.2.2.2.2.1,v28.2.2.2.2.2.2.2.1,v28.2.2.2.2.2.2.2.2.1,v28.2.2.2.2.2.2.2.2.2)
    else
    gX r29 1 λr32=>
    (BA (IntKind.wrap .i64 r32) 1 250).bind λc33=>
    if(!c33)then
     some (v28.1,v28.2.1,v28.2.2.1,v28.2.2.2.1,v28.2.2.2.2.1,true,v28.2.2.2.2.2.2.1,v28.2.2.2.2.2.2.2.1,v28.2.2.2.2.2.2.2.2.1,v28.2.2.2.2.2.2.2.2.2)
    else
     (BA (IntKind.wrap .i64 r30) 1 40).bind λc34=>
     if(!c34)then
      some (v28.1,v28.2.1,v28.2.2.1,v28.2.2.2.1,v28.2.2.2.2.1,true,v28.2.2.2.2.2.2.1,v28.2.2.2.2.2.2.2.1,v28.2.2.2.2.2.2.2.2.1,v28.2.2.2.2.2.2.2.2.2)
     else
     if decide (v28.2.2.2.1 < (wI (v28.2.1 - 1)))then
      if decide (¬ IntKind.wrap .i64 r30=40)then
       some (v28.1,v28.2.1,v28.2.2.1,v28.2.2.2.1,v28.2.2.2.2.1,true,v28.2.2.2.2.2.2.1,v28.2.2.2.2.2.2.2.1,v28.2.2.2.2.2.2.2.2.1,v28.2.2.2.2.2.2.2.2.2)
      else
       (En r29 (wI (3+(IntKind.wrap .i64 r30)))).bind λc35=>
       some (v28.1,v28.2.1,v28.2.2.1,v28.2.2.2.1,v28.2.2.2.2.1,(!c35),v28.2.2.2.2.2.2.1,v28.2.2.2.2.2.2.2.1,v28.2.2.2.2.2.2.2.2.1,v28.2.2.2.2.2.2.2.2.2)
     else
     (En r29 (wI (3+(IntKind.wrap .i64 r30)))).bind λc37=>
     some (v28.1,v28.2.1,v28.2.2.1,v28.2.2.2.1,v28.2.2.2.2.1,(!c37),v28.2.2.2.2.2.2.1,v28.2.2.2.2.2.2.2.1,v28.2.2.2.2.2.2.2.2.1,v28.2.2.2.2.2.2.2.2.2)) λv38=>
  if v38.2.2.2.2.2.1 then
   some (.inr (.inr false))
  else
  cK (Aa (v38.2.2.1.length+([v38.2.2.2.2.1]:LI).length) 8) <|
  some (.inl (v38.1,v38.2.1,v38.2.2.1++([v38.2.2.2.2.1]:LI),wI (v38.2.2.2.1+1),v38.2.2.2.2.2.2.1,v38.2.2.2.2.2.2.2.1,v38.2.2.2.2.2.2.2.2.1,v38.2.2.2.2.2.2.2.2.2))
 else
  some (.inr (.inl (y.1,y.2.1,y.2.2.1)))
def Jz (x0:LL) (x1 x2 x3:LI) (x4:Int):Option ((LI×Bool)):=
 Option.bind (α:=U88) (
   (I0 x0 x1 x2 x3 x4).bind λc1=>
   if(!c1)then
    some (x4,true,x0,x1,x2,x3)
   else
   gX x0 x4 λr2=>
   gX r2 0 λr3=>
   if decide (¬ r3=84)then
    some (x4,true,x0,x1,x2,x3)
   else
   gX x0 x4 λr4=>
   gX r4 1 λr5=>
   some (x4,decide (3 < r5),x0,x1,x2,x3)) λv6=>
 if v6.2.1 then
  some ([],false)
 else
 gX v6.2.2.1 v6.1 λr7=>
 gX r7 1 λr8=>
 (Ab EB (r7,IntKind.wrap .i64 r8,[],0,v6.2.2.1,v6.2.2.2.1,v6.2.2.2.2.1,v6.2.2.2.2.2)).bind λv39=>
 match v39 with
 | .inl y40=>
  (En y40.1 (wI (2+(wI (2 * y40.2.1))))).bind λc42=>
  some (y40.2.2,c42)
 | .inr s41=>
  some ([],s41)
def Lk (x0:LL) (x1 x2 x3:LI) (x4:Int):Option LB:=
 gX x0 x4 λr1=>
 gX x0 x4 λr2=>
 gX r2 2 λr3=>
 sX 3 (wI (3+(IntKind.wrap .i64 r3))) (r1.length:Int) (r1.length) <|
 some (AL ((List.drop (Int.toNat 3) r1).take ((wI (3+(IntKind.wrap .i64 r3))).toNat - Int.toNat 3)))
def Iq (y:AlX):Option (AlX⊕(Int×(LI×LB))):=
 if decide (y.2.2.2.2.1 < y.2.2.2.1)then
  cZ y.2.2.2.2.1 <|
  cK (decide (y.2.2.2.2.1 < (y.2.1.length:Int))) <|
  Option.bind (y.2.1[0+y.2.2.2.2.1.toNat]?) λr2=>
  (Lk y.2.2.2.2.2.1 y.2.2.2.2.2.2.1 y.2.2.2.2.2.2.2.1 y.2.2.2.2.2.2.2.2 r2).bind λc3=>
  cK (decide ((y.2.2.1.length+c3.length:Nat)<=9223372036854775807)) <|
  some (.inl (y.1,y.2.1,(y.2.2.1:LB)++c3,y.2.2.2.1,wI (y.2.2.2.2.1+1),y.2.2.2.2.2.1,y.2.2.2.2.2.2.1,y.2.2.2.2.2.2.2.1,y.2.2.2.2.2.2.2.2))
 else
  some (.inr (y.1,y.2.1,y.2.2.1))
def Qk (x0:LL) (x1 x2 x3:LI) (x4:Int):Option U15:=
 (Jz x0 x1 x2 x3 x4).bind λc1=>
 if(!c1.2)then
  some (([]:LB),[],false)
 else
  (Ab Iq (x4,c1.1,([]:LB),(c1.1.length:Int),0,x0,x1,x2,x3)).bind λv4=>
  cK (Aa (v4.2.1.length+([v4.1]:LI).length) 8) <|
  some (v4.2.2,v4.2.1++([v4.1]:LI),true)
def ED (y:U35):Option (U35⊕(Unit⊕Int)):=match y with
 | (a,b,c,d)=>
 if decide (d < c)then
  gX b d λr1=>
  if decide (r1.1=a)then
   some (.inr (.inr r1.2))
  else
   some (.inl (a,b,c,wI (d+1)))
 else
  some (.inr (.inl ()))
def D7 (x0 x1 x2 x3 x4:Int) (x5:LL) (x6 x7 x8:LI) (x9:List (Int×Int)) (x10:Int) (x11:LB) (x12:List (Int×Int)) (x13:List (List (Int×(Int×LB)))) (x14:LI) (x15:Int):Option (Int):=
 (Ab ED (x15,x9,(x9.length:Int),0)).bind λv2=>
 match v2 with
 | .inl y3=>
  some 0
 | .inr s4=>
  some s4
def IF (y:Al4):Option (Al4⊕((LI×LI)⊕Bool)):=match y with
 | (a,b,c,d,e,f,g)=>
 if decide (¬ a=0)then
  Option.bind (α:=AnO) (
    (I0 d e f g a).bind λc19=>
    if(!c19)then
     some (a,b,c,true,d,e,f,g)
    else
     (HN c a).bind λc20=>
     if c20 then
      some (a,b,c,true,d,e,f,g)
     else
     some (a,b,c,decide ((c.length:Int)=9),d,e,f,g)) λ(h,i,j,k,l,m,n,o)=>
  if k then
   some (.inr (.inr false))
  else
  gX l h λr22=>
  gX r22 1 λr23=>
  gX r22 2 λr24=>
  gX r22 3 λr25=>
  Option.bind (α:=AnE) (
    gX r22 0 λr26=>
    if decide (¬ r26=82)then
     some (h,i,j,r22,wI ((wI ((IntKind.wrap .i64 r23) * 256))+(IntKind.wrap .i64 r24)),IntKind.wrap .i64 r25,true,l,m,n,o)
    else
    if decide (124 < (IntKind.wrap .i64 r25))then
     some (h,i,j,r22,wI ((wI ((IntKind.wrap .i64 r23) * 256))+(IntKind.wrap .i64 r24)),IntKind.wrap .i64 r25,true,l,m,n,o)
    else
    if decide (¬ wI ((wI ((IntKind.wrap .i64 r23) * 256))+(IntKind.wrap .i64 r24))=0)then
     if decide (¬ IntKind.wrap .i64 r25=124)then
      some (h,i,j,r22,wI ((wI ((IntKind.wrap .i64 r23) * 256))+(IntKind.wrap .i64 r24)),IntKind.wrap .i64 r25,true,l,m,n,o)
     else
     if decide (IntKind.wrap .i64 r25=0)then
      if decide (0 < (j.length:Int))then
       some (h,i,j,r22,wI ((wI ((IntKind.wrap .i64 r23) * 256))+(IntKind.wrap .i64 r24)),IntKind.wrap .i64 r25,true,l,m,n,o)
      else
       (En r22 (wI (4+(IntKind.wrap .i64 r25)))).bind λc27=>
       some (h,i,j,r22,wI ((wI ((IntKind.wrap .i64 r23) * 256))+(IntKind.wrap .i64 r24)),IntKind.wrap .i64 r25,(!c27),l,m,n,o)
     else
     (En r22 (wI (4+(IntKind.wrap .i64 r25)))).bind λc29=>
     some (h,i,j,r22,wI ((wI ((IntKind.wrap .i64 r23) * 256))+(IntKind.wrap .i64 r24)),IntKind.wrap .i64 r25,(!c29),l,m,n,o)
    else
    if decide (IntKind.wrap .i64 r25=0)then
     if decide (0 < (j.length:Int))then
      some (h,i,j,r22,wI ((wI ((IntKind.wrap .i64 r23) * 256))+(IntKind.wrap .i64 r24)),IntKind.wrap .i64 r25,true,l,m,n,o)
     else
      (En r22 (wI (4+(IntKind.wrap .i64 r25)))).bind λc33=>
      some (h,i,j,r22,wI ((wI ((IntKind.wrap .i64 r23) * 256))+(IntKind.wrap .i64 r24)),IntKind.wrap .i64 r25,(!c33),l,m,n,o)
    else
    (En r22 (wI (4+(IntKind.wrap .i64 r25)))).bind λc35=>
    some (h,i,j,r22,wI ((wI ((IntKind.wrap .i64 r23) * 256))+(IntKind.wrap .i64 r24)),IntKind.wrap .i64 r25,(!c35),l,m,n,o)) λ(p,q,r,s,t,u,v,w,x,z,a0)=>
  if v then
   some (.inr (.inr false))
  else
  sX 4 (wI (4+u)) (s.length:Int) (s.length) <|
  cK (Aa (q.length+((List.drop (Int.toNat 4) s).take ((wI (4+u)).toNat - Int.toNat 4)).length) 1) <|
  cK (Aa (r.length+([p]:LI).length) 8) <|
  some (.inl (t,q++((List.drop (Int.toNat 4) s).take ((wI (4+u)).toNat - Int.toNat 4)),r++([p]:LI),w,x,z,a0))
 else
  some (.inr (.inl (b,c)))
def Mc (x0:LL) (x1 x2 x3:LI) (x4:Int):Option ((LI×(LI×Bool))):=
 (Ab IF (x4,[],[],x0,x1,x2,x3)).bind λv37=>
 match v37 with
 | .inl y38=>
  some (y38.1,y38.2,decide (0 < (y38.2.length:Int)))
 | .inr s39=>
  some ([],[],s39)
def D8 (y:U35):Option (U35⊕(Int⊕Int)):=
 if decide (y.2.2.2 < y.2.2.1)then
  gX y.2.1 y.2.2.2 λr1=>
  (BA r1.2 1 (wI (120 - y.1))).bind λc2=>
  if(!c2)then
   some (.inr (.inr (-1)))
  else
   some (.inl (wI (y.1+r1.2),y.2.1,y.2.2.1,wI (y.2.2.2+1)))
 else
  some (.inr (.inl y.1))
def VS (x0:List (Int×Int)):Option (Int):=
 (Ab D8 (0,x0,(x0.length:Int),0)).bind λv3=>
 match v3 with
 | .inl y4=>
  some y4
 | .inr s5=>
  some s5
def QG (y:AeE):Option (AeE⊕((Int×Int)⊕Bool)):=
 if decide (y.2.2.2.2.2.2 < y.2.2.2.2.2.1)then
  gX y.2.2.2.2.1 y.2.2.2.2.2.2 λr4=>
  Option.bind (α:=AlT) (
    (BA r4.1 0 y.2.2.1).bind λc5=>
    if(!c5)then
     some (y.1,y.2.1,y.2.2.1,y.2.2.2.1,y.2.2.2.2.1,y.2.2.2.2.2.1,y.2.2.2.2.2.2,true,r4.1,r4.2)
    else
     (BA r4.2 1 (wI (y.2.1 - y.2.2.2.1))).bind λc6=>
     if(!c6)then
      some (y.1,y.2.1,y.2.2.1,y.2.2.2.1,y.2.2.2.2.1,y.2.2.2.2.2.1,y.2.2.2.2.2.2,true,r4.1,r4.2)
     else
     if decide (0 < y.2.2.2.2.2.2)then
      gX y.1 (wI (y.2.2.2.2.2.2 - 1)) λr7=>
      some (y.1,y.2.1,y.2.2.1,y.2.2.2.1,y.2.2.2.2.1,y.2.2.2.2.2.1,y.2.2.2.2.2.2,decide (r7.1=r4.1),r4.1,r4.2)
     else
     some (y.1,y.2.1,y.2.2.1,y.2.2.2.1,y.2.2.2.2.1,y.2.2.2.2.2.1,y.2.2.2.2.2.2,false,r4.1,r4.2)) λv8=>
  if v8.2.2.2.2.2.2.2.1 then
   some (.inr (.inr false))
  else
   some (.inl (v8.1,v8.2.1,v8.2.2.1,wI (v8.2.2.2.1+v8.2.2.2.2.2.2.2.2.2),v8.2.2.2.2.1,v8.2.2.2.2.2.1,wI (v8.2.2.2.2.2.2.1+1)))
 else
  some (.inr (.inl (y.2.1,y.2.2.2.1)))
def J2 (x0:List (Int×Int)) (x1 x2:Int):Option (Bool):=
 Option.bind (α:=U36) (
   (BA x1 0 120).bind λc1=>
   if(!c1)then
    some (x0,x1,x2,true)
   else
    (BA x2 0 60).bind λc2=>
    some (x0,x1,x2,(!c2))) λv3=>
 if v3.2.2.2 then
  some false
 else
  (Ab QG (v3.1,v3.2.1,v3.2.2.1,0,v3.1,(v3.1.length:Int),0)).bind λv9=>
  match v9 with
  | .inl y10=>
   some (decide (y10.2=y10.1))
  | .inr s11=>
   some s11
def PF (x0:List (Int×Int)):Option (Bool):=
 (VS x0).bind λc1=>
 Option.bind (α:=Bool) (
  if decide (0<=c1)then
   (J2 x0 c1 60).bind λc2=>
   some c2
  else
  some false) λv3=>
 some v3
def Gy (y:U16):Option (U16⊕(List (Int×Int))):=
 if decide (y.2.2 < (y.1.length:Int))then
  gX y.1 y.2.2 λr4=>
  gX y.1 (wI (y.2.2+1)) λr5=>
  cK (Aa (y.2.1.length+([(IntKind.wrap .i64 r4,IntKind.wrap .i64 r5)]:List (Int×Int)).length) 16) <|
  some (.inl (y.1,y.2.1++([(IntKind.wrap .i64 r4,IntKind.wrap .i64 r5)]:List (Int×Int)),wI (y.2.2+2)))
 else
  some (.inr y.2.1)
def LV (x0:LI):Option ((List (Int×Int)×Bool)):=
 Option.bind (α:=(LI×Bool)) (
   cK (decide (¬ (2:Int)=0)) <|
   if decide (Int.tmod (x0.length:Int) 2=1)then
    some (x0,true)
   else
   some (x0,decide (240 < (x0.length:Int)))) λv1=>
 if v1.2 then
  some ([],false)
 else
  (Ab Gy (v1.1,[],0)).bind λv6=>
  (PF v6).bind λc7=>
  if(!c7)then
   some ([],false)
  else
   some (v6,true)
def Hn (x0 x1:Int) (x2:LB):Option (Int):=
 Option.bind (α:=U30) (
   if decide (0 < x0)then
    if decide (x1=0)then
     some (((x2:LB) == ([]:LB)),x0,x1,x2)
    else
    some (false,x0,x1,x2)
   else
   some (false,x0,x1,x2)) λv1=>
 if v1.1 then
  some 1
 else
  Option.bind (α:=U30) (
    if decide (v1.2.1=0)then
     if decide (0 < v1.2.2.1)then
      some (((v1.2.2.2:LB) == ([]:LB)),v1.2.1,v1.2.2.1,v1.2.2.2)
     else
     some (false,v1.2.1,v1.2.2.1,v1.2.2.2)
    else
    some (false,v1.2.1,v1.2.2.1,v1.2.2.2)) λv2=>
  if v2.1 then
   some 2
  else
   Option.bind (α:=Bool) (
     if decide (v2.2.1=0)then
      if decide (v2.2.2.1=0)then
       some (!((v2.2.2.2:LB) == ([]:LB)))
      else
      some false
     else
     some false) λv3=>
   if v3 then
    some 3
   else
    some 0
def NS (y:Al6):Option (Al6⊕(Unit⊕Bool)):=
 if decide (y.2.2.2.2.2 < y.2.2.2.2.1)then
  gX y.2.2.2.1 y.2.2.2.2.2 λr1=>
  (Hn r1.1 r1.2.1 r1.2.2).bind λc2=>
  Option.bind (α:=AnB) (
    if decide (c2=0)then
     some (y.1,y.2.1,y.2.2.1,y.2.2.2.1,y.2.2.2.2.1,y.2.2.2.2.2,true,r1.1,r1.2.1,r1.2.2)
    else
    if decide (0 < y.2.2.2.2.2)then
     gX y.1 (wI (y.2.2.2.2.2 - 1)) λr3=>
     (Hn r3.1 r3.2.1 r3.2.2).bind λc4=>
     if decide (c4=c2)then
      some (y.1,y.2.1,y.2.2.1,y.2.2.2.1,y.2.2.2.2.1,y.2.2.2.2.2,true,r1.1,r1.2.1,r1.2.2)
     else
     if decide (120 < r1.1)then
      some (y.1,y.2.1,y.2.2.1,y.2.2.2.1,y.2.2.2.2.1,y.2.2.2.2.2,true,r1.1,r1.2.1,r1.2.2)
     else
     if decide (120 < r1.2.1)then
      some (y.1,y.2.1,y.2.2.1,y.2.2.2.1,y.2.2.2.2.1,y.2.2.2.2.2,true,r1.1,r1.2.1,r1.2.2)
     else
     some (y.1,y.2.1,y.2.2.1,y.2.2.2.1,y.2.2.2.2.1,y.2.2.2.2.2,decide (120 < (r1.2.2.length:Int)),r1.1,r1.2.1,r1.2.2)
    else
    if decide (120 < r1.1)then
     some (y.1,y.2.1,y.2.2.1,y.2.2.2.1,y.2.2.2.2.1,y.2.2.2.2.2,true,r1.1,r1.2.1,r1.2.2)
    else
    if decide (120 < r1.2.1)then
     some (y.1,y.2.1,y.2.2.1,y.2.2.2.1,y.2.2.2.2.1,y.2.2.2.2.2,true,r1.1,r1.2.1,r1.2.2)
    else
    some (y.1,y.2.1,y.2.2.1,y.2.2.2.1,y.2.2.2.2.1,y.2.2.2.2.2,decide (120 < (r1.2.2.length:Int)),r1.1,r1.2.1,r1.2.2)) λv5=>
  if v5.2.2.2.2.2.2.1 then
   some (.inr (.inr false))
  else
   Option.bind (α:=AnD) (
     if decide (120 < (wI (v5.2.1+(wI (v5.2.2.2.2.2.2.2.1+v5.2.2.2.2.2.2.2.2.1)))))then
      some (v5.1,wI (v5.2.1+(wI (v5.2.2.2.2.2.2.2.1+v5.2.2.2.2.2.2.2.2.1))),wI (v5.2.2.1+(wI (v5.2.2.2.2.2.2.2.1+(v5.2.2.2.2.2.2.2.2.2.length:Int)))),v5.2.2.2.1,v5.2.2.2.2.1,v5.2.2.2.2.2.1,true)
     else
     some (v5.1,wI (v5.2.1+(wI (v5.2.2.2.2.2.2.2.1+v5.2.2.2.2.2.2.2.2.1))),wI (v5.2.2.1+(wI (v5.2.2.2.2.2.2.2.1+(v5.2.2.2.2.2.2.2.2.2.length:Int)))),v5.2.2.2.1,v5.2.2.2.2.1,v5.2.2.2.2.2.1,decide (120 < (wI (v5.2.2.1+(wI (v5.2.2.2.2.2.2.2.1+(v5.2.2.2.2.2.2.2.2.2.length:Int)))))))) λv6=>
   if v6.2.2.2.2.2.2 then
    some (.inr (.inr false))
   else
    some (.inl (v6.1,v6.2.1,v6.2.2.1,v6.2.2.2.1,v6.2.2.2.2.1,wI (v6.2.2.2.2.2.1+1)))
 else
  some (.inr (.inl ()))
def FI (x0:List (Int×(Int×LB))):Option (Bool):=
 (Ab NS (x0,0,0,x0,(x0.length:Int),0)).bind λv7=>
 match v7 with
 | .inl y8=>
  some true
 | .inr s9=>
  some s9
def Bv (y:U21):Option (U21⊕(List (Int×(Int×LB))⊕Bool)):=
 if decide (y.2.2 < (y.1.length:Int))then
  if decide ((y.1.length:Int)<=(wI (y.2.2+1)))then
   some (.inr (.inr false))
  else
  gX y.1 (wI (y.2.2+1)) λr9=>
  gX y.1 y.2.2 λr10=>
  Option.bind (α:=U21⊕Bool) (
    if decide (r10=1)then
     cK (Aa (y.2.1.length+([(IntKind.wrap .i64 r9,(0,[]))]:List (Int×(Int×LB))).length) 32) <|
     some (.inl (y.1,y.2.1++([(IntKind.wrap .i64 r9,(0,[]))]:List (Int×(Int×LB))),y.2.2))
    else
     Option.bind (α:=U21⊕Bool) (
       if decide (r10=2)then
        cK (Aa (y.2.1.length+([(0,(IntKind.wrap .i64 r9,[]))]:List (Int×(Int×LB))).length) 32) <|
        some (.inl (y.1,y.2.1++([(0,(IntKind.wrap .i64 r9,[]))]:List (Int×(Int×LB))),y.2.2))
       else
       if decide (r10=3)then
        if decide (wI ((wI ((y.1.length:Int) - y.2.2)) - 2) < (IntKind.wrap .i64 r9))then
         some (.inr false)
        else
        sX (wI (y.2.2+2)) (wI ((wI (y.2.2+2))+(IntKind.wrap .i64 r9))) (y.1.length:Int) (y.1.length) <|
        cK (Aa (y.2.1.length+([(0,(0,AL ((List.drop ((wI (y.2.2+2)).toNat) y.1).take ((wI ((wI (y.2.2+2))+(IntKind.wrap .i64 r9))).toNat - (wI (y.2.2+2)).toNat))))]:List (Int×(Int×LB))).length) 32) <|
        some (.inl (y.1,y.2.1++([(0,(0,AL ((List.drop ((wI (y.2.2+2)).toNat) y.1).take ((wI ((wI (y.2.2+2))+(IntKind.wrap .i64 r9))).toNat - (wI (y.2.2+2)).toNat))))]:List (Int×(Int×LB))),wI (y.2.2+(IntKind.wrap .i64 r9))))
       else
        some (.inr false)) λv11=>
     match v11 with
     | .inl y12=>
      some (.inl (y12.1,y12.2.1,y12.2.2))
     | .inr s13=>
      some (.inr s13)) λv14=>
  match v14 with
  | .inl y15=>
   if decide (500 < (y15.2.1.length:Int))then
    some (.inr (.inr false))
   else
    some (.inl (y15.1,y15.2.1,wI (y15.2.2+2)))
  | .inr s16=>
   some (.inr (.inr s16))
 else
  some (.inr (.inl y.2.1))
def Jv (x0:LI):Option U4:=
 (Ab Bv (x0,[],0)).bind λv17=>
 match v17 with
 | .inl y18=>
  (FI y18).bind λc20=>
  if(!c20)then
   some ([],false)
  else
   some (y18,true)
 | .inr s19=>
  some ([],s19)
def GB (y:U45):Option (U45⊕Int):=
 if decide (y.2.2.2 < y.2.2.1)then
  gX y.2.1 y.2.2.2 λr1=>
  some (.inl (wI (y.1+(wI (r1.1+r1.2.1))),y.2.1,y.2.2.1,wI (y.2.2.2+1)))
 else
  some (.inr y.1)
def Jy (x0:List (Int×(Int×LB))):Option (Int):=
 (Ab GB (0,x0,(x0.length:Int),0)).bind λv2=>
 some v2
def GD (y:U45):Option (U45⊕Int):=
 if decide (y.2.2.2 < y.2.2.1)then
  gX y.2.1 y.2.2.2 λr1=>
  some (.inl (wI (y.1+(wI (r1.1+(r1.2.2.length:Int)))),y.2.1,y.2.2.1,wI (y.2.2.2+1)))
 else
  some (.inr y.1)
def LJ (x0:List (Int×(Int×LB))):Option (Int):=
 (Ab GD (0,x0,(x0.length:Int),0)).bind λv2=>
 some v2
def Mx (y:U49):Option (U49⊕(Unit⊕Bool)):=
 if decide (y.2.2.2 < y.2.2.1)then
  gX y.2.1 y.2.2.2 λr4=>
  Option.bind (α:=U82) (
    (FI r4).bind λc5=>
    if(!c5)then
     some (y.2.1,y.2.2.1,y.2.2.2,true,r4)
    else
     (Jy r4).bind λc6=>
     some (y.2.1,y.2.2.1,y.2.2.2,decide (¬ c6=y.1),r4)) λv7=>
  if v7.2.2.2.1 then
   some (.inr (.inr false))
  else
   (LJ v7.2.2.2.2).bind λc8=>
   some (.inl (c8,v7.1,v7.2.1,wI (v7.2.2.1+1)))
 else
  some (.inr (.inl ()))
def ID (x0:Int) (x1:LB) (x2:List (Int×Int)) (x3:List (List (Int×(Int×LB)))):Option (Bool):=
 Option.bind (α:=U79) (
   (BA x0 0 60).bind λc1=>
   if(!c1)then
    some (true,x0,x1,x2,x3)
   else
   if decide (120 < (x1.length:Int))then
    some (true,x0,x1,x2,x3)
   else
    (J2 x2 (x1.length:Int) x0).bind λc2=>
    if(!c2)then
     some (true,x0,x1,x2,x3)
    else
    some (decide (wI (60 - x0) < (x3.length:Int)),x0,x1,x2,x3)) λv3=>
 if v3.1 then
  some false
 else
  (Ab Mx ((v3.2.2.1.length:Int),v3.2.2.2.2,(v3.2.2.2.2.length:Int),0)).bind λv9=>
  match v9 with
  | .inl y10=>
   some true
  | .inr s11=>
   some s11
def R8 (x0:Int) (x1:LB) (x2:List (Int×Int)) (x3:List (List (Int×(Int×LB)))):Option (Int):=
 some (wI (x0+(x3.length:Int)))
def Ip (y:Amz):Option (Amz⊕U78):=
 if decide (y.1 < (wI (y.2.2.2.2.2.2.1+y.2.2.2.2.2.2.2.1)))then
  cK (Aa (y.2.2.2.2.1.length+([decide (0 < y.2.2.2.2.2.2.1)]:List Bool).length) 1) <|
  cK (Aa (y.2.2.2.2.2.1.length+([([]:LB)]:List LB).length) 16) <|
  some (.inl (wI (y.1+1),y.2.1,y.2.2.1,y.2.2.2.1,y.2.2.2.2.1++([decide (0 < y.2.2.2.2.2.2.1)]:List Bool),y.2.2.2.2.2.1++([([]:LB)]:List LB),y.2.2.2.2.2.2.1,y.2.2.2.2.2.2.2.1,y.2.2.2.2.2.2.2.2))
 else
  some (.inr (y.2.1,y.2.2.1,y.2.2.2.1,y.2.2.2.2.1,y.2.2.2.2.2.1))
def Il (y:U78):Option (U78⊕(List Bool×List LB)):=
 if decide (y.2.2.1 < y.2.1)then
  gX y.1 y.2.2.1 λr6=>
  cZ (wI ((y.2.2.2.2.length:Int) - 1)) <|
  cK (decide (wI ((y.2.2.2.2.length:Int) - 1) < (y.2.2.2.2.length:Int))) <|
  Option.bind (y.2.2.2.2[0+(wI ((y.2.2.2.2.length:Int) - 1)).toNat]?) λr7=>
  cK (decide ((r7.length+r6.2.2.length:Nat)<=9223372036854775807)) <|
  cZ (wI ((y.2.2.2.2.length:Int) - 1)) <|
  cK (decide (wI ((y.2.2.2.2.length:Int) - 1) < (y.2.2.2.2.length:Int))) <|
  Option.bind (y.2.2.2.2[0+(wI ((y.2.2.2.2.length:Int) - 1)).toNat]?) λr8=>
  Option.bind (y.2.2.2.2[0+(wI ((y.2.2.2.2.length:Int) - 1)).toNat]?) λr9=>
  (Ab Ip (0,y.1,y.2.1,y.2.2.1,y.2.2.2.1,y.2.2.2.2.set (0+(wI ((y.2.2.2.2.length:Int) - 1)).toNat) ((r7:LB)++r6.2.2),r6.1,r6.2.1,r6.2.2)).bind λv10=>
  some (.inl (v10.1,v10.2.1,wI (v10.2.2.1+1),v10.2.2.2.1,v10.2.2.2.2))
 else
  some (.inr (y.2.2.2.1,y.2.2.2.2))
def MG (x0:List (Int×(Int×LB))):Option ((List Bool×List LB)):=
 (Ab Il (x0,(x0.length:Int),0,[],[([]:LB)])).bind λv11=>
 some (v11.1,v11.2)
def Mk (x0:List (Int×(Int×LB))) (x1 x2:Int) (x3:LB):Option (List (Int×(Int×LB))):=
 if decide (x1=0) && (decide (x2=0) && (((x3:LB) == []) && true))then
  some x0
 else
  Option.bind (α:=U96) (
    if decide (0 < (x0.length:Int))then
     cZ (wI ((x0.length:Int) - 1)) <|
     cK (decide (wI ((x0.length:Int) - 1) < (x0.length:Int))) <|
     Option.bind (x0[0+(wI ((x0.length:Int) - 1)).toNat]?) λr1=>
     Option.bind (x0[0+(wI ((x0.length:Int) - 1)).toNat]?) λr2=>
     Option.bind (x0[0+(wI ((x0.length:Int) - 1)).toNat]?) λr3=>
     (Hn r1.1 r2.2.1 r3.2.2).bind λc4=>
     (Hn x1 x2 x3).bind λc5=>
     some (x0,(x0.length:Int),decide (c4=c5),x1,x2,x3)
    else
    some (x0,(x0.length:Int),false,x1,x2,x3)) λv6=>
  if v6.2.2.1 then
   cZ (wI (v6.2.1 - 1)) <|
   cK (decide (wI (v6.2.1 - 1) < (v6.1.length:Int))) <|
   Option.bind (v6.1[0+(wI (v6.2.1 - 1)).toNat]?) λr7=>
   cZ (wI (v6.2.1 - 1)) <|
   cK (decide (wI (v6.2.1 - 1) < (v6.1.length:Int))) <|
   Option.bind (v6.1[0+(wI (v6.2.1 - 1)).toNat]?) λr8=>
   cZ (wI (v6.2.1 - 1)) <|
   cK (decide (wI (v6.2.1 - 1) < (v6.1.length:Int))) <|
   Option.bind (v6.1[0+(wI (v6.2.1 - 1)).toNat]?) λr9=>
   cK (decide ((r9.2.2.length+v6.2.2.2.2.2.length:Nat)<=9223372036854775807)) <|
   cZ (wI (v6.2.1 - 1)) <|
   cK (decide (wI (v6.2.1 - 1) < (v6.1.length:Int))) <|
   Option.bind (v6.1[0+(wI (v6.2.1 - 1)).toNat]?) λr10=>
   Option.bind (v6.1[0+(wI (v6.2.1 - 1)).toNat]?) λr11=>
   Option.bind ((v6.1.set (0+(wI (v6.2.1 - 1)).toNat) (wI (r7.1+v6.2.2.2.1),r11.2))[0+(wI (v6.2.1 - 1)).toNat]?) λr12=>
   Option.bind ((v6.1.set (0+(wI (v6.2.1 - 1)).toNat) (wI (r7.1+v6.2.2.2.1),r11.2))[0+(wI (v6.2.1 - 1)).toNat]?) λr13=>
   Option.bind (((v6.1.set (0+(wI (v6.2.1 - 1)).toNat) (wI (r7.1+v6.2.2.2.1),r11.2)).set (0+(wI (v6.2.1 - 1)).toNat) (r13.1,(wI (r8.2.1+v6.2.2.2.2.1),r13.2.2)))[0+(wI (v6.2.1 - 1)).toNat]?) λr14=>
   Option.bind (((v6.1.set (0+(wI (v6.2.1 - 1)).toNat) (wI (r7.1+v6.2.2.2.1),r11.2)).set (0+(wI (v6.2.1 - 1)).toNat) (r13.1,(wI (r8.2.1+v6.2.2.2.2.1),r13.2.2)))[0+(wI (v6.2.1 - 1)).toNat]?) λr15=>
   some (((v6.1.set (0+(wI (v6.2.1 - 1)).toNat) (wI (r7.1+v6.2.2.2.1),r11.2)).set (0+(wI (v6.2.1 - 1)).toNat) (r13.1,(wI (r8.2.1+v6.2.2.2.2.1),r13.2.2))).set (0+(wI (v6.2.1 - 1)).toNat) (r15.1,(r15.2.1,(r9.2.2:LB)++v6.2.2.2.2.2)))
  else
  cK (Aa (v6.1.length+([(v6.2.2.2.1,(v6.2.2.2.2.1,v6.2.2.2.2.2))]:List (Int×(Int×LB))).length) 32) <|
  some (v6.1++([(v6.2.2.2.1,(v6.2.2.2.2.1,v6.2.2.2.2.2))]:List (Int×(Int×LB))))
def Rm (y:AdY):Option (AdY⊕(List (Int×(Int×LB)))):=
 if decide (y.2.2.2.1 < y.2.2.1)then
  gX y.2.1 y.2.2.2.1 λr8=>
  (Mk y.1 0 0 r8).bind λc9=>
  Option.bind (α:=AdY) (
   if decide (y.2.2.2.1 < (y.2.2.2.2.1.length:Int))then
    gX y.2.2.2.2.1 y.2.2.2.1 λr10=>
    Option.bind (α:=AdY) (
     if r10 then
      (Mk c9 1 0 []).bind λc11=>
      some (c11,y.2.1,y.2.2.1,y.2.2.2.1,y.2.2.2.2.1,y.2.2.2.2.2)
     else
      (Mk c9 0 1 []).bind λc12=>
      some (c12,y.2.1,y.2.2.1,y.2.2.2.1,y.2.2.2.2.1,y.2.2.2.2.2)) λv13=>
    some (v13.1,v13.2.1,v13.2.2.1,v13.2.2.2.1,v13.2.2.2.2.1,v13.2.2.2.2.2)
   else
    some (c9,y.2.1,y.2.2.1,y.2.2.2.1,y.2.2.2.2.1,y.2.2.2.2.2)) λv14=>
  some (.inl (v14.1,v14.2.1,v14.2.2.1,wI (v14.2.2.2.1+1),v14.2.2.2.2.1,v14.2.2.2.2.2))
 else
  some (.inr y.1)
def NN (x0:List Bool) (x1:List LB):Option (List (Int×(Int×LB))):=
 (Ab Rm ([],x1,(x1.length:Int),0,x0,x1)).bind λv15=>
 some v15
def FK (y:Aib):Option (Aib⊕AnI):=
 if decide (y.2.2.2.1 < (y.2.2.1.length:Int))then
  cZ y.1 <|
  cK (decide (y.1 < (y.2.2.2.2.2.2.2.2.1.length:Int))) <|
  Option.bind (y.2.2.2.2.2.2.2.2.1[0+y.1.toNat]?) λr26=>
  Option.bind (α:=Aib) (
   if r26 then
    cZ y.2.1 <|
    cK (decide (y.2.1 < (y.2.2.2.2.2.2.2.2.2.2.2.length:Int))) <|
    Option.bind (y.2.2.2.2.2.2.2.2.2.2.2[0+y.2.1.toNat]?) λr27=>
    sX y.2.2.2.1 (wI (y.2.2.2.1+1)) (y.2.2.1.length:Int) (y.2.2.1.length) <|
    cK (decide ((r27.length+(((y.2.2.1:LB).drop (y.2.2.2.1.toNat)).take ((wI (y.2.2.2.1+1)).toNat - y.2.2.2.1.toNat)).length:Nat)<=9223372036854775807)) <|
    cZ y.2.1 <|
    cK (decide (y.2.1 < (y.2.2.2.2.2.2.2.2.2.2.2.length:Int))) <|
    Option.bind (y.2.2.2.2.2.2.2.2.2.2.2[0+y.2.1.toNat]?) λr28=>
    Option.bind (y.2.2.2.2.2.2.2.2.2.2.2[0+y.2.1.toNat]?) λr29=>
    some (y.1,y.2.1,y.2.2.1,y.2.2.2.1,y.2.2.2.2.1,y.2.2.2.2.2.1,y.2.2.2.2.2.2.1,y.2.2.2.2.2.2.2.1,y.2.2.2.2.2.2.2.2.1,y.2.2.2.2.2.2.2.2.2.1,y.2.2.2.2.2.2.2.2.2.2.1,y.2.2.2.2.2.2.2.2.2.2.2.set (0+y.2.1.toNat) ((r27:LB)++(((y.2.2.1:LB).drop (y.2.2.2.1.toNat)).take ((wI (y.2.2.2.1+1)).toNat - y.2.2.2.1.toNat))))
   else
    some (y.1,y.2.1,y.2.2.1,y.2.2.2.1,y.2.2.2.2.1,y.2.2.2.2.2.1,y.2.2.2.2.2.2.1,y.2.2.2.2.2.2.2.1,y.2.2.2.2.2.2.2.2.1,y.2.2.2.2.2.2.2.2.2.1,y.2.2.2.2.2.2.2.2.2.2.1,y.2.2.2.2.2.2.2.2.2.2.2)) λv30=>
  cZ v30.2.1 <|
  cK (decide (v30.2.1 < (v30.2.2.2.2.2.2.2.2.2.2.2.length:Int))) <|
  Option.bind (v30.2.2.2.2.2.2.2.2.2.2.2[0+v30.2.1.toNat]?) λr31=>
  cZ (wI (v30.1+1)) <|
  cK (decide (wI (v30.1+1) < (v30.2.2.2.2.2.2.2.2.2.1.length:Int))) <|
  Option.bind (v30.2.2.2.2.2.2.2.2.2.1[0+(wI (v30.1+1)).toNat]?) λr32=>
  cK (decide ((r31.length+r32.length:Nat)<=9223372036854775807)) <|
  cZ v30.2.1 <|
  cK (decide (v30.2.1 < (v30.2.2.2.2.2.2.2.2.2.2.2.length:Int))) <|
  Option.bind (v30.2.2.2.2.2.2.2.2.2.2.2[0+v30.2.1.toNat]?) λr33=>
  Option.bind (v30.2.2.2.2.2.2.2.2.2.2.2[0+v30.2.1.toNat]?) λr34=>
  some (.inl (wI (v30.1+1),v30.2.1,v30.2.2.1,wI (v30.2.2.2.1+1),v30.2.2.2.2.1,v30.2.2.2.2.2.1,v30.2.2.2.2.2.2.1,v30.2.2.2.2.2.2.2.1,v30.2.2.2.2.2.2.2.2.1,v30.2.2.2.2.2.2.2.2.2.1,v30.2.2.2.2.2.2.2.2.2.2.1,v30.2.2.2.2.2.2.2.2.2.2.2.set (0+v30.2.1.toNat) ((r31:LB)++r32)))
 else
  some (.inr (y.1,y.2.1,y.2.2.2.2.1,y.2.2.2.2.2.1,y.2.2.2.2.2.2.1,y.2.2.2.2.2.2.2.1,y.2.2.2.2.2.2.2.2.1,y.2.2.2.2.2.2.2.2.2.1,y.2.2.2.2.2.2.2.2.2.2.1,y.2.2.2.2.2.2.2.2.2.2.2))
def KJ (y:Aan):Option (Aan⊕(List Bool×List LB)):=
 if decide (y.2.2.2.1 < y.2.2.1)then
  Option.bind (α:=Aan⊕(List Bool×List LB)) (
    cZ y.2.2.2.1 <|
    cK (decide (y.2.2.2.1 < (y.2.1.length:Int))) <|
    Option.bind (y.2.1[0+y.2.2.2.1.toNat]?) λr25=>
    (Ab FK (y.1,y.2.2.2.1,r25,0,y.2.1,y.2.2.1,y.2.2.2.1,y.2.2.2.2.1,y.2.2.2.2.2.1,y.2.2.2.2.2.2.1,y.2.2.2.2.2.2.2.1,y.2.2.2.2.2.2.2.2)).bind λv35=>
    if decide (v35.2.1=(v35.2.2.2.2.2.1.length:Int))then
     some (.inr (v35.2.2.2.2.2.2.2.2.1,v35.2.2.2.2.2.2.2.2.2))
    else
    cZ v35.2.1 <|
    cK (decide (v35.2.1 < (v35.2.2.2.2.2.1.length:Int))) <|
    Option.bind (v35.2.2.2.2.2.1[0+v35.2.1.toNat]?) λr36=>
    if(!r36)then
     cK (Aa (v35.2.2.2.2.2.2.2.2.1.length+([false]:List Bool).length) 1) <|
     some (.inl (v35.1,v35.2.2.1,v35.2.2.2.1,v35.2.2.2.2.1,v35.2.2.2.2.2.1,v35.2.2.2.2.2.2.1,v35.2.2.2.2.2.2.2.1,v35.2.2.2.2.2.2.2.2.1++([false]:List Bool),v35.2.2.2.2.2.2.2.2.2))
    else
    cZ v35.1 <|
    cK (decide (v35.1 < (v35.2.2.2.2.2.2.1.length:Int))) <|
    Option.bind (v35.2.2.2.2.2.2.1[0+v35.1.toNat]?) λr37=>
    cK (Aa (v35.2.2.2.2.2.2.2.2.1.length+([r37]:List Bool).length) 1) <|
    cZ (wI (v35.1+1)) <|
    cK (decide (wI (v35.1+1) < (v35.2.2.2.2.2.2.2.1.length:Int))) <|
    Option.bind (v35.2.2.2.2.2.2.2.1[0+(wI (v35.1+1)).toNat]?) λr38=>
    cZ (wI (v35.2.1+1)) <|
    cK (decide (wI (v35.2.1+1) < (v35.2.2.2.2.2.2.2.2.2.length:Int))) <|
    Option.bind (v35.2.2.2.2.2.2.2.2.2[0+(wI (v35.2.1+1)).toNat]?) λr39=>
    Option.bind (v35.2.2.2.2.2.2.2.2.2[0+(wI (v35.2.1+1)).toNat]?) λr40=>
    some (.inl (wI (v35.1+1),v35.2.2.1,v35.2.2.2.1,v35.2.2.2.2.1,v35.2.2.2.2.2.1,v35.2.2.2.2.2.2.1,v35.2.2.2.2.2.2.2.1,v35.2.2.2.2.2.2.2.2.1++([r37]:List Bool),v35.2.2.2.2.2.2.2.2.2.set (0+(wI (v35.2.1+1)).toNat) r38))) λv41=>
  match v41 with
  | .inl y42=>
   some (.inl (y42.1,y42.2.1,y42.2.2.1,wI (y42.2.2.2.1+1),y42.2.2.2.2.1,y42.2.2.2.2.2.1,y42.2.2.2.2.2.2.1,y42.2.2.2.2.2.2.2.1,y42.2.2.2.2.2.2.2.2))
  | .inr s43=>
   some (.inr (s43.1,s43.2))
 else
  some (.inr (y.2.2.2.2.2.2.2.1,y.2.2.2.2.2.2.2.2))
def KT (x0 x1:List (Int×(Int×LB))):Option (List (Int×(Int×LB))):=
 (MG x0).bind λc1=>
 (MG x1).bind λc2=>
 cZ (c1.2.length:Int) <|
 cK (decide ((c1.2.length:Int)<=(c1.2.length:Int))) <|
 cK (Aa ((c1.2.length:Int).toNat) 16) <|
 cZ 0 <|
 cK (decide (0 < (c2.2.length:Int))) <|
 Option.bind (c2.2[0+Int.toNat 0]?) λr3=>
 cZ 0 <|
 cK (decide (0 < ((List.replicate ((c1.2.length:Int).toNat) ([]:LB)).length:Int))) <|
 Option.bind ((List.replicate ((c1.2.length:Int).toNat) ([]:LB))[0+Int.toNat 0]?) λr4=>
 Option.bind ((List.replicate ((c1.2.length:Int).toNat) ([]:LB))[0+Int.toNat 0]?) λr5=>
 (Ab KJ (0,c1.2,(c1.2.length:Int),0,c1.1,c2.1,c2.2,[],(List.replicate ((c1.2.length:Int).toNat) ([]:LB)).set (0+Int.toNat 0) r3)).bind λv44=>
 Option.bind (α:=List (Int×(Int×LB))) (
  (NN v44.1 v44.2).bind λc45=>
  some c45) λv46=>
 some v46
def IA (y:AiQ):Option (AiQ⊕U0):=match y with
 | (a,b,c,d,e,f,g,h)=>
 if decide (d < c)then
  Option.bind (α:=AiQ) (
   cZ d <|
   cK (decide (d < (b.length:Int))) <|
   Option.bind (b[0+d.toNat]?) λr3=>
   Option.bind (b[0+d.toNat]?) λr4=>
   if decide (r3.1=0)then
    gX h (wI (r4.2 - e)) λr5=>
    cZ r4.2 <|
    cK (decide (r4.2 < (a.length:Int))) <|
    Option.bind (a[0+r4.2.toNat]?) λr6=>
    Option.bind (a[0+r4.2.toNat]?) λr7=>
    some (a.set (0+r4.2.toNat) r5,b,c,d,e,f,g,h)
   else
    (FW r3.1 r4.2).bind λc8=>
    cZ (wI ((wI (64 * (wI (r3.1 - 1))))+(wI (2 * r4.2)))) <|
    cK (decide (wI ((wI (64 * (wI (r3.1 - 1))))+(wI (2 * r4.2))) < (a.length:Int))) <|
    Option.bind (a[0+(wI ((wI (64 * (wI (r3.1 - 1))))+(wI (2 * r4.2)))).toNat]?) λr9=>
    cZ (wI ((wI ((wI (64 * (wI (r3.1 - 1))))+(wI (2 * r4.2))))+1)) <|
    cK (decide (wI ((wI ((wI (64 * (wI (r3.1 - 1))))+(wI (2 * r4.2))))+1) < (a.length:Int))) <|
    Option.bind (a[0+(wI ((wI ((wI (64 * (wI (r3.1 - 1))))+(wI (2 * r4.2))))+1)).toNat]?) λr10=>
    (KT r9 r10).bind λc11=>
    cZ c8 <|
    cK (decide (c8 < (a.length:Int))) <|
    Option.bind (a[0+c8.toNat]?) λr12=>
    Option.bind (a[0+c8.toNat]?) λr13=>
    some (a.set (0+c8.toNat) c11,b,c,d,e,f,g,h)) λ(i,j,k,l,m,n,o,p)=>
  some (.inl (i,j,k,wI (l+1),m,n,o,p))
 else
  some (.inr a)
def PY (x0:Int) (x1:LB) (x2:List (Int×Int)) (x3:List (List (Int×(Int×LB)))):Option U0:=
 cZ 384 <|
 cK (decide ((384:Int)<=384)) <|
 cK (Aa (Int.toNat 384) 24) <|
 (R8 x0 x1 x2 x3).bind λc1=>
 (KH x0 c1).bind λc2=>
 (Ab IA (List.replicate (Int.toNat 384) ([]:List (Int×(Int×LB))),c2,(c2.length:Int),0,x0,x1,x2,x3)).bind λv15=>
 some v15
def Hh (y:U47):Option (U47⊕LI):=
 if decide (y.2.2.2 < y.2.2.1)then
  gX y.2.1 y.2.2.2 λr3=>
  (Hn r3.1 r3.2.1 r3.2.2).bind λc4=>
  cK (Aa (y.1.length+([IntKind.wrap .u8 c4,wB (wI ((wI (r3.1+r3.2.1))+(r3.2.2.length:Int)))]:LI).length) 1) <|
  cK (Aa ((y.1++([IntKind.wrap .u8 c4,wB (wI ((wI (r3.1+r3.2.1))+(r3.2.2.length:Int)))]:LI)).length+(AA r3.2.2).length) 1) <|
  some (.inl ((y.1++([IntKind.wrap .u8 c4,wB (wI ((wI (r3.1+r3.2.1))+(r3.2.2.length:Int)))]:LI))++(AA r3.2.2),y.2.1,y.2.2.1,wI (y.2.2.2+1)))
 else
  some (.inr y.1)
def NP (x0:List (Int×(Int×LB))):Option LI:=
 (Ab Hh ([],x0,(x0.length:Int),0)).bind λv5=>
 some v5
def Mv (y:AeI):Option (AeI⊕LB):=
 if decide (y.2.2.2.2.2 < y.2.2.2.2.1)then
  gX y.2.2.2.1 y.2.2.2.2.2 λr4=>
  sX y.2.2.1 (wI (y.2.2.1+r4.1)) (y.1.length:Int) (y.1.length) <|
  cK (decide (((((y.1:LB).drop (y.2.2.1.toNat)).take ((wI (y.2.2.1+r4.1)).toNat - y.2.2.1.toNat)).length+r4.2.2.length:Nat)<=9223372036854775807)) <|
  cK (decide ((y.2.1.length+((((y.1:LB).drop (y.2.2.1.toNat)).take ((wI (y.2.2.1+r4.1)).toNat - y.2.2.1.toNat):LB)++r4.2.2).length:Nat)<=9223372036854775807)) <|
  some (.inl (y.1,(y.2.1:LB)++((((y.1:LB).drop (y.2.2.1.toNat)).take ((wI (y.2.2.1+r4.1)).toNat - y.2.2.1.toNat):LB)++r4.2.2),wI (y.2.2.1+(wI (r4.1+r4.2.1))),y.2.2.2.1,y.2.2.2.2.1,wI (y.2.2.2.2.2+1)))
 else
  some (.inr y.2.1)
def IO (x0:LB) (x1:List (Int×(Int×LB))):Option ((LB×Bool)):=
 Option.bind (α:=U22) (
   (FI x1).bind λc1=>
   if(!c1)then
    some (x0,x1,true)
   else
    (Jy x1).bind λc2=>
    some (x0,x1,decide (¬ c2=(x0.length:Int)))) λv3=>
 if v3.2.2 then
  some (([]:LB),false)
 else
  (Ab Mv (v3.1,([]:LB),0,v3.2.1,(v3.2.1.length:Int),0)).bind λv5=>
  some (v5,true)
def Hm (y:U51):Option (U51⊕LB):=
 if decide (y.2.2.2 < y.2.2.1)then
  gX y.2.1 y.2.2.2 λr1=>
  (IO y.1 r1).bind λc2=>
  some (.inl (c2.1,y.2.1,y.2.2.1,wI (y.2.2.2+1)))
 else
  some (.inr y.1)
def K7 (x0:Int) (x1:LB) (x2:List (Int×Int)) (x3:List (List (Int×(Int×LB)))) (x4:Int):Option LB:=
 sX 0 (wI (x4 - x0)) (x3.length:Int) (x3.length) <|
 (Ab Hm (x1,(List.drop (Int.toNat 0) x3).take ((wI (x4 - x0)).toNat - Int.toNat 0),(((List.drop (Int.toNat 0) x3).take ((wI (x4 - x0)).toNat - Int.toNat 0)).length:Int),0)).bind λv3=>
 some v3
def Cz (y:VO):Option (VO⊕MU):=match y with
 | (a,b,c,d,e,f,g,h,i,j,k)=>
 if decide (c < b)then
  gX a c λr1=>
  (HN i r1).bind λc2=>
  Option.bind (α:=Aop) (
   if c2 then
    some (r1,a,b,c,d,e,f,g,h,i,j,false)
   else
    some (r1,a,b,c,d,e,f,g,h,i,j,k)) λ(l,m,n,o,p,q,r,s,t,u,v,w)=>
  (CY u l).bind λc4=>
  some (.inl (m,n,wI (o+1),p,q,r,s,t,c4,v,w))
 else
  some (.inr (d,e,f,g,h,i,j,k))
def D9 (x0:LI) (x1:LL) (x2 x3 x4 x5 x6 x7:LI) (x8:Bool):Option MU:=
 (Ab Cz (x0,(x0.length:Int),0,x1,x2,x3,x4,x5,x6,x7,x8)).bind λ(a,b,c,d,e,f,g,h)=>
 some (a,b,c,d,e,f,g,h)
def B9 (y:VO):Option (VO⊕AdZ):=match y with
 | (a,b,c,d,e,f,g,h,i,j,k)=>
 if decide (c < b)then
  cZ c <|
  cK (decide (c < (a.length:Int))) <|
  Option.bind (a[0+c.toNat]?) λr1=>
  (HN i r1).bind λc2=>
  Option.bind (α:=An1) (
   if c2 then
    some (a,r1,b,c,d,e,f,g,h,i,j,false)
   else
    some (a,r1,b,c,d,e,f,g,h,i,j,k)) λ(l,m,n,o,p,q,r,s,t,u,v,w)=>
  (CY u m).bind λc4=>
  some (.inl (l,n,wI (o+1),p,q,r,s,t,c4,v,w))
 else
  some (.inr (a,d,e,f,g,h,i,j,k))
def B4 (x0:LI) (x1:LL) (x2 x3 x4 x5 x6 x7:LI) (x8:Bool):Option AdZ:=
 (Ab B9 (x0,(x0.length:Int),0,x1,x2,x3,x4,x5,x6,x7,x8)).bind λ(a,b,c,d,e,f,g,h,i)=>
 some (a,b,c,d,e,f,g,h,i)
def CJ (y:Al1):Option (Al1⊕AkS):=match y with
 | (a,b,c,d,e,f,g,h,i,j,k,l)=>
 if decide (d < c)then
  gX b d λr4=>
  cZ r4 <|
  cK (decide (r4 < (k.length:Int))) <|
  Option.bind (k[0+r4.toNat]?) λr5=>
  cZ r4 <|
  cK (decide (r4 < (k.length:Int))) <|
  Option.bind (k[0+r4.toNat]?) λr6=>
  Option.bind (k[0+r4.toNat]?) λr7=>
  some (.inl (a,b,c,wI (d+1),e,f,g,h,i,j,k.set (0+r4.toNat) (wI (r5+1)),l))
 else
  some (.inr (a,e,f,g,h,i,j,k,l))
def BL (x0:Int) (x1:LL) (x2 x3 x4 x5 x6 x7:LI) (x8:Bool):Option AkS:=
 Option.bind (α:=Aon) (
   (Qk x1 x2 x3 x4 x0).bind λ(a,b,c)=>
   some (a,b,c,x1,x2,x3,x4,x5,x6,x7,x8)) λ(d,e,f,g,h,i,j,k,l,m,n)=>
 if(!f)then
  some (([]:LB),g,h,i,j,k,l,m,false)
 else
 sX (wI ((e.length:Int) - 1)) (e.length:Int) (e.length:Int) (e.length) <|
 (D9 ((List.drop ((wI ((e.length:Int) - 1)).toNat) e).take ((e.length:Int).toNat - (wI ((e.length:Int) - 1)).toNat)) g h i j k l m n).bind λ(o,p,q,r,s,t,u,v)=>
 sX 0 (wI ((e.length:Int) - 1)) (e.length:Int) (e.length) <|
 (Ab CJ (d,(List.drop (Int.toNat 0) e).take ((wI ((e.length:Int) - 1)).toNat - Int.toNat 0),(((List.drop (Int.toNat 0) e).take ((wI ((e.length:Int) - 1)).toNat - Int.toNat 0)).length:Int),0,o,p,q,r,s,t,u,v)).bind λ(w,x,y,z,a0,b0,c0,d0,e0)=>
 some (w,x,y,z,a0,b0,c0,d0,e0)
def Cj (x0:Int) (x1:LL) (x2 x3 x4 x5 x6 x7:LI) (x8:Bool):Option AdZ:=
 (Mc x1 x2 x3 x4 x0).bind λ(a,b,c)=>
 Option.bind (α:=Aov) (
  if x8 then
   some (a,b,x1,x2,x3,x4,x5,x6,x7,c)
  else
  some (a,b,x1,x2,x3,x4,x5,x6,x7,false)) λ(d,e,f,g,h,i,j,k,l,m)=>
 (B4 e f g h i j k l m).bind λ(_,n,o,p,q,r,s,t,u)=>
 some (d,n,o,p,q,r,s,t,u)
def G9 (y:Ak0):Option (Ak0⊕(Aog⊕Afe)):=match y with
 | (a,b,c,d,e,f,g,h,i,j,k,l,m,n,o,p,q,r,s,t,u)=>
 if decide (e < d)then
  cZ e <|
  cK (decide (e < (a.length:Int))) <|
  Option.bind (a[0+e.toNat]?) λr13=>
  Option.bind (a[0+e.toNat]?) λr14=>
  cZ e <|
  cK (decide (e < (c.length:Int))) <|
  Option.bind (c[0+e.toNat]?) λr15=>
  if decide (¬ r13.1=r15)then
   some (.inr (.inr (false,0,0,0,0,0,0,[])))
  else
   some (.inl (a,b,c,d,wI (e+1),f,g,h,i,j,k,l,m,n,o,p,q,r,s,t,u))
 else
  some (.inr (.inl (a,b,f,g,h,i,j,k,l,m,n,o,p,q,r,s,t,u)))
def G5 (y:Z8):Option (Z8⊕Abb):=match y with
 | (a,b,c,d,e,f,g,h,i,j,k,l,m,n,o,p,q,r,s,t,u,v,w,x,z,a0,b0,c0,d0,e0,f0,g0,h0,i0,j0,k0,l0,m0,n0,o0,p0)=>
 Option.bind (α:=AhM) (
   if decide (a < j)then
    some (a,p0,b,c,d,e,f,g,h,i,j,k,l,m,n,o,p,q,r,s,t,u,v,w,x,z,a0,b0,c0,d0,e0,f0,g0,h0,i0,j0,k0,l0,m0,n0,o0,p0)
   else
   some (a,false,b,c,d,e,f,g,h,i,j,k,l,m,n,o,p,q,r,s,t,u,v,w,x,z,a0,b0,c0,d0,e0,f0,g0,h0,i0,j0,k0,l0,m0,n0,o0,p0)) λ(q0,r0,s0,t0,u0,v0,w0,x0,y0,z0,a1,b1,c1,d1,e1,f1,g1,h1,i1,j1,k1,l1,m1,n1,o1,p1,q1,r1,s1,t1,u1,v1,w1,x1,y1,z1,a2,b2,c2,d2,e2,f2)=>
 if r0 then
  (FW 0 q0).bind λc32=>
  (D7 i1 j1 k1 l1 m1 n1 o1 p1 q1 r1 s1 t1 [] [] [] c32).bind λc33=>
  (Cj c33 y1 z1 a2 b2 c2 d2 e2 f2).bind λ(g2,h2,i2,j2,k2,l2,m2,n2,o2)=>
  (Jv g2).bind λc35=>
  Option.bind (α:=Anp) (
    if o2 then
     some (q0,c35.1,s0,t0,u0,v0,w0,x0,y0,z0,a1,b1,c1,d1,e1,f1,g1,h1,i1,j1,k1,l1,m1,n1,o1,p1,q1,r1,s1,t1,u1,v1,w1,x1,h2,i2,j2,k2,l2,m2,n2,c35.2)
    else
    some (q0,c35.1,s0,t0,u0,v0,w0,x0,y0,z0,a1,b1,c1,d1,e1,f1,g1,h1,i1,j1,k1,l1,m1,n1,o1,p1,q1,r1,s1,t1,u1,v1,w1,x1,h2,i2,j2,k2,l2,m2,n2,false)) λ(p2,q2,r2,s2,t2,u2,v2,w2,x2,y2,z2,a3,b3,c3,d3,e3,f3,g3,h3,i3,j3,k3,l3,m3,n3,o3,p3,q3,r3,s3,t3,u3,v3,w3,x3,y3,z3,a4,b4,c4,d4,e4)=>
  cK (Aa (w3.length+([q2]:List (List (Int×(Int×LB)))).length) 24) <|
  some (.inl (wI (p2+1),r2,s2,t2,u2,v2,w2,x2,y2,z2,a3,b3,c3,d3,e3,f3,g3,h3,i3,j3,k3,l3,m3,n3,o3,p3,q3,r3,s3,t3,u3,v3,w3++([q2]:List (List (Int×(Int×LB)))),x3,y3,z3,a4,b4,c4,d4,e4))
 else
  some (.inr (s0,t0,u0,v0,w0,x0,y0,z0,a1,b1,c1,d1,e1,f1,g1,h1,i1,j1,k1,l1,m1,n1,o1,p1,q1,r1,s1,t1,u1,v1,w1,x1,y1,z1,a2,b2,c2,d2,e2,f2))
def FM (y:Ak9):Option (Ak9⊕(Abb⊕Afe)):=match y with
 | (a,b,c,d,e,f,g,h,i,j,k,l,m,n,o,p,q,r,s,t,u,v,w,x,z,a0,b0,c0,d0,e0,f0,g0,h0,i0,j0,k0,l0,m0,n0,o0,p0,q0,r0,s0)=>
 if decide (d < c)then
  cZ d <|
  cK (decide (d < (b.length:Int))) <|
  Option.bind (b[0+d.toNat]?) λr42=>
  Option.bind (b[0+d.toNat]?) λr43=>
  Option.bind (α:=Aof) (
    if decide (0 < r42.1)then
     (FW r42.1 r43.2).bind λc44=>
     (D7 u v w x z a0 b0 c0 d0 e0 f0 g0 [] [] [] c44).bind λc45=>
     (Cj c45 l0 m0 n0 o0 p0 q0 r0 s0).bind λ(t0,u0,v0,w0,x0,y0,z0,a1,b1)=>
     (FW r42.1 r43.2).bind λc47=>
     cZ c47 <|
     cK (decide (c47 < (a.length:Int))) <|
     Option.bind (a[0+c47.toNat]?) λr48=>
     (NP r48).bind λc49=>
     some (a,b,c,d,(!((AL t0:LB) == (AL c49))),e,f,g,h,i,j,k,l,m,n,o,p,q,r,s,t,u,v,w,x,z,a0,b0,c0,d0,e0,f0,g0,h0,i0,j0,k0,u0,v0,w0,x0,y0,z0,a1,b1)
    else
    some (a,b,c,d,false,e,f,g,h,i,j,k,l,m,n,o,p,q,r,s,t,u,v,w,x,z,a0,b0,c0,d0,e0,f0,g0,h0,i0,j0,k0,l0,m0,n0,o0,p0,q0,r0,s0)) λ(c1,d1,e1,f1,g1,h1,i1,j1,k1,l1,m1,n1,o1,p1,q1,r1,s1,t1,u1,v1,w1,x1,y1,z1,a2,b2,c2,d2,e2,f2,g2,h2,i2,j2,k2,l2,m2,n2,o2,p2,q2,r2,s2,t2,u2)=>
  if g1 then
   some (.inr (.inr (false,0,0,0,0,0,0,[])))
  else
   some (.inl (c1,d1,e1,wI (f1+1),h1,i1,j1,k1,l1,m1,n1,o1,p1,q1,r1,s1,t1,u1,v1,w1,x1,y1,z1,a2,b2,c2,d2,e2,f2,g2,h2,i2,j2,k2,l2,m2,n2,o2,p2,q2,r2,s2,t2,u2))
 else
  some (.inr (.inl (e,f,g,h,i,j,k,l,m,n,o,p,q,r,s,t,u,v,w,x,z,a0,b0,c0,d0,e0,f0,g0,h0,i0,j0,k0,l0,m0,n0,o0,p0,q0,r0,s0)))
def FO (y:Z8):Option (Z8⊕(Anl⊕Afe)):=match y with
 | (a,b,c,d,e,f,g,h,i,j,k,l,m,n,o,p,q,r,s,t,u,v,w,x,z,a0,b0,c0,d0,e0,f0,g0,h0,i0,j0,k0,l0,m0,n0,o0,p0)=>
 if decide (a<=j)then
  Option.bind (α:=AhM) (
    cK (decide (¬ k=0)) <|
    if decide (Int.tmod a k=0)then
     (D7 r s t u v w x z a0 b0 c0 d0 [] [] [] (wI (384+a))).bind λc54=>
     (BL c54 i0 j0 k0 l0 m0 n0 o0 p0).bind λ(q0,r0,s0,t0,u0,v0,w0,x0,y0)=>
     (K7 e0 f0 g0 h0 a).bind λc56=>
     some (a,(!((q0:LB) == c56)),b,c,d,e,f,g,h,i,j,k,l,m,n,o,p,q,r,s,t,u,v,w,x,z,a0,b0,c0,d0,e0,f0,g0,h0,r0,s0,t0,u0,v0,w0,x0,y0)
    else
    some (a,false,b,c,d,e,f,g,h,i,j,k,l,m,n,o,p,q,r,s,t,u,v,w,x,z,a0,b0,c0,d0,e0,f0,g0,h0,i0,j0,k0,l0,m0,n0,o0,p0)) λ(z0,a1,b1,c1,d1,e1,f1,g1,h1,i1,j1,k1,l1,m1,n1,o1,p1,q1,r1,s1,t1,u1,v1,w1,x1,y1,z1,a2,b2,c2,d2,e2,f2,g2,h2,i2,j2,k2,l2,m2,n2,o2)=>
  if a1 then
   some (.inr (.inr (false,0,0,0,0,0,0,[])))
  else
   some (.inl (wI (z0+1),b1,c1,d1,e1,f1,g1,h1,i1,j1,k1,l1,m1,n1,o1,p1,q1,r1,s1,t1,u1,v1,w1,x1,y1,z1,a2,b2,c2,d2,e2,f2,g2,h2,i2,j2,k2,l2,m2,n2,o2))
 else
  some (.inr (.inl (b,c,d,e,f,g,h,n,o,p,q,r,s,t,u,v,w,x,z,a0,b0,c0,d0,e0,f0,g0,h0,i0,j0,k0,l0,m0,n0,o0,p0)))
def Fy (y:Aip):Option (Aip⊕(Anv⊕Afe)):=match y with
 | (a,b,c,d,e,f,g,h,i,j,k,l,m,n,o,p,q,r,s,t,u,v,w,x,z,a0,b0,c0,d0,e0,f0,g0,h0,i0,j0,k0,l0)=>
 if decide (c < b)then
  cZ c <|
  cK (decide (c < (a.length:Int))) <|
  Option.bind (a[0+c.toNat]?) λr61=>
  Option.bind (α:=Aoi) (
    if decide (0 < r61)then
     (HN k0 c).bind λc62=>
     if c62 then
      some (c,r61,a,b,c,true,d,e,f,g,h,i,j,k,l,m,n,o,p,q,r,s,t,u,v,w,x,z,a0,b0,c0,d0,e0,f0,g0,h0,i0,j0,k0,l0)
     else
     gX k c λr63=>
     gX r63 1 λr64=>
     some (c,r61,a,b,c,decide (¬ IntKind.wrap .i64 r64=r61),d,e,f,g,h,i,j,k,l,m,n,o,p,q,r,s,t,u,v,w,x,z,a0,b0,c0,d0,e0,f0,g0,h0,i0,j0,k0,l0)
    else
    some (c,r61,a,b,c,false,d,e,f,g,h,i,j,k,l,m,n,o,p,q,r,s,t,u,v,w,x,z,a0,b0,c0,d0,e0,f0,g0,h0,i0,j0,k0,l0)) λ(m0,n0,o0,p0,q0,r0,s0,t0,u0,v0,w0,x0,y0,z0,a1,b1,c1,d1,e1,f1,g1,h1,i1,j1,k1,l1,m1,n1,o1,p1,q1,r1,s1,t1,u1,v1,w1,x1,y1,z1)=>
  if r0 then
   some (.inr (.inr (false,0,0,0,0,0,0,[])))
  else
   Option.bind (α:=Aor) (
     if decide (0 < n0)then
      (CY y1 m0).bind λc66=>
      some (m0,o0,p0,q0,s0,t0,u0,v0,w0,x0,y0,z0,a1,b1,c1,d1,e1,f1,g1,h1,i1,j1,k1,l1,m1,n1,o1,p1,q1,r1,s1,t1,u1,v1,w1,x1,c66,z1)
     else
      some (m0,o0,p0,q0,s0,t0,u0,v0,w0,x0,y0,z0,a1,b1,c1,d1,e1,f1,g1,h1,i1,j1,k1,l1,m1,n1,o1,p1,q1,r1,s1,t1,u1,v1,w1,x1,y1,z1)) λ(a2,b2,c2,d2,e2,f2,g2,h2,i2,j2,k2,l2,m2,n2,o2,p2,q2,r2,s2,t2,u2,v2,w2,x2,y2,z2,a3,b3,c3,d3,e3,f3,g3,h3,i3,j3,k3,l3)=>
   Option.bind (α:=Amw) (
     if decide (33<=a2)then
      (Hy m2 a2).bind λc68=>
      (HN k3 a2).bind λc69=>
      some (b2,c2,d2,(c68 != c69),e2,f2,g2,h2,i2,j2,k2,l2,m2,n2,o2,p2,q2,r2,s2,t2,u2,v2,w2,x2,y2,z2,a3,b3,c3,d3,e3,f3,g3,h3,i3,j3,k3,l3)
     else
     some (b2,c2,d2,false,e2,f2,g2,h2,i2,j2,k2,l2,m2,n2,o2,p2,q2,r2,s2,t2,u2,v2,w2,x2,y2,z2,a3,b3,c3,d3,e3,f3,g3,h3,i3,j3,k3,l3)) λ(m3,n3,o3,p3,q3,r3,s3,t3,u3,v3,w3,x3,y3,z3,a4,b4,c4,d4,e4,f4,g4,h4,i4,j4,k4,l4,m4,n4,o4,p4,q4,r4,s4,t4,u4,v4,w4,x4)=>
   if p3 then
    some (.inr (.inr (false,0,0,0,0,0,0,[])))
   else
    some (.inl (m3,n3,wI (o3+1),q3,r3,s3,t3,u3,v3,w3,x3,y3,z3,a4,b4,c4,d4,e4,f4,g4,h4,i4,j4,k4,l4,m4,n4,o4,p4,q4,r4,s4,t4,u4,v4,w4,x4))
 else
  some (.inr (.inl (d,e,f,g,h,i,j,o,p,q,r,s,t,u,v,w,x,z,a0,b0,c0,d0,e0,f0,g0,h0,i0,j0,k0,a,l0)))
def DK (x0:LL) (x1:Int) (x2:Bool) (x3:Int):Option AnF:=
 Option.bind (α:=Anm) (
   (J9 x0 x1 x2 x3).bind λc1=>
   if(!c1)then
    some (true,x0,x1,x2,x3,0,0,0,0,0,0,[])
   else
    (K5 x0 x1 x2 x3).bind λc2=>
    some (decide (0 < (c2.length:Int)),x0,x1,x2,x3,0,0,0,0,0,0,[])) λ(a,b,c,d,e,f,g,h,i,j,k,l)=>
 if a then
  some (false,0,0,0,0,0,[],[],[],[],[],0,[],[],[],[])
 else
 gX b 0 λr4=>
 (NY r4).bind λ(m,n,o,p,q,r)=>
 Option.bind (α:=AnL) (
   (KX b c d e).bind λ(s,t,u)=>
   some (m,s,f,g,h,i,j,k,l,n,o,p,q,r,t,u,[],[])) λ(v,w,x,y,z,a0,b0,c0,d0,e0,f0,g0,h0,i0,j0,k0,l0,m0)=>
 Option.bind (α:=AlO) (
   if(!v)then
    some (true,x,y,z,a0,b0,c0,d0,e0,f0,g0,h0,i0,j0,k0,l0,m0)
   else
   if(!w)then
    some (true,x,y,z,a0,b0,c0,d0,e0,f0,g0,h0,i0,j0,k0,l0,m0)
   else
    (H7 j0 k0 l0 m0 h0).bind λc8=>
    some ((!c8),x,y,z,a0,b0,c0,d0,e0,f0,g0,h0,i0,j0,k0,l0,m0)) λ(n0,o0,p0,q0,r0,s0,t0,u0,v0,w0,y0,z0,a1,b1,d1,e1,f1)=>
 if n0 then
  some (false,0,0,0,0,0,[],[],[],[],[],0,[],[],[],[])
 else
  (PH b1 d1 e1 f1 z0).bind λc10=>
  (N8 b1 d1 e1 f1 z0).bind λc11=>
  (KY v0 w0 y0).bind λc12=>
  if decide (¬ (c10.1.length:Int)=(c12.length:Int))then
   some (false,0,0,0,0,0,[],[],[],[],[],0,[],[],[],[])
  else
   (Ab G9 (c10.1,c11.1,c12,(c10.1.length:Int),0,o0,p0,q0,r0,s0,t0,u0,v0,w0,y0,z0,a1,b1,d1,e1,f1)).bind λv16=>
   match v16 with
   | .inl (g1,h1,i1,j1,k1,l1,m1,n1,o1,p1,q1,r1,s1,t1,u1,v1,w1,y1)=>
    cZ (u1.length:Int) <|
    cK (decide ((u1.length:Int)<=(u1.length:Int))) <|
    cK (Aa ((u1.length:Int).toNat) 8) <|
    (B4 h1 u1 v1 w1 y1 [] [] (List.replicate ((u1.length:Int).toNat) (0:Int)) true).bind λ(_,z1,a2,b2,d2,e2,f2,g2,h2)=>
    (BL t1 z1 a2 b2 d2 e2 f2 g2 h2).bind λ(i2,j2,k2,l2,m2,n2,o2,p2,q2)=>
    (D7 p1 q1 r1 s1 t1 u1 v1 w1 y1 g1 0 [] [] [] [] 448).bind λc21=>
    (Cj c21 j2 k2 l2 m2 n2 o2 p2 q2).bind λ(r2,s2,t2,u2,v2,w2,y2,z2,a3)=>
    (LV r2).bind λc23=>
    Option.bind (α:=Aom) (
      if a3 then
       some (i1,j1,k1,l1,m1,n1,o1,p1,q1,r1,s1,t1,u1,v1,w1,y1,p1,q1,r1,s1,t1,u1,v1,w1,y1,g1,0,[],p1,i2,c23.1,s2,t2,u2,v2,w2,y2,z2,c23.2)
      else
      some (i1,j1,k1,l1,m1,n1,o1,p1,q1,r1,s1,t1,u1,v1,w1,y1,p1,q1,r1,s1,t1,u1,v1,w1,y1,g1,0,[],p1,i2,c23.1,s2,t2,u2,v2,w2,y2,z2,false)) λ(b3,c3,d3,e3,f3,g3,h3,i3,j3,k3,l3,m3,n3,o3,p3,q3,r3,s3,t3,u3,w3,y3,z3,a4,b4,c4,d4,e4,f4,g4,h4,i4,j4,k4,l4,m4,n4,o4,p4)=>
    (Ab G5 (i3,b3,c3,d3,e3,f3,g3,h3,i3,j3,k3,l3,m3,n3,o3,p3,q3,r3,s3,t3,u3,w3,y3,z3,a4,b4,c4,d4,e4,f4,g4,h4,[],i4,j4,k4,l4,m4,n4,o4,p4)).bind λ(q4,s4,t4,u4,v4,w4,x4,y4,z4,a5,b5,d5,e5,f5,g5,h5,i5,j5,k5,l5,m5,n5,o5,p5,q5,r5,s5,t5,u5,v5,w5,x5,y5,z5,a6,b6,d6,e6,f6,g6)=>
    Option.bind (α:=Amn) (
      if(!g6)then
       some (true,q4,s4,t4,u4,v4,w4,x4,y4,z4,a5,b5,d5,e5,f5,g5,h5,i5,j5,k5,l5,m5,n5,o5,p5,q5,r5,s5,t5,u5,v5,w5,x5,y5,z5,a6,b6,d6,e6,f6,g6)
      else
       (ID u5 v5 w5 x5).bind λc38=>
       some ((!c38),q4,s4,t4,u4,v4,w4,x4,y4,z4,a5,b5,d5,e5,f5,g5,h5,i5,j5,k5,l5,m5,n5,o5,p5,q5,r5,s5,t5,u5,v5,w5,x5,y5,z5,a6,b6,d6,e6,f6,g6)) λ(h6,i6,j6,k6,l6,m6,n6,o6,p6,q6,r6,s6,t6,u6,v6,w6,x6,y6,z6,a7,b7,c7,d7,e7,f7,g7,h7,i7,j7,k7,l7,m7,n7,o7,p7,q7,r7,s7,t7,u7,w7)=>
    if h6 then
     some (false,0,0,0,0,0,[],[],[],[],[],0,[],[],[],[])
    else
     (PY k7 l7 m7 n7).bind λc40=>
     (KH p6 q6).bind λc41=>
     (Ab FM (c40,c41,(c41.length:Int),0,i6,j6,k6,l6,m6,n6,o6,p6,q6,r6,s6,t6,u6,v6,w6,x6,y6,z6,a7,b7,c7,d7,e7,f7,g7,h7,i7,j7,k7,l7,m7,n7,o7,p7,q7,r7,s7,t7,u7,w7)).bind λv51=>
     match v51 with
     | .inl (x7,y7,z7,a8,b8,d8,e8,f8,g8,h8,i8,j8,k8,l8,m8,n8,o8,p8,q8,r8,s8,t8,u8,v8,w8,x8,y8,z8,a9,b9,c9,d9,e9,f9,g9,h9,i9,j9,k9,l9)=>
      (Ab FO (wI (f8+1),x7,y7,z7,a8,b8,d8,e8,f8,g8,h8,i8,j8,k8,l8,m8,n8,o8,p8,q8,r8,s8,t8,u8,v8,w8,x8,y8,z8,a9,b9,c9,d9,e9,f9,g9,h9,i9,j9,k9,l9)).bind λv58=>
      match v58 with
      | .inl (m9,n9,o9,p9,q9,r9,s9,t9,u9,w9,x9,y9,z9,a10,b10,d10,e10,f10,g10,h10,i10,j10,k10,l10,m10,n10,o10,p10,q10,r10,s10,t10,u10,v10,w10)=>
       (Ab Fy (v10,(v10.length:Int),0,m9,n9,o9,p9,q9,r9,s9,t9,u9,w9,x9,y9,z9,a10,b10,d10,e10,f10,g10,h10,i10,j10,k10,l10,m10,n10,o10,p10,q10,r10,s10,t10,u10,w10)).bind λv71=>
       match v71 with
       | .inl (_,_,_,_,_,_,_,x10,y10,z10,a11,b11,d11,e11,f11,g11,h11,_,_,i11,j11,k11,l11,_,_,_,_,_,m11,_,n11)=>
        some (n11,x10,y10,z10,a11,b11,d11,e11,f11,g11,h11,i11,j11,k11,l11,m11)
       | .inr (o11,p11,q11,r11,s11,t11,u11,v11)=>
        some (o11,p11,q11,r11,s11,t11,[],[],[],[],[],u11,v11,[],[],[])
      | .inr (w11,x11,y11,z11,a12,b12,d12,e12)=>
       some (w11,x11,y11,z11,a12,b12,[],[],[],[],[],d12,e12,[],[],[])
     | .inr (f12,g12,h12,i12,j12,k12,l12,m12)=>
      some (f12,g12,h12,i12,j12,k12,[],[],[],[],[],l12,m12,[],[],[])
   | .inr (n12,o12,p12,q12,r12,s12,t12,u12)=>
    some (n12,o12,p12,q12,r12,s12,[],[],[],[],[],t12,u12,[],[],[])
def EG (x0:LL) (x1:Int) (x2:Bool) (x3 x4 x5:Int):Option Ahx:=
 (DK x0 x1 x2 x3).bind λ(a,b,c,d,e,f,g,h,i,j,k,l,m,n,o,p)=>
 Option.bind (α:=Aoq) (
   if(!a)then
    some (x4,x5,true,x0,x1,x2,x3,0,0,0,0,0,0,[],b,c,d,e,f,g,h,i,j,k,l,m,n,o,p)
   else
   some (x4,x5,decide (999999900 < x1),x0,x1,x2,x3,0,0,0,0,0,0,[],b,c,d,e,f,g,h,i,j,k,l,m,n,o,p)) λ(q,r,s,_,_,t,_,u,v,w,x,y,z,a0,b0,c0,d0,e0,f0,g0,h0,i0,j0,k0,l0,m0,n0,o0,p0)=>
 if s then
  some (1,b0,c0,d0,e0,f0,g0,h0,i0,j0,k0,l0,m0,n0,o0,p0)
 else
 if(!t)then
  some (2,b0,c0,d0,e0,f0,g0,h0,i0,j0,k0,l0,m0,n0,o0,p0)
 else
  Option.bind (α:=AnM) (
    (BA q b0 r).bind λc3=>
    if(!c3)then
     some (true,u,v,w,x,y,z,a0,b0,c0,d0,e0,f0,g0,h0,i0,j0,k0,l0,m0,n0,o0,p0)
    else
    some (decide (c0 < r),u,v,w,x,y,z,a0,b0,c0,d0,e0,f0,g0,h0,i0,j0,k0,l0,m0,n0,o0,p0)) λ(q0,_,_,_,_,_,_,_,r0,s0,t0,u0,v0,w0,y0,z0,a1,b1,d1,e1,f1,g1,h1)=>
  if q0 then
   some (3,r0,s0,t0,u0,v0,w0,y0,z0,a1,b1,d1,e1,f1,g1,h1)
  else
   some (0,r0,s0,t0,u0,v0,w0,y0,z0,a1,b1,d1,e1,f1,g1,h1)
def J3 (y:(LB×List LB)):Option ((LB×List LB)⊕(LB×List LB)):=
 if decide (40 < (y.1.length:Int))then
  sX 0 40 (y.1.length:Int) (y.1.length) <|
  cK (Aa (y.2.length+([((y.1:LB).drop (Int.toNat 0)).take (Int.toNat 40 - Int.toNat 0)]:List LB).length) 16) <|
  sX 40 (y.1.length:Int) (y.1.length:Int) (y.1.length) <|
  some (.inl (((y.1:LB).drop (Int.toNat 40)).take ((y.1.length:Int).toNat - Int.toNat 40),y.2++([((y.1:LB).drop (Int.toNat 0)).take (Int.toNat 40 - Int.toNat 0)]:List LB)))
 else
  some (.inr (y.1,y.2))
def SG (x0:LB):Option (List LB):=
 (Ab J3 (x0,[])).bind λv1=>
 Option.bind (α:=List LB) (
  if(!((v1.1:LB) == ([]:LB)))then
   cK (Aa (v1.2.length+([v1.1]:List LB).length) 16) <|
   some (v1.2++([v1.1]:List LB))
  else
   some v1.2) λv2=>
 some v2
def GE (y:Ale):Option (Ale⊕LI):=
 if decide (y.2.2.2.2.1 < y.2.2.2.1)then
  cZ y.2.2.2.2.1 <|
  cK (decide (y.2.2.2.2.1 < (y.2.2.1.length:Int))) <|
  Option.bind (y.2.2.1[0+y.2.2.2.2.1.toNat]?) λr13=>
  Option.bind (α:=Aox) (
   if decide (y.2.2.2.2.1 < (y.1.length:Int))then
    cZ y.2.2.2.2.1 <|
    cK (decide (y.2.2.2.2.1 < (y.1.length:Int))) <|
    Option.bind (y.1[0+y.2.2.2.2.1.toNat]?) λr14=>
    (Lk y.2.2.2.2.2.1 y.2.2.2.2.2.2.1 y.2.2.2.2.2.2.2.1 y.2.2.2.2.2.2.2.2 r14).bind λc15=>
    if((c15:LB) == r13)then
     cZ y.2.2.2.2.1 <|
     cK (decide (y.2.2.2.2.1 < (y.1.length:Int))) <|
     Option.bind (y.1[0+y.2.2.2.2.1.toNat]?) λr16=>
     gX y.2.2.2.2.2.1 r16 λr17=>
     gX r17 1 λr18=>
     some (y.1,y.2.1,y.2.2.2.2.1,0,y.2.2.1,y.2.2.2.1,y.2.2.2.2.1,decide (r18 < 250),y.2.2.2.2.2.1,y.2.2.2.2.2.2.1,y.2.2.2.2.2.2.2.1,y.2.2.2.2.2.2.2.2)
    else
    some (y.1,y.2.1,y.2.2.2.2.1,0,y.2.2.1,y.2.2.2.1,y.2.2.2.2.1,false,y.2.2.2.2.2.1,y.2.2.2.2.2.2.1,y.2.2.2.2.2.2.2.1,y.2.2.2.2.2.2.2.2)
   else
   some (y.1,y.2.1,y.2.2.2.2.1,0,y.2.2.1,y.2.2.2.1,y.2.2.2.2.1,false,y.2.2.2.2.2.1,y.2.2.2.2.2.2.1,y.2.2.2.2.2.2.2.1,y.2.2.2.2.2.2.2.2)) λv19=>
  Option.bind (α:=An8) (
   if v19.2.2.2.2.2.2.2.1 then
    cZ v19.2.2.1 <|
    cK (decide (v19.2.2.1 < (v19.1.length:Int))) <|
    Option.bind (v19.1[0+v19.2.2.1.toNat]?) λr20=>
    some (v19.1,v19.2.1,r20,v19.2.2.2.2.1,v19.2.2.2.2.2.1,v19.2.2.2.2.2.2.1,v19.2.2.2.2.2.2.2.2.1,v19.2.2.2.2.2.2.2.2.2.1,v19.2.2.2.2.2.2.2.2.2.2.1,v19.2.2.2.2.2.2.2.2.2.2.2)
   else
    some (v19.1,v19.2.1,v19.2.2.2.1,v19.2.2.2.2.1,v19.2.2.2.2.2.1,v19.2.2.2.2.2.2.1,v19.2.2.2.2.2.2.2.2.1,v19.2.2.2.2.2.2.2.2.2.1,v19.2.2.2.2.2.2.2.2.2.2.1,v19.2.2.2.2.2.2.2.2.2.2.2)) λv21=>
  cK (Aa (v21.2.1.length+([v21.2.2.1]:LI).length) 8) <|
  some (.inl (v21.1,v21.2.1++([v21.2.2.1]:LI),v21.2.2.2.1,v21.2.2.2.2.1,wI (v21.2.2.2.2.2.1+1),v21.2.2.2.2.2.2.1,v21.2.2.2.2.2.2.2.1,v21.2.2.2.2.2.2.2.2.1,v21.2.2.2.2.2.2.2.2.2))
 else
  some (.inr y.2.1)
def LM (x0:LL) (x1 x2 x3:LI) (x4:LB) (x5:Int):Option LI:=
 Option.bind (α:=U99) (
  if decide (¬ x5=0)then
   (Jz x0 x1 x2 x3 x5).bind λc1=>
   some (x4,c1.1,x0,x1,x2,x3)
  else
   some (x4,[],x0,x1,x2,x3)) λv2=>
 (SG v2.1).bind λc3=>
 (Ab GE (v2.2.1,[],c3,(c3.length:Int),0,v2.2.2.1,v2.2.2.2.1,v2.2.2.2.2.1,v2.2.2.2.2.2)).bind λv22=>
 some v22
def ET (y:(Int×(LI×(Int×Int)))):Option ((Int×(LI×(Int×Int)))⊕Int):=
 if decide (y.2.2.2 < y.2.2.1)then
  cZ y.2.2.2 <|
  cK (decide (y.2.2.2 < (y.2.1.length:Int))) <|
  Option.bind (y.2.1[0+y.2.2.2.toNat]?) λr2=>
  Option.bind (α:=(Int×(LI×(Int×Int)))) (
   if decide (r2=0)then
    some (wI (y.1+1),y.2.1,y.2.2.1,y.2.2.2)
   else
    some (y.1,y.2.1,y.2.2.1,y.2.2.2)) λv3=>
  some (.inl (v3.1,v3.2.1,v3.2.2.1,wI (v3.2.2.2+1)))
 else
  some (.inr y.1)
def JR (x0:LL) (x1 x2 x3:LI) (x4:LB) (x5:Int):Option (Int):=
 (LM x0 x1 x2 x3 x4 x5).bind λc1=>
 (Ab ET (1,c1,(c1.length:Int),0)).bind λv4=>
 some v4
def Ii (y:Alb):Option (Alb⊕U39):=
 if decide (y.2.1 < y.2.2.2.2.2.2)then
  cK (Aa (y.1.length+([y.2.2.2.2.2.1]:LI).length) 8) <|
  some (.inl (y.1++([y.2.2.2.2.2.1]:LI),wI (y.2.1+1),y.2.2.1,y.2.2.2.1,y.2.2.2.2.1,y.2.2.2.2.2.1,y.2.2.2.2.2.2))
 else
  some (.inr (y.1,y.2.2.1,y.2.2.2.1,y.2.2.2.2.1))
def Iy (y:U39):Option (U39⊕LI):=
 if decide (y.2.2.2 < y.2.2.1)then
  gX y.2.1 y.2.2.2 λr3=>
  (Ab Ii (y.1,0,y.2.1,y.2.2.1,y.2.2.2,r3.1,r3.2)).bind λv4=>
  some (.inl (v4.1,v4.2.1,v4.2.2.1,wI (v4.2.2.2+1)))
 else
  some (.inr y.1)
def PM (x0:List (Int×Int)):Option LI:=
 (Ab Iy ([],x0,(x0.length:Int),0)).bind λv5=>
 some v5
def O5 (x0:List (Int×Int)) (x1 x2:Int):Option (List (Int×Int)):=
 if decide (x2=0)then
  some x0
 else
  Option.bind (α:=U61) (
    if decide (0 < (x0.length:Int))then
     cZ (wI ((x0.length:Int) - 1)) <|
     cK (decide (wI ((x0.length:Int) - 1) < (x0.length:Int))) <|
     Option.bind (x0[0+(wI ((x0.length:Int) - 1)).toNat]?) λr1=>
     some (x0,(x0.length:Int),decide (r1.1=x1),x1,x2)
    else
    some (x0,(x0.length:Int),false,x1,x2)) λv2=>
  if v2.2.2.1 then
   cZ (wI (v2.2.1 - 1)) <|
   cK (decide (wI (v2.2.1 - 1) < (v2.1.length:Int))) <|
   Option.bind (v2.1[0+(wI (v2.2.1 - 1)).toNat]?) λr3=>
   cZ (wI (v2.2.1 - 1)) <|
   cK (decide (wI (v2.2.1 - 1) < (v2.1.length:Int))) <|
   Option.bind (v2.1[0+(wI (v2.2.1 - 1)).toNat]?) λr4=>
   Option.bind (v2.1[0+(wI (v2.2.1 - 1)).toNat]?) λr5=>
   some (v2.1.set (0+(wI (v2.2.1 - 1)).toNat) (r5.1,wI (r3.2+v2.2.2.2.2)))
  else
  cK (Aa (v2.1.length+([(v2.2.2.2.1,v2.2.2.2.2)]:List (Int×Int)).length) 16) <|
  some (v2.1++([(v2.2.2.2.1,v2.2.2.2.2)]:List (Int×Int)))
def G6 (y:AkT):Option (AkT⊕AnW):=
 if decide (y.2.2.2.2.1 < y.2.2.2.2.2.2.2.2.1)then
  cZ (wI (y.2.2.2.1+y.2.2.2.2.1)) <|
  cK (decide (wI (y.2.2.2.1+y.2.2.2.2.1) < (y.2.1.length:Int))) <|
  Option.bind (y.2.1[0+(wI (y.2.2.2.1+y.2.2.2.2.1)).toNat]?) λr10=>
  (O5 y.2.2.1 r10 1).bind λc11=>
  some (.inl (y.1,y.2.1,c11,y.2.2.2.1,wI (y.2.2.2.2.1+1),y.2.2.2.2.2.1,y.2.2.2.2.2.2.1,y.2.2.2.2.2.2.2.1,y.2.2.2.2.2.2.2.2.1,y.2.2.2.2.2.2.2.2.2.1,y.2.2.2.2.2.2.2.2.2.2))
 else
  some (.inr (y.1,y.2.1,y.2.2.1,y.2.2.2.1,y.2.2.2.2.2.1,y.2.2.2.2.2.2.1,y.2.2.2.2.2.2.2.1,y.2.2.2.2.2.2.2.2.1,y.2.2.2.2.2.2.2.2.2.1,y.2.2.2.2.2.2.2.2.2.2))
def HA (y:AlZ):Option (AlZ⊕(List (Int×Int))):=
 if decide (y.2.2.2.2.2.2 < y.2.2.2.2.2.1)then
  gX y.2.2.2.2.1 y.2.2.2.2.2.2 λr9=>
  (Ab G6 (y.1,y.2.1,y.2.2.1,y.2.2.2.1,0,y.2.2.2.2.1,y.2.2.2.2.2.1,y.2.2.2.2.2.2,r9.1,r9.2.1,r9.2.2)).bind λv12=>
  (O5 v12.2.2.1 v12.1 (v12.2.2.2.2.2.2.2.2.2.length:Int)).bind λc13=>
  some (.inl (v12.1,v12.2.1,c13,wI (v12.2.2.2.1+(wI (v12.2.2.2.2.2.2.2.1+v12.2.2.2.2.2.2.2.2.1))),v12.2.2.2.2.1,v12.2.2.2.2.2.1,wI (v12.2.2.2.2.2.2.1+1)))
 else
  some (.inr y.2.2.1)
def NK (x0:List (Int×Int)) (x1:List (Int×(Int×LB))) (x2:Int):Option (List (Int×Int)):=
 (PM x0).bind λc1=>
 (Ab HA (x2,c1,[],0,x1,(x1.length:Int),0)).bind λv14=>
 some v14
def GC (y:Ad4):Option (Ad4⊕(List (Int×Int))):=
 if decide (y.2.2.2.1 < y.2.2.1)then
  gX y.2.1 y.2.2.2.1 λr1=>
  (NK y.1 r1 (wI ((wI (y.2.2.2.2.1+y.2.2.2.1))+1))).bind λc2=>
  some (.inl (c2,y.2.1,y.2.2.1,wI (y.2.2.2.1+1),y.2.2.2.2.1,y.2.2.2.2.2.1,y.2.2.2.2.2.2.1,y.2.2.2.2.2.2.2))
 else
  some (.inr y.1)
def LT (x0:Int) (x1:LB) (x2:List (Int×Int)) (x3:List (List (Int×(Int×LB)))) (x4:Int):Option (List (Int×Int)):=
 cK (Aa (([]:List (Int×Int)).length+x2.length) 16) <|
 sX 0 (wI (x4 - x0)) (x3.length:Int) (x3.length) <|
 (Ab GC (([]:List (Int×Int))++x2,(List.drop (Int.toNat 0) x3).take ((wI (x4 - x0)).toNat - Int.toNat 0),(((List.drop (Int.toNat 0) x3).take ((wI (x4 - x0)).toNat - Int.toNat 0)).length:Int),0,x0,x1,x2,x3)).bind λv3=>
 some v3
def PB (x0:Int):Option (Int):=
 if decide (x0=0)then
  some 1
 else
 cK (decide (¬ (124:Int)=0)) <|
 some (wI (Int.tdiv (wI ((wI (x0+124)) - 1)) 124))
def KM (y:U64):Option (U64⊕(List (Int×Int))):=match y with
 | (a,b,c,d,e)=>
 if decide (e < d)then
  cZ e <|
  cK (decide (e < (c.length:Int))) <|
  Option.bind (c[0+e.toNat]?) λr5=>
  Option.bind (c[0+e.toNat]?) λr6=>
  cZ (IntKind.wrap .u64 r5.1) <|
  Option.bind (α:=U64) (
   if decide (wI (r6.2 * 2 ^ (min ((IntKind.wrap .u64 r5.1).toNat) (IntKind.bits .i64))) < a)then
    cK (Aa (b.length+([(r5.1,r6.2)]:List (Int×Int)).length) 16) <|
    some (a,b++([(r5.1,r6.2)]:List (Int×Int)),c,d,e)
   else
    some (a,b,c,d,e)) λ(f,g,h,i,j)=>
  some (.inl (f,g,h,i,wI (j+1)))
 else
  some (.inr b)
def PJ (x0 x1 x2:Int):Option (List (Int×Int)):=
 (KH x0 x1).bind λc1=>
 (Ab KM (x2,[],c1,(c1.length:Int),0)).bind λv8=>
 some v8
def HH (y:Alr):Option (Alr⊕Ano):=match y with
 | (a,b,c,d,e,f,g,h,i,j,k,l,m,n,o,p,q,r,s,t)=>
 if decide (e < d)then
  cZ e <|
  cK (decide (e < (c.length:Int))) <|
  Option.bind (c[0+e.toNat]?) λr5=>
  Option.bind (c[0+e.toNat]?) λr6=>
  (FW r5.1 r6.2).bind λc7=>
  cK (Aa (b.length+([c7]:LI).length) 8) <|
  some (.inl (a,b++([c7]:LI),c,d,wI (e+1),f,g,h,i,j,k,l,m,n,o,p,q,r,s,t))
 else
  some (.inr (a,b,f,g,h,i,j,k,l,m,n,o,p,q,r,s,t))
def Hr (y:Aiv):Option (Aiv⊕LI):=match y with
 | (a,b,c,d,e,f,g,h,i,j,k,l,m,n,o,p,q,r)=>
 if decide (c<=a)then
  cK (decide (¬ f=0)) <|
  Option.bind (α:=Aiv) (
   if decide (Int.tmod c f=0)then
    cK (Aa (b.length+([wI (384+c)]:LI).length) 8) <|
    some (a,b++([wI (384+c)]:LI),c,d,e,f,g,h,i,j,k,l,m,n,o,p,q,r)
   else
    some (a,b,c,d,e,f,g,h,i,j,k,l,m,n,o,p,q,r)) λ(s,t,u,v,w,x,z,a0,b0,c0,d0,e0,f0,g0,h0,i0,j0,k0)=>
  some (.inl (s,t,wI (u+1),v,w,x,z,a0,b0,c0,d0,e0,f0,g0,h0,i0,j0,k0))
 else
  some (.inr b)
def NZ (x0 x1 x2 x3 x4:Int) (x5:LL) (x6 x7 x8:LI) (x9:List (Int×Int)) (x10:Int) (x11:LB) (x12:List (Int×Int)) (x13:List (List (Int×(Int×LB)))) (x14:LI) (x15:Int):Option LI:=
 (PJ x0 x1 x15).bind λc1=>
 (Ab HH (x15,[],c1,(c1.length:Int),0,x0,x1,x2,x3,x4,x5,x6,x7,x8,x9,x10,x11,x12,x13,x14)).bind λ(a,b,c,d,e,f,g,h,i,j,k,l,m,n,o,p,q)=>
 (Ab Hr (a,b,wI (c+1),c,d,e,f,g,h,i,j,k,l,m,n,o,p,q)).bind λv10=>
 some v10
def D1 (y:U58):Option (U58⊕(Int×LI)):=match y with
 | (a,b,c,d,e)=>
 if decide (e < d)then
  gX c e λr3=>
  (CY b r3).bind λc4=>
  some (.inl (a,c4,c,d,wI (e+1)))
 else
  some (.inr (a,b))
def D6 (y:U62):Option (U62⊕(Int×List (Int×Int))):=match y with
 | (a,b,c,d,e)=>
 if decide (e < d)then
  cZ e <|
  cK (decide (e < (c.length:Int))) <|
  Option.bind (c[0+e.toNat]?) λr7=>
  cK (Aa (b.length+([(r7,0)]:List (Int×Int)).length) 16) <|
  some (.inl (a,b++([(r7,0)]:List (Int×Int)),c,d,wI (e+1)))
 else
  some (.inr (a,b))
def HW (x0:LI) (x1:Int):Option (List (Int×Int)):=
 (Ab D1 (x1,[],x0,(x0.length:Int),0)).bind λv5=>
 (Ab D6 (v5.1,[],v5.2,(v5.2.length:Int),0)).bind λv8=>
 cK (Aa (v8.2.length+([(448,v8.1)]:List (Int×Int)).length) 16) <|
 some (v8.2++([(448,v8.1)]:List (Int×Int)))
def He (y:U72):Option (U72⊕(LL×List Bool)):=
 if decide (y.2.2.2.2 < y.2.2.2.1)then
  gX y.2.2.1 y.2.2.2.2 λr2=>
  cK (decide (¬ (32:Int)=0)) <|
  cZ (wI (Int.tdiv r2.1 32)) <|
  cK (decide (wI (Int.tdiv r2.1 32) < (y.2.1.length:Int))) <|
  Option.bind (y.2.1[0+(wI (Int.tdiv r2.1 32)).toNat]?) λr3=>
  Option.bind (y.2.1[0+(wI (Int.tdiv r2.1 32)).toNat]?) λr4=>
  cZ (wI (Int.tdiv r2.1 32)) <|
  cK (decide (wI (Int.tdiv r2.1 32) < (y.1.length:Int))) <|
  Option.bind (y.1[0+(wI (Int.tdiv r2.1 32)).toNat]?) λr5=>
  Option.bind (y.1[0+(wI (Int.tdiv r2.1 32)).toNat]?) λr6=>
  Option.bind (α:=AnS) (
   if decide ((r6.length:Int)=0)then
    cZ 32 <|
    cK (decide ((32:Int)<=32)) <|
    cK (Aa (Int.toNat 32) 8) <|
    cZ (wI (Int.tdiv r2.1 32)) <|
    cK (decide (wI (Int.tdiv r2.1 32) < (y.1.length:Int))) <|
    Option.bind (y.1[0+(wI (Int.tdiv r2.1 32)).toNat]?) λr7=>
    Option.bind (y.1[0+(wI (Int.tdiv r2.1 32)).toNat]?) λr8=>
    some (y.1.set (0+(wI (Int.tdiv r2.1 32)).toNat) (List.replicate (Int.toNat 32) (0:Int)),y.2.1.set (0+(wI (Int.tdiv r2.1 32)).toNat) true,wI (Int.tdiv r2.1 32),y.2.2.1,y.2.2.2.1,y.2.2.2.2,r2.1,r2.2)
   else
    some (y.1,y.2.1.set (0+(wI (Int.tdiv r2.1 32)).toNat) true,wI (Int.tdiv r2.1 32),y.2.2.1,y.2.2.2.1,y.2.2.2.2,r2.1,r2.2)) λv9=>
  cZ v9.2.2.1 <|
  cK (decide (v9.2.2.1 < (v9.1.length:Int))) <|
  Option.bind (v9.1[0+v9.2.2.1.toNat]?) λr10=>
  cK (decide (¬ (32:Int)=0)) <|
  cZ (Int.tmod v9.2.2.2.2.2.2.1 32) <|
  Option.bind (v9.1[0+v9.2.2.1.toNat]?) λr11=>
  cK (decide (Int.tmod v9.2.2.2.2.2.2.1 32 < (r11.length:Int))) <|
  Option.bind (v9.1[0+v9.2.2.1.toNat]?) λr12=>
  Option.bind (r12[0+(Int.tmod v9.2.2.2.2.2.2.1 32).toNat]?) λr13=>
  Option.bind (v9.1[0+v9.2.2.1.toNat]?) λr14=>
  Option.bind (r14[0+(Int.tmod v9.2.2.2.2.2.2.1 32).toNat]?) λr15=>
  some (.inl (v9.1.set (0+v9.2.2.1.toNat) (r14.set (0+(Int.tmod v9.2.2.2.2.2.2.1 32).toNat) v9.2.2.2.2.2.2.2),v9.2.1,v9.2.2.2.1,v9.2.2.2.2.1,wI (v9.2.2.2.2.2.1+1)))
 else
  some (.inr (y.1,y.2.1))
def NB (x0:LL) (x1 x2 x3:LI) (x4:Int) (x5:List (Int×Int)):Option ((LL×List Bool)):=
 (IR x0 x1 x2 x3 x4).bind λc1=>
 cZ 32 <|
 cK (decide ((32:Int)<=32)) <|
 cK (Aa (Int.toNat 32) 1) <|
 (Ab He (c1.1,List.replicate (Int.toNat 32) (false:Bool),x5,(x5.length:Int),0)).bind λv16=>
 some (v16.1,v16.2)
def KN (y:U86):Option (U86⊕(Int×Int)):=
 if decide (y.2.2.2.2.2 < y.2.2.2.2.1)then
  cZ y.2.2.2.2.2 <|
  cK (decide (y.2.2.2.2.2 < (y.2.2.2.1.length:Int))) <|
  Option.bind (y.2.2.2.1[0+y.2.2.2.2.2.toNat]?) λr2=>
  Option.bind (y.2.2.2.1[0+y.2.2.2.2.2.toNat]?) λr3=>
  (Mr r3).bind λc4=>
  Option.bind (α:=U86) (
   if c4 then
    cZ y.2.2.2.2.2 <|
    cK (decide (y.2.2.2.2.2 < (y.1.length:Int))) <|
    Option.bind (y.1[0+y.2.2.2.2.2.toNat]?) λr5=>
    Option.bind (α:=U86) (
     if r5 then
      some (y.1,wI (y.2.1+1),1,y.2.2.2.1,y.2.2.2.2.1,y.2.2.2.2.2)
     else
      some (y.1,y.2.1,1,y.2.2.2.1,y.2.2.2.2.1,y.2.2.2.2.2)) λv6=>
    some (v6.1,v6.2.1,v6.2.2.1,v6.2.2.2.1,v6.2.2.2.2.1,v6.2.2.2.2.2)
   else
    some (y.1,y.2.1,y.2.2.1,y.2.2.2.1,y.2.2.2.2.1,y.2.2.2.2.2)) λv7=>
  some (.inl (v7.1,v7.2.1,v7.2.2.1,v7.2.2.2.1,v7.2.2.2.2.1,wI (v7.2.2.2.2.2+1)))
 else
  some (.inr (y.2.1,y.2.2.1))
def Qh (x0:LL) (x1 x2 x3:LI) (x4:Int) (x5:List (Int×Int)):Option (Int):=
 if decide ((x5.length:Int)=0)then
  some 0
 else
  (NB x0 x1 x2 x3 x4 x5).bind λc1=>
  (Ab KN (c1.2,0,0,c1.1,(c1.1.length:Int),0)).bind λv8=>
  some (wI (v8.1+v8.2))
def Fw (x0 x1 x2 x3 x4:Int) (x5:LL) (x6 x7 x8:LI) (x9:List (Int×Int)) (x10:Int) (x11:LB) (x12:List (Int×Int)) (x13:List (List (Int×(Int×LB)))) (x14:LI) (x15:Int):Option (Int):=
 if decide (x15=x0)then
  some 0
 else
  (K7 x10 x11 x12 x13 x15).bind λc1=>
  (JR x5 x6 x7 x8 c1 x4).bind λc2=>
  (LT x10 x11 x12 x13 x15).bind λc3=>
  (PB (wI (2 * (c3.length:Int)))).bind λc4=>
  (NZ x0 x1 x2 x3 x4 x5 x6 x7 x8 x9 x10 x11 x12 x13 x14 x15).bind λc5=>
  (HW c5 x4).bind λc6=>
  (Qh x5 x6 x7 x8 x3 c6).bind λc7=>
  some (wI ((wI (c2+c4))+c7))
def DY (x0:LL) (x1:Int) (x2:Bool) (x3 x4:Int):Option ((Int×Int)):=
 (EG x0 x1 x2 x3 x4 x4).bind λ(a,b,c,d,e,f,g,h,i,j,k,l,m,n,o,p)=>
 if decide (¬ a=0)then
  some (0,a)
 else
  (Fw b c d e f g h i j k l m n o p x4).bind λc2=>
  some (c2,0)
def Bp (x0 x1 x2:Int):Option (Bool):=
 Option.bind (α:=Bool) (
  if decide (x1<=x0)then
   some (decide (x0<=x2))
  else
  some false) λv1=>
 some v1
def Qp (x0:LI):Option (Bool):=
 some (decide (¬ (x0.length:Int)=128))
def CO (y:(LL×(Int×Int))):Option ((LL×(Int×Int))⊕(Unit⊕Int)):=
 if decide (y.2.2 < y.2.1)then
  gX y.1 y.2.2 λr1=>
  (Qp r1).bind λc2=>
  if c2 then
   some (.inr (.inr y.2.2))
  else
   some (.inl (y.1,y.2.1,wI (y.2.2+1)))
 else
  some (.inr (.inl ()))
def Bk (x0:LL):Option (Int):=
 (Ab CO (x0,(x0.length:Int),0)).bind λv3=>
 match v3 with
 | .inl y4=>
  some (-1)
 | .inr s5=>
  some s5
def Bi (x0:LL):Option (Bool):=
 (Bk x0).bind λc1=>
 some (decide (0<=c1))
def GM (x0:LL):Option (Bool):=
 Option.bind (α:=Bool) (
  (Bp (x0.length:Int) 40 160).bind λc1=>
  if c1 then
   (Bi x0).bind λc2=>
   some (!c2)
  else
  some false) λv3=>
 some v3
def H5 (x0:LL) (x1:Int) (x2:Bool) (x3:Int):Option (Bool):=
 Option.bind (α:=Bool) (
  (GM x0).bind λc1=>
  if c1 then
   (Bp x1 0 1000000000).bind λc2=>
   if c2 then
    (Bp x3 (-1) 1000000).bind λc3=>
    some c3
   else
   some false
  else
  some false) λv4=>
 some v4
def CL (x0:LI) (x1:Int):Option (Int):=
 gX x0 x1 λr1=>
 cZ 8 <|
 gX x0 (wI (x1+1)) λr2=>
 some (wI (((BitVec.ofInt (IntKind.bits .i64) (wI ((IntKind.wrap .i64 r1) * 2 ^ (min (Int.toNat 8) (IntKind.bits .i64)))) ||| BitVec.ofInt (IntKind.bits .i64) (IntKind.wrap .i64 r2)).toNat:Int)))
def HC (y:U50):Option (U50⊕(List (Int×LI)⊕Bool)):=match y with
 | (a,b,c,d)=>
 if decide (d < c)then
  gX b d λr1=>
  Option.bind (α:=U76) (
    if decide (r1.1 < 0)then
     some (a,b,c,d,true)
    else
    if decide (160<=r1.1)then
     some (a,b,c,d,true)
    else
    if decide (1 < r1.1)then
     if decide (r1.1 < 33)then
      some (a,b,c,d,true)
     else
     if decide (0 < d)then
      gX a (wI (d - 1)) λr2=>
      if decide (r1.1<=r2.1)then
       some (a,b,c,d,true)
      else
      some (a,b,c,d,decide (¬ (r1.2.length:Int)=128))
     else
     some (a,b,c,d,decide (¬ (r1.2.length:Int)=128))
    else
    if decide (0 < d)then
     gX a (wI (d - 1)) λr4=>
     if decide (r1.1<=r4.1)then
      some (a,b,c,d,true)
     else
     some (a,b,c,d,decide (¬ (r1.2.length:Int)=128))
    else
    some (a,b,c,d,decide (¬ (r1.2.length:Int)=128))) λ(e,f,g,h,i)=>
  if i then
   some (.inr (.inr false))
  else
   some (.inl (e,f,g,wI (h+1)))
 else
  some (.inr (.inl a))
def NM (x0:List (Int×LI)):Option (Bool):=
 (Ab HC (x0,x0,(x0.length:Int),0)).bind λv6=>
 match v6 with
 | .inl y7=>
  (Bp (y7.length:Int) 1 30).bind λc9=>
  some c9
 | .inr s8=>
  some s8
def P6 (x0:LL) (x1:Int) (x2:Bool) (x3 x4:Int):Option (Bool):=
 (Bp x4 0 (wI ((x0.length:Int) - 1))).bind λc1=>
 some c1
def KO (x0:LL) (x1:Int) (x2:Bool) (x3:Int) (x4:List (Int×LI)):Option (Bool):=
 Option.bind (α:=Bool) (
  (H5 x0 x1 x2 x3).bind λc1=>
  if c1 then
   (NM x4).bind λc2=>
   if c2 then
    gX x4 (wI ((x4.length:Int) - 1)) λr3=>
    (P6 x0 x1 x2 x3 r3.1).bind λc4=>
    some c4
   else
   some false
  else
  some false) λv5=>
 some v5
def JY (x0:Int):Option LI:=
 cZ 8 <|
 some [wB (Int.fdiv x0 (2 ^ (min (Int.toNat 8) (IntKind.bits .i64)))),IntKind.wrap .u8 x0]
def Gh (x0:LI) (x1:Int):Option LI:=
 cZ (wI (x1 - (x0.length:Int))) <|
 cK (Aa (x0.length+(List.replicate ((wI (x1 - (x0.length:Int))).toNat) (0:Int)).length) 1) <|
 some (x0++(List.replicate ((wI (x1 - (x0.length:Int))).toNat) (0:Int)))
def Is (y:(Int×(LI×(Int×Int)))):Option ((Int×(LI×(Int×Int)))⊕Int):=
 if decide (y.2.2.2 < y.2.2.1)then
  gX y.2.1 y.2.2.2 λr1=>
  some (.inl (IntKind.wrap .u32 ((IntKind.wrap .u32 (((BitVec.ofInt (IntKind.bits .u32) y.1 ^^^ BitVec.ofInt (IntKind.bits .u32) (IntKind.wrap .u32 r1)).toNat:Int))) * 16777619),y.2.1,y.2.2.1,wI (y.2.2.2+1)))
 else
  some (.inr y.1)
def MS (x0:Int) (x1:LI):Option (Int):=
 (Ab Is (x0,x1,(x1.length:Int),0)).bind λv2=>
 some v2
def J6 (x0:LI):Option (Int):=
 (MS 2166136261 x0).bind λc1=>
 some c1
def Vg (x0:Int):Option LI:=
 cZ 24 <|
 cZ 16 <|
 cZ 8 <|
 some [wB (Int.fdiv x0 (2 ^ (min (Int.toNat 24) (IntKind.bits .u32)))),wB (Int.fdiv x0 (2 ^ (min (Int.toNat 16) (IntKind.bits .u32)))),wB (Int.fdiv x0 (2 ^ (min (Int.toNat 8) (IntKind.bits .u32)))),IntKind.wrap .u8 x0]
def Ie (y:U77):Option (U77⊕U3):=
 if decide (y.2.2.2.2 < y.2.2.2.1)then
  gX y.2.2.1 y.2.2.2.2 λr1=>
  (JY r1.1).bind λc2=>
  cK (Aa (y.2.1.length+c2.length) 1) <|
  some (.inl (y.1,y.2.1++c2,y.2.2.1,y.2.2.2.1,wI (y.2.2.2.2+1)))
 else
  some (.inr (y.1,y.2.1))
def Iv (y:U63):Option (U63⊕(LI×Int)):=
 if decide (y.2.2.2.2 < y.2.2.2.1)then
  gX y.2.2.1 y.2.2.2.2 λr6=>
  (MS y.2.1 r6.2).bind λc7=>
  some (.inl (y.1,c7,y.2.2.1,y.2.2.2.1,wI (y.2.2.2.2+1)))
 else
  some (.inr (y.1,y.2.1))
def Ql (x0:List (Int×LI)):Option LI:=
 (Ab Ie (x0,[76,79,71,49,wB (x0.length:Int)],x0,(x0.length:Int),0)).bind λv3=>
 (Gh v3.2 124).bind λc4=>
 (J6 c4).bind λc5=>
 (Ab Iv (c4,c5,v3.1,(v3.1.length:Int),0)).bind λv8=>
 (Vg v8.2).bind λc9=>
 cK (Aa (v8.1.length+c9.length) 1) <|
 some (v8.1++c9)
def C2 (y:U32):Option (U32⊕(Unit⊕Bool)):=
 if decide (y.2.2.2 < y.2.2.1)then
  gX y.1 y.2.2.2 λr1=>
  gX y.2.1 y.2.2.2 λr2=>
  if decide (¬ r1=r2)then
   some (.inr (.inr false))
  else
   some (.inl (y.1,y.2.1,y.2.2.1,wI (y.2.2.2+1)))
 else
  some (.inr (.inl ()))
def CH (x0 x1:LI):Option (Bool):=
 if decide (¬ (x0.length:Int)=(x1.length:Int))then
  some false
 else
  (Ab C2 (x0,x1,(x0.length:Int),0)).bind λv3=>
  match v3 with
  | .inl y4=>
   some true
  | .inr s5=>
   some s5
def D5 (y:Amg):Option (Amg⊕U95):=match y with
 | (a,b,c,d,e,f,g,h)=>
 if decide (d < c)then
  (CL a (wI (5+(wI (2 * d))))).bind λc4=>
  gX e (wI (3+d)) λr5=>
  cK (Aa (b.length+([(c4,r5)]:List (Int×LI)).length) 32) <|
  some (.inl (a,b++([(c4,r5)]:List (Int×LI)),c,wI (d+1),e,f,g,h))
 else
  some (.inr (a,b,e,f,g,h))
def HR (x0:LL) (x1:Int) (x2:Bool) (x3:Int):Option (List (Int×LI)):=
 gX x0 2 λr1=>
 gX r1 4 λr2=>
 (Bp (IntKind.wrap .i64 r2) 1 30).bind λc3=>
 if(!c3)then
  some []
 else
  (Ab D5 (r1,[],IntKind.wrap .i64 r2,0,x0,x1,x2,x3)).bind λ(a,b,c,d,e,f)=>
  Option.bind (α:=(List (Int×LI)×Bool)) (
    (KO c d e f b).bind λc7=>
    if(!c7)then
     some (b,true)
    else
     (Ql b).bind λc8=>
     (CH c8 a).bind λc9=>
     some (b,(!c9))) λv10=>
  if v10.2 then
   some []
  else
   some v10.1
def In (x0 x1:Int):Option (Bool):=
 Option.bind (α:=Bool) (
  if decide (0<=x0)then
   if decide (x0<=x1)then
    some (decide (x1<=60))
   else
   some false
  else
  some false) λv1=>
 some v1
def Lu (x0:Int):Option (Bool):=
 (Bp x0 33 159).bind λc1=>
 some c1
def FJ (x0 x1 x2 x3 x4:Int):Option ((LI×Bool)):=
 Option.bind (α:=U83) (
   (In x0 x1).bind λc1=>
   if(!c1)then
    some (true,x0,x1,x2,x3,x4)
   else
    (Bp x2 1 30).bind λc2=>
    if(!c2)then
     some (true,x0,x1,x2,x3,x4)
    else
     (Lu x3).bind λc3=>
     if(!c3)then
      some (true,x0,x1,x2,x3,x4)
     else
      (Lu x4).bind λc4=>
      some ((!c4),x0,x1,x2,x3,x4)) λv5=>
 if v5.1 then
  some ([],false)
 else
  (JY v5.2.2.2.2.1).bind λc6=>
  cK (Aa (([83,84,82,49,IntKind.wrap .u8 v5.2.1,IntKind.wrap .u8 v5.2.2.1,IntKind.wrap .u8 v5.2.2.2.1,0]:LI).length+c6.length) 1) <|
  (JY v5.2.2.2.2.2).bind λc7=>
  cK (Aa ((([83,84,82,49,IntKind.wrap .u8 v5.2.1,IntKind.wrap .u8 v5.2.2.1,IntKind.wrap .u8 v5.2.2.2.1,0]:LI)++c6).length+c7.length) 1) <|
  (Gh ((([83,84,82,49,IntKind.wrap .u8 v5.2.1,IntKind.wrap .u8 v5.2.2.1,IntKind.wrap .u8 v5.2.2.2.1,0]:LI)++c6)++c7) 124).bind λc8=>
  (J6 c8).bind λc9=>
  (Vg c9).bind λc10=>
  cK (Aa (c8.length+c10.length) 1) <|
  some (c8++c10,true)
def NG (x0:LI):Option U83:=
 if decide (¬ (x0.length:Int)=128)then
  some (false,0,0,0,0,0)
 else
 gX x0 4 λr1=>
 gX x0 5 λr2=>
 gX x0 6 λr3=>
 (CL x0 8).bind λc4=>
 (CL x0 10).bind λc5=>
 (FJ (IntKind.wrap .i64 r1) (IntKind.wrap .i64 r2) (IntKind.wrap .i64 r3) c4 c5).bind λc6=>
 Option.bind (α:=Ali) (
   if(!c6.2)then
    some (true,0,0,0,0,0,IntKind.wrap .i64 r1,IntKind.wrap .i64 r2,IntKind.wrap .i64 r3,c4,c5)
   else
    (CH c6.1 x0).bind λc7=>
    some ((!c7),0,0,0,0,0,IntKind.wrap .i64 r1,IntKind.wrap .i64 r2,IntKind.wrap .i64 r3,c4,c5)) λ(a,_,_,_,_,_,b,c,d,e,f)=>
 if a then
  some (false,0,0,0,0,0)
 else
  some (true,b,c,d,e,f)
def Bt (x0:LI):Option LI:=
 Option.bind (α:=LI) (GW (List.isEmpty x0) (
  some []) (
  cK (Aa (([]:LI).length+x0.length) 1) <|
  some (([]:LI)++x0))) λv1=>
 some v1
def Nx (y:U42):Option (U42⊕LL):=
 if decide (y.2.2.2 < y.2.2.1)then
  gX y.2.1 y.2.2.2 λr1=>
  (Bt r1).bind λc2=>
  cK (Aa (y.1.length+([c2]:LL).length) 24) <|
  some (.inl (y.1++([c2]:LL),y.2.1,y.2.2.1,wI (y.2.2.2+1)))
 else
  some (.inr y.1)
def Hu (x0:LL):Option LL:=
 (Ab Nx ([],x0,(x0.length:Int),0)).bind λv3=>
 some v3
def D2 (x0:Int) (x1:LL) (x2 x3 x4:LI):Option U68:=
 cK (decide (¬ (8:Int)=0)) <|
 gX x2 (wI (Int.tdiv x0 8)) λr1=>
 cK (decide (¬ (8:Int)=0)) <|
 cZ (Int.tmod x0 8) <|
 some (decide (wB (((BitVec.ofInt (IntKind.bits .u8) (Int.fdiv r1 (2 ^ (min ((Int.tmod x0 8).toNat) (IntKind.bits .u8)))) &&& BitVec.ofInt (IntKind.bits .u8) 1).toNat:Int))=1),x1,x2,x3,x4)
def Gt (x0:Int) (x1:LL) (x2 x3 x4:LI):Option U68:=
 Option.bind (α:=U68) (
  (Bp x0 33 (wI ((x1.length:Int) - 1))).bind λc1=>
  if c1 then
   (D2 x0 x1 x2 x3 x4).bind λc2=>
   some (c2.1,c2.2.1,c2.2.2.1,c2.2.2.2.1,c2.2.2.2.2)
  else
  some (false,x1,x2,x3,x4)) λv3=>
 some (v3.1,v3.2.1,v3.2.2.1,v3.2.2.2.1,v3.2.2.2.2)
def Dp (y:YZ):Option (YZ⊕(U44⊕U68)):=
 if decide (y.2.2.2.1 < y.2.2.1)then
  gX y.2.1 y.2.2.2.1 λr1=>
  Option.bind (α:=Amh) (
    (Gt r1 y.2.2.2.2.1 y.2.2.2.2.2.1 y.2.2.2.2.2.2.1 y.2.2.2.2.2.2.2).bind λc2=>
    if(!c2.1)then
     some (y.1,y.2.1,y.2.2.1,y.2.2.2.1,true,c2.2.1,c2.2.2.1,c2.2.2.2.1,c2.2.2.2.2)
    else
    if decide (0 < y.2.2.2.1)then
     gX y.1 (wI (y.2.2.2.1 - 1)) λr3=>
     some (y.1,y.2.1,y.2.2.1,y.2.2.2.1,decide (r1<=r3),c2.2.1,c2.2.2.1,c2.2.2.2.1,c2.2.2.2.2)
    else
    some (y.1,y.2.1,y.2.2.1,y.2.2.2.1,false,c2.2.1,c2.2.2.1,c2.2.2.2.1,c2.2.2.2.2)) λv4=>
  if v4.2.2.2.2.1 then
   some (.inr (.inr (false,v4.2.2.2.2.2.1,v4.2.2.2.2.2.2.1,v4.2.2.2.2.2.2.2.1,v4.2.2.2.2.2.2.2.2)))
  else
   some (.inl (v4.1,v4.2.1,v4.2.2.1,wI (v4.2.2.2.1+1),v4.2.2.2.2.2.1,v4.2.2.2.2.2.2.1,v4.2.2.2.2.2.2.2.1,v4.2.2.2.2.2.2.2.2))
 else
  some (.inr (.inl (y.2.2.2.2.1,y.2.2.2.2.2.1,y.2.2.2.2.2.2.1,y.2.2.2.2.2.2.2)))
def C7 (x0:LI) (x1:LL) (x2 x3 x4:LI):Option U68:=
 (Ab Dp (x0,x0,(x0.length:Int),0,x1,x2,x3,x4)).bind λv5=>
 match v5 with
 | .inl y6=>
  some (true,y6.1,y6.2.1,y6.2.2.1,y6.2.2.2)
 | .inr s7=>
  some (s7.1,s7.2.1,s7.2.2.1,s7.2.2.2.1,s7.2.2.2.2)
def H4 (y:U66):Option (U66⊕(U44⊕Bool)):=
 if decide (y.1 < 160)then
  (D2 y.1 y.2.1 y.2.2.1 y.2.2.2.1 y.2.2.2.2).bind λc3=>
  Option.bind (α:=U88) (
    if decide (y.1 < 33)then
     if(!c3.1)then
      some (y.1,true,c3.2.1,c3.2.2.1,c3.2.2.2.1,c3.2.2.2.2)
     else
     if decide ((c3.2.1.length:Int)<=y.1)then
      some (y.1,c3.1,c3.2.1,c3.2.2.1,c3.2.2.2.1,c3.2.2.2.2)
     else
     some (y.1,false,c3.2.1,c3.2.2.1,c3.2.2.2.1,c3.2.2.2.2)
    else
    if decide ((c3.2.1.length:Int)<=y.1)then
     some (y.1,c3.1,c3.2.1,c3.2.2.1,c3.2.2.2.1,c3.2.2.2.2)
    else
    some (y.1,false,c3.2.1,c3.2.2.1,c3.2.2.2.1,c3.2.2.2.2)) λv4=>
  if v4.2.1 then
   some (.inr (.inr false))
  else
   some (.inl (wI (v4.1+1),v4.2.2.1,v4.2.2.2.1,v4.2.2.2.2.1,v4.2.2.2.2.2))
 else
  some (.inr (.inl (y.2.1,y.2.2.1,y.2.2.2.1,y.2.2.2.2)))
def KQ (x0:LL) (x1 x2 x3:LI):Option (Bool):=
 Option.bind (α:=U68) (
   (GM x0).bind λc1=>
   if(!c1)then
    some (true,x0,x1,x2,x3)
   else
   some (decide (¬ (x1.length:Int)=20),x0,x1,x2,x3)) λv2=>
 if v2.1 then
  some false
 else
  (Ab H4 (0,v2.2.1,v2.2.2.1,v2.2.2.2.1,v2.2.2.2.2)).bind λv5=>
  match v5 with
  | .inl y6=>
   Option.bind (α:=Bool) (
     (C7 y6.2.2.1 y6.1 y6.2.1 y6.2.2.1 y6.2.2.2).bind λc8=>
     if c8.1 then
      (C7 c8.2.2.2.2 c8.2.1 c8.2.2.1 c8.2.2.2.1 c8.2.2.2.2).bind λc9=>
      some c9.1
     else
     some false) λv10=>
   some v10
  | .inr s7=>
   some s7
def LC (x0:Int):Option (Bool):=
 some (decide (¬ x0=0))
def Bh (y:(LI×(Int×Int))):Option ((LI×(Int×Int))⊕(Unit⊕Int)):=match y with
 | (a,b,c)=>
 if decide (c < b)then
  gX a c λr1=>
  (LC r1).bind λc2=>
  if c2 then
   some (.inr (.inr c))
  else
   some (.inl (a,b,wI (c+1)))
 else
  some (.inr (.inl ()))
def BX (x0:LI):Option (Int):=
 (Ab Bh (x0,(x0.length:Int),0)).bind λv3=>
 match v3 with
 | .inl y4=>
  some (-1)
 | .inr s5=>
  some s5
def Bg (x0:LI):Option (Bool):=
 (BX x0).bind λc1=>
 some (decide (0<=c1))
def K4 (x0:LL) (x1:Int) (x2:Bool) (x3:Int):Option U17:=
 (H5 x0 x1 x2 x3).bind λc1=>
 if(!c1)then
  some (false,[],[])
 else
 gX x0 1 λr2=>
 (Hu x0).bind λc3=>
 sX 0 20 (r2.length:Int) (r2.length) <|
 (Bt ((List.drop (Int.toNat 0) r2).take (Int.toNat 20 - Int.toNat 0))).bind λc4=>
 Option.bind (α:=U17) (
   (KQ c3 c4 [] []).bind λc5=>
   if(!c5)then
    some (true,c3,c4)
   else
   sX 20 (r2.length:Int) (r2.length:Int) (r2.length) <|
   (Bg ((List.drop (Int.toNat 20) r2).take ((r2.length:Int).toNat - Int.toNat 20))).bind λc6=>
   some (c6,c3,c4)) λ(a,b,c)=>
 if a then
  some (false,[],[])
 else
  some (true,b,c)
def Ib (y:(LI×(Int×(Int×Int)))):Option ((LI×(Int×(Int×Int)))⊕(Unit⊕Int)):=
 if decide (y.2.2.2 < y.2.2.1)then
  gX y.1 y.2.2.2 λr1=>
  if decide (y.2.1=r1)then
   some (.inr (.inr y.2.2.2))
  else
   some (.inl (y.1,y.2.1,y.2.2.1,wI (y.2.2.2+1)))
 else
  some (.inr (.inl ()))
def F9 (x0:LI) (x1:Int):Option (Int):=
 (Ab Ib (x0,x1,(x0.length:Int),0)).bind λv2=>
 match v2 with
 | .inl y3=>
  some (-1)
 | .inr s4=>
  some s4
def AR (x0:LI) (x1:Int):Option (Bool):=
 (F9 x0 x1).bind λc1=>
 some (decide (0<=c1))
def Kq (x0:Int):Option (Bool):=
 some (decide (¬ x0=0))
def Fl (x0:U44) (x1:Int):Option (Bool):=
 cK (decide (¬ (8:Int)=0)) <|
 gX x0.2.1 (wI (Int.tdiv x1 8)) λr1=>
 cK (decide (¬ (8:Int)=0)) <|
 cZ (Int.tmod x1 8) <|
 some (decide (wB (((BitVec.ofInt (IntKind.bits .u8) (Int.fdiv r1 (2 ^ (min ((Int.tmod x1 8).toNat) (IntKind.bits .u8)))) &&& BitVec.ofInt (IntKind.bits .u8) 1).toNat:Int))=1))
def D3 (x0:U44) (x1:Int):Option (Bool):=
 Option.bind (α:=Bool) (
  (Bp x1 33 (wI ((x0.1.length:Int) - 1))).bind λc1=>
  if c1 then
   (Fl x0 x1).bind λc2=>
   some c2
  else
  some false) λv3=>
 some v3
def CS (x0:U44) (x1:Int):Option (Bool):=
 Option.bind (α:=Bool) (
  (D3 x0 x1).bind λc1=>
  if c1 then
   (AR x0.2.2.1 x1).bind λc2=>
   some (!c2)
  else
  some false) λv3=>
 some v3
def Ba (y:(LI×(Int×Int))):Option ((LI×(Int×Int))⊕(Unit⊕Int)):=
 if decide (y.2.2 < y.2.1)then
  gX y.1 y.2.2 λr1=>
  (Kq r1).bind λc2=>
  if c2 then
   some (.inr (.inr y.2.2))
  else
   some (.inl (y.1,y.2.1,wI (y.2.2+1)))
 else
  some (.inr (.inl ()))
def BR (x0:LI):Option (Int):=
 (Ab Ba (x0,(x0.length:Int),0)).bind λv3=>
 match v3 with
 | .inl y4=>
  some (-1)
 | .inr s5=>
  some s5
def Bc (x0:LI):Option (Bool):=
 (BR x0).bind λc1=>
 some (decide (0<=c1))
def EU (y:(LI×(LI×Int))):Option ((LI×(LI×Int))⊕LI):=
 if decide (y.2.2 < 32)then
  (CL y.1 (wI (1+(wI (2 * y.2.2))))).bind λc7=>
  cK (Aa (y.2.1.length+([c7]:LI).length) 8) <|
  some (.inl (y.1,y.2.1++([c7]:LI),wI (y.2.2+1)))
 else
  some (.inr y.2.1)
def Hc (x0:U44) (x1 x2:Int):Option ((LI×Bool)):=
 Option.bind (α:=U24) (
   (CS x0 x1).bind λc1=>
   if(!c1)then
    some (x0,x1,true)
   else
   gX x0.1 x1 λr2=>
   gX r2 0 λr3=>
   some (x0,x1,decide (¬ r3=x2))) λv4=>
 if v4.2.2 then
  some ([],false)
 else
 gX v4.1.1 v4.2.1 λr5=>
 sX 65 (r5.length:Int) (r5.length:Int) (r5.length) <|
 (Bc ((List.drop (Int.toNat 65) r5).take ((r5.length:Int).toNat - Int.toNat 65))).bind λc6=>
 if c6 then
  some ([],false)
 else
  (Ab EU (r5,[],0)).bind λv8=>
  some (v8,true)
def Oi (x0:Int):Option (Bool):=
 some (decide (¬ x0=0))
def Bw (y:(LI×(Int×Int))):Option ((LI×(Int×Int))⊕(Unit⊕Int)):=
 if decide (y.2.2 < y.2.1)then
  gX y.1 y.2.2 λr1=>
  (Oi r1).bind λc2=>
  if c2 then
   some (.inr (.inr y.2.2))
  else
   some (.inl (y.1,y.2.1,wI (y.2.2+1)))
 else
  some (.inr (.inl ()))
def Cp (x0:LI):Option (Int):=
 (Ab Bw (x0,(x0.length:Int),0)).bind λv3=>
 match v3 with
 | .inl y4=>
  some (-1)
 | .inr s5=>
  some s5
def B0 (x0:LI):Option (Bool):=
 (Cp x0).bind λc1=>
 some (decide (0<=c1))
def DL (x0:LI):Option (Bool):=
 (B0 x0).bind λc1=>
 some (!c1)
def H6 (x0:Int) (x1:U1):Option U9:=
 Option.bind (α:=U9) (
  if decide (¬ x0=0)then
   Option.bind (x1) λp1=>
   (D3 p1 x0).bind λc2=>
   some ((!c2),x1)
  else
  some (false,x1)) λv3=>
 some (v3.1,v3.2)
def AH (y:U56):Option (U56⊕(U12⊕U26)):=
 if decide (y.2.2.1 < y.2.1)then
  cZ y.2.2.1 <|
  cK (decide (y.2.2.1 < (y.1.length:Int))) <|
  Option.bind (y.1[0+y.2.2.1.toNat]?) λr1=>
  (H6 r1 y.2.2.2).bind λc2=>
  if c2.1 then
   some (.inr (.inr (y.1,y.2.2.1,c2.2)))
  else
   some (.inl (y.1,y.2.1,wI (y.2.2.1+1),c2.2))
 else
  some (.inr (.inl (y.1,y.2.2.2)))
def BQ (x0:LI) (x1:U1):Option U26:=
 (Ab AH (x0,(x0.length:Int),0,x1)).bind λv3=>
 match v3 with
 | .inl y4=>
  some (y4.1,(-1),y4.2)
 | .inr s5=>
  some (s5.1,s5.2.1,s5.2.2)
def Bb (x0:LI) (x1:U1):Option U28:=
 (BQ x0 x1).bind λc1=>
 some (c1.1,decide (0<=c1.2.1),c1.2.2)
def GZ (y:AkU):Option (AkU⊕Ahu):=
 if decide (y.2.2.1 < y.2.1)then
  cZ 32 <|
  cK (decide ((32:Int)<=32)) <|
  cK (Aa (Int.toNat 32) 8) <|
  cZ y.2.2.1 <|
  cK (decide (y.2.2.1 < (y.2.2.2.2.2.2.2.length:Int))) <|
  Option.bind (y.2.2.2.2.2.2.2[0+y.2.2.1.toNat]?) λr1=>
  Option.bind (y.2.2.2.2.2.2.2[0+y.2.2.1.toNat]?) λr2=>
  some (.inl (y.1,y.2.1,wI (y.2.2.1+1),y.2.2.2.1,y.2.2.2.2.1,y.2.2.2.2.2.1,y.2.2.2.2.2.2.1,y.2.2.2.2.2.2.2.set (0+y.2.2.1.toNat) (List.replicate (Int.toNat 32) (0:Int))))
 else
  some (.inr (y.1,y.2.2.2.1,y.2.2.2.2.1,y.2.2.2.2.2.1,y.2.2.2.2.2.2.1,y.2.2.2.2.2.2.2))
def DR (y:Ai6):Option (Ai6⊕(U38⊕(Bool×Int))):=
 if decide (y.2.2.1 < y.2.1)then
  Option.bind (α:=Ai6⊕(Bool×Int)) (
    cZ y.2.2.1 <|
    cK (decide (y.2.2.1 < (y.1.length:Int))) <|
    Option.bind (y.1[0+y.2.2.1.toNat]?) λr8=>
    if decide (r8=0)then
     some (.inl (y.1,y.2.1,y.2.2.1,y.2.2.2.1,y.2.2.2.2.1,y.2.2.2.2.2.1,y.2.2.2.2.2.2.1,y.2.2.2.2.2.2.2))
    else
     Option.bind (y.2.2.2.1) λp9=>
     (Hc p9 r8 81).bind λc10=>
     Option.bind (α:=Anj) (
       if(!c10.2)then
        some (y.1,y.2.2.1,r8,c10.1,y.2.1,y.2.2.1,true,y.2.2.2.1,y.2.2.2.2.1,y.2.2.2.2.2.1,y.2.2.2.2.2.2.1,y.2.2.2.2.2.2.2)
       else
        (DL c10.1).bind λc11=>
        if c11 then
         some (y.1,y.2.2.1,r8,c10.1,y.2.1,y.2.2.1,true,y.2.2.2.1,y.2.2.2.2.1,y.2.2.2.2.2.1,y.2.2.2.2.2.2.1,y.2.2.2.2.2.2.2)
        else
        sX 0 y.2.2.1 (y.1.length:Int) (y.1.length) <|
        (AR ((y.1.drop (Int.toNat 0)).take (y.2.2.1.toNat - Int.toNat 0)) r8).bind λc12=>
        if c12 then
         some (y.1,y.2.2.1,r8,c10.1,y.2.1,y.2.2.1,true,y.2.2.2.1,y.2.2.2.2.1,y.2.2.2.2.2.1,y.2.2.2.2.2.2.1,y.2.2.2.2.2.2.2)
        else
         (Bb c10.1 y.2.2.2.1).bind λc13=>
         some (y.1,y.2.2.1,r8,c13.1,y.2.1,y.2.2.1,c13.2.1,c13.2.2,y.2.2.2.2.1,y.2.2.2.2.2.1,y.2.2.2.2.2.2.1,y.2.2.2.2.2.2.2)) λv14=>
     if v14.2.2.2.2.2.2.1 then
      some (.inr (false,0))
     else
     cZ v14.2.1 <|
     cK (decide (v14.2.1 < (v14.2.2.2.2.2.2.2.2.2.2.1.length:Int))) <|
     Option.bind (v14.2.2.2.2.2.2.2.2.2.2.1[0+v14.2.1.toNat]?) λr15=>
     Option.bind (v14.2.2.2.2.2.2.2.2.2.2.1[0+v14.2.1.toNat]?) λr16=>
     cZ v14.2.1 <|
     cK (decide (v14.2.1 < (v14.2.2.2.2.2.2.2.2.2.2.2.length:Int))) <|
     Option.bind (v14.2.2.2.2.2.2.2.2.2.2.2[0+v14.2.1.toNat]?) λr17=>
     Option.bind (v14.2.2.2.2.2.2.2.2.2.2.2[0+v14.2.1.toNat]?) λr18=>
     some (.inl (v14.1,v14.2.2.2.2.1,v14.2.2.2.2.2.1,v14.2.2.2.2.2.2.2.1,v14.2.2.2.2.2.2.2.2.1,v14.2.2.2.2.2.2.2.2.2.1,v14.2.2.2.2.2.2.2.2.2.2.1.set (0+v14.2.1.toNat) v14.2.2.1,v14.2.2.2.2.2.2.2.2.2.2.2.set (0+v14.2.1.toNat) v14.2.2.2.1))) λv19=>
  match v19 with
  | .inl y20=>
   some (.inl (y20.1,y20.2.1,wI (y20.2.2.1+1),y20.2.2.2.1,y20.2.2.2.2.1,y20.2.2.2.2.2.1,y20.2.2.2.2.2.2.1,y20.2.2.2.2.2.2.2))
  | .inr s21=>
   some (.inr (.inr (s21.1,s21.2)))
 else
  some (.inr (.inl (y.2.2.2.2.1,y.2.2.2.2.2.1,y.2.2.2.2.2.2.1,y.2.2.2.2.2.2.2)))
def Hi (x0:U44) (x1:Int):Option U41:=
 cZ 32 <|
 cK (decide ((32:Int)<=32)) <|
 cK (Aa (Int.toNat 32) 8) <|
 cZ 32 <|
 cK (decide ((32:Int)<=32)) <|
 cK (Aa (Int.toNat 32) 24) <|
 (Ab GZ (x1,((List.replicate (Int.toNat 32) ([]:LI)).length:Int),0,some x0,0,x1,List.replicate (Int.toNat 32) (0:Int),List.replicate (Int.toNat 32) ([]:LI))).bind λv3=>
 if decide (v3.1=0)then
  some (true,v3.2.2.2.1,v3.2.2.2.2.1,v3.2.2.2.2.2)
 else
  Option.bind (v3.2.1) λp4=>
  (Hc p4 v3.1 80).bind λc5=>
  Option.bind (α:=An2) (
    if(!c5.2)then
     some (c5.1,true,v3.2.1,v3.2.2.1,v3.2.2.2.1,v3.2.2.2.2.1,v3.2.2.2.2.2)
    else
     (DL c5.1).bind λc6=>
     some (c5.1,c6,v3.2.1,v3.2.2.1,v3.2.2.2.1,v3.2.2.2.2.1,v3.2.2.2.2.2)) λv7=>
  if v7.2.1 then
   some (false,0,[],[])
  else
   (Ab DR (v7.1,(v7.1.length:Int),0,v7.2.2.1,v7.2.2.2.1,v7.2.2.2.2.1,v7.2.2.2.2.2.1,v7.2.2.2.2.2.2)).bind λv22=>
   match v22 with
   | .inl y23=>
    some (true,y23.2.1,y23.2.2.1,y23.2.2.2)
   | .inr s24=>
    some (s24.1,s24.2,[],[])
def Bl (x0:LI):Option LI:=
 Option.bind (α:=LI) (GW (List.isEmpty x0) (
  some []) (
  cK (Aa (([]:LI).length+x0.length) 8) <|
  some (([]:LI)++x0))) λv1=>
 some v1
def IJ (x0:Int):Option (Bool):=
 some (decide (¬ x0=x0))
def JA (x0 x1:Int):Option (Bool):=
 Option.bind (α:=Bool) (
  Option.bind (IJ x0) λc1=>
  if c1 then
   Option.bind (IJ x1) λc2=>
   if(!c2)then
    some true
   else
   some (decide (x0 < x1))
  else
  some (decide (x0 < x1))) λv3=>
 some v3
def Gs (x0:Int):Option (Bool):=
 some (decide (¬ x0=x0))
def C9 (y:U57):Option (U57⊕(LI×(Int×(Int×Int)))):=
 if decide (y.2.2.2.1 < y.2.2.2.2)then
  cZ 1 <|
  gX y.1 (wI (Int.fdiv (IntKind.wrap .u64 (wI (y.2.2.2.1+y.2.2.2.2))) (2 ^ (min (Int.toNat 1) (IntKind.bits .u64))))) λr1=>
  Option.bind (JA r1 y.2.1) λc2=>
  Option.bind (α:=U57) (
   if c2 then
    some (y.1,y.2.1,y.2.2.1,wI ((wI (Int.fdiv (IntKind.wrap .u64 (wI (y.2.2.2.1+y.2.2.2.2))) (2 ^ (min (Int.toNat 1) (IntKind.bits .u64)))))+1),y.2.2.2.2)
   else
    some (y.1,y.2.1,y.2.2.1,y.2.2.2.1,wI (Int.fdiv (IntKind.wrap .u64 (wI (y.2.2.2.1+y.2.2.2.2))) (2 ^ (min (Int.toNat 1) (IntKind.bits .u64)))))) λv3=>
  some (.inl (v3.1,v3.2.1,v3.2.2.1,v3.2.2.2.1,v3.2.2.2.2))
 else
  some (.inr (y.1,y.2.1,y.2.2.1,y.2.2.2.1))
def CE (x0:LI) (x1:Int):Option ((Int×Bool)):=
 (Ab C9 (x0,x1,(x0.length:Int),0,(x0.length:Int))).bind λv4=>
 Option.bind (α:=(Int×Bool)) (
  if decide (v4.2.2.2 < v4.2.2.1)then
   gX v4.1 v4.2.2.2 λr5=>
   if decide (r5=v4.2.1)then
    some (v4.2.2.2,true)
   else
   gX v4.1 v4.2.2.2 λr6=>
   (Gs r6).bind λc7=>
   if c7 then
    (Gs v4.2.1).bind λc8=>
    some (v4.2.2.2,c8)
   else
   some (v4.2.2.2,false)
  else
  some (v4.2.2.2,false)) λv9=>
 some (v9.1,v9.2)
def Ft (x0:List Int) (x1:Int) (x2:List Int):Option (List Int):=
 if 0<=x1/\x1.toNat<=x0.length/\x2≠[]/\(x0.length+x2.length) * 8<=140737488355328 then some (x0.take x1.toNat++(x2++x0.drop x1.toNat))else none
def E1 (x0:LI) (x1:Int):Option LI:=
 (CE x0 x1).bind λc1=>
 if c1.2 then
  some x0
 else
  (Ft x0 c1.1 [x1]).bind λc2=>
  some c2
def ER (y:U32):Option (U32⊕LI):=match y with
 | (a,b,c,d)=>
 if decide (d < c)then
  cZ d <|
  cK (decide (d < (b.length:Int))) <|
  Option.bind (b[0+d.toNat]?) λr2=>
  Option.bind (α:=U32) (
   if decide (¬ r2=0)then
    (E1 a r2).bind λc3=>
    some (c3,b,c,d)
   else
    some (a,b,c,d)) λ(e,f,g,h)=>
  some (.inl (e,f,g,wI (h+1)))
 else
  some (.inr a)
def Ka (x0:Int) (x1:LI) (x2:LL):Option LI:=
 (Bl x1).bind λc1=>
 cK (Aa (c1.length+([x0]:LI).length) 8) <|
 (Ab ER ([],c1++([x0]:LI),((c1++([x0]:LI)).length:Int),0)).bind λv5=>
 some v5
def I8 (x0:Int):Option (Bool):=
 some (decide (¬ x0=0))
def JJ (x0:Int):Option (Bool):=
 some (decide (¬ x0=0))
def A7 (y:(LI×(Int×Int))):Option ((LI×(Int×Int))⊕(Unit⊕Int)):=
 if decide (y.2.2 < y.2.1)then
  gX y.1 y.2.2 λr1=>
  (JJ r1).bind λc2=>
  if c2 then
   some (.inr (.inr y.2.2))
  else
   some (.inl (y.1,y.2.1,wI (y.2.2+1)))
 else
  some (.inr (.inl ()))
def BP (x0:LI):Option (Int):=
 (Ab A7 (x0,(x0.length:Int),0)).bind λv3=>
 match v3 with
 | .inl y4=>
  some (-1)
 | .inr s5=>
  some s5
def A6 (x0:LI):Option (Bool):=
 (BP x0).bind λc1=>
 some (decide (0<=c1))
def Gz (x0:U44) (x1:Int):Option U30:=
 Option.bind (α:=Anu) (
   (CS x0 x1).bind λc1=>
   if(!c1)then
    some (x0,x1,true,0,0,[])
   else
   gX x0.1 x1 λr2=>
   gX r2 0 λr3=>
   some (x0,x1,decide (¬ r3=83),0,0,[])) λv4=>
 if v4.2.2.1 then
  some (false,0,0,[])
 else
 gX v4.1.1 v4.2.1 λr5=>
 gX r5 1 λr6=>
 gX r5 2 λr7=>
 Option.bind (α:=Aod) (
   (Bp (IntKind.wrap .i64 r6) 1 250).bind λc8=>
   if(!c8)then
    some (v4.2.1,r5,IntKind.wrap .i64 r6,IntKind.wrap .i64 r7,true,v4.2.2.2.1,v4.2.2.2.2.1,v4.2.2.2.2.2)
   else
    (Bp (IntKind.wrap .i64 r7) 1 40).bind λc9=>
    if(!c9)then
     some (v4.2.1,r5,IntKind.wrap .i64 r6,IntKind.wrap .i64 r7,true,v4.2.2.2.1,v4.2.2.2.2.1,v4.2.2.2.2.2)
    else
    sX (wI (3+(IntKind.wrap .i64 r7))) (r5.length:Int) (r5.length:Int) (r5.length) <|
    (A6 ((List.drop ((wI (3+(IntKind.wrap .i64 r7))).toNat) r5).take ((r5.length:Int).toNat - (wI (3+(IntKind.wrap .i64 r7))).toNat))).bind λc10=>
    some (v4.2.1,r5,IntKind.wrap .i64 r6,IntKind.wrap .i64 r7,c10,v4.2.2.2.1,v4.2.2.2.2.1,v4.2.2.2.2.2)) λv11=>
 if v11.2.2.2.2.1 then
  some (false,0,0,[])
 else
 sX 3 (wI (3+v11.2.2.2.1)) (v11.2.1.length:Int) (v11.2.1.length) <|
 some (true,v11.1,v11.2.2.1,AL ((List.drop (Int.toNat 3) v11.2.1).take ((wI (3+v11.2.2.2.1)).toNat - Int.toNat 3)))
def A4 (y:(LI×(Int×Int))):Option ((LI×(Int×Int))⊕(Unit⊕Int)):=
 if decide (y.2.2 < y.2.1)then
  gX y.1 y.2.2 λr1=>
  (I8 r1).bind λc2=>
  if c2 then
   some (.inr (.inr y.2.2))
  else
   some (.inl (y.1,y.2.1,wI (y.2.2+1)))
 else
  some (.inr (.inl ()))
def BK (x0:LI):Option (Int):=
 (Ab A4 (x0,(x0.length:Int),0)).bind λv3=>
 match v3 with
 | .inl y4=>
  some (-1)
 | .inr s5=>
  some s5
def A3 (x0:LI):Option (Bool):=
 (BK x0).bind λc1=>
 some (decide (0<=c1))
def I9 (x0 x1:Int) (x2:LB) (x3 x4:Int) (x5:LB):Option U30:=
 some (decide (x0=x3),x3,x4,x5)
def Am (y:U93):Option (U93⊕((Int×(Int×LB))⊕U29)):=
 if decide (y.2.2.1 < y.2.1)then
  gX y.1 y.2.2.1 λr1=>
  (I9 r1.1 r1.2.1 r1.2.2 y.2.2.2.1 y.2.2.2.2.1 y.2.2.2.2.2).bind λc2=>
  if c2.1 then
   some (.inr (.inr (y.2.2.1,c2.2.1,c2.2.2.1,c2.2.2.2)))
  else
   some (.inl (y.1,y.2.1,wI (y.2.2.1+1),c2.2.1,c2.2.2.1,c2.2.2.2))
 else
  some (.inr (.inl (y.2.2.2.1,y.2.2.2.2.1,y.2.2.2.2.2)))
def Ar (x0:List (Int×(Int×LB))) (x1 x2:Int) (x3:LB):Option U29:=
 (Ab Am (x0,(x0.length:Int),0,x1,x2,x3)).bind λv3=>
 match v3 with
 | .inl y4=>
  some ((-1),y4.1,y4.2.1,y4.2.2)
 | .inr s5=>
  some (s5.1,s5.2.1,s5.2.2.1,s5.2.2.2)
def Aj (x0:List (Int×(Int×LB))) (x1 x2:Int) (x3:LB):Option U30:=
 (Ar x0 x1 x2 x3).bind λc1=>
 some (decide (0<=c1.1),c1.2.1,c1.2.2.1,c1.2.2.2)
def Dm (y:Amo):Option (Amo⊕(List (Int×(Int×LB))⊕Bool)):=
 if decide (y.2.2.2.2.2 < y.2.2.2.2.1)then
  (CL y.2.1 (wI (2+(wI (2 * y.2.2.2.2.2))))).bind λc9=>
  (Gz y.1 c9).bind λc10=>
  Option.bind (α:=AnK) (
    if(!c10.1)then
     some (y.1,y.2.1,y.2.2.1,y.2.2.2.1,y.2.2.2.2.1,y.2.2.2.2.2,true,c10.2.1,c10.2.2.1,c10.2.2.2)
    else
    if decide (wI (y.2.2.2.2.2+1) < y.2.2.1)then
     if decide ((c10.2.2.2.length:Int) < 40)then
      some (y.1,y.2.1,y.2.2.1,y.2.2.2.1,y.2.2.2.2.1,y.2.2.2.2.2,true,c10.2.1,c10.2.2.1,c10.2.2.2)
     else
      (Aj y.2.2.2.1 c10.2.1 c10.2.2.1 c10.2.2.2).bind λc11=>
      some (y.1,y.2.1,y.2.2.1,y.2.2.2.1,y.2.2.2.2.1,y.2.2.2.2.2,c11.1,c11.2.1,c11.2.2.1,c11.2.2.2)
    else
    (Aj y.2.2.2.1 c10.2.1 c10.2.2.1 c10.2.2.2).bind λc13=>
    some (y.1,y.2.1,y.2.2.1,y.2.2.2.1,y.2.2.2.2.1,y.2.2.2.2.2,c13.1,c13.2.1,c13.2.2.1,c13.2.2.2)) λv14=>
  if v14.2.2.2.2.2.2.1 then
   some (.inr (.inr false))
  else
  cK (Aa (v14.2.2.2.1.length+([(v14.2.2.2.2.2.2.2.1,(v14.2.2.2.2.2.2.2.2.1,v14.2.2.2.2.2.2.2.2.2))]:List (Int×(Int×LB))).length) 32) <|
  some (.inl (v14.1,v14.2.1,v14.2.2.1,v14.2.2.2.1++([(v14.2.2.2.2.2.2.2.1,(v14.2.2.2.2.2.2.2.2.1,v14.2.2.2.2.2.2.2.2.2))]:List (Int×(Int×LB))),v14.2.2.2.2.1,wI (v14.2.2.2.2.2.1+1)))
 else
  some (.inr (.inl y.2.2.2.1))
def Ej (x0:U44) (x1:Int):Option U4:=
 Option.bind (α:=U24) (
   (CS x0 x1).bind λc1=>
   if(!c1)then
    some (x0,x1,true)
   else
   gX x0.1 x1 λr2=>
   gX r2 0 λr3=>
   some (x0,x1,decide (¬ r3=84))) λv4=>
 if v4.2.2 then
  some ([],false)
 else
 gX v4.1.1 v4.2.1 λr5=>
 gX r5 1 λr6=>
 Option.bind (α:=U53) (
   if decide (3 < (IntKind.wrap .i64 r6))then
    some (v4.1,r5,IntKind.wrap .i64 r6,true)
   else
   sX (wI (2+(wI (2 * (IntKind.wrap .i64 r6))))) (r5.length:Int) (r5.length:Int) (r5.length) <|
   (A3 ((List.drop ((wI (2+(wI (2 * (IntKind.wrap .i64 r6))))).toNat) r5).take ((r5.length:Int).toNat - (wI (2+(wI (2 * (IntKind.wrap .i64 r6))))).toNat))).bind λc7=>
   some (v4.1,r5,IntKind.wrap .i64 r6,c7)) λv8=>
 if v8.2.2.2 then
  some ([],false)
 else
  (Ab Dm (v8.1,v8.2.1,v8.2.2.1,[],v8.2.2.1,0)).bind λv15=>
  match v15 with
  | .inl y16=>
   some (y16,true)
  | .inr s17=>
   some ([],s17)
def EN (y:Amj):Option (Amj⊕(Int×(LB×LI))):=match y with
 | (a,b,c,d,e,f)=>
 if decide (f < e)then
  cZ f <|
  cK (decide (f < (d.length:Int))) <|
  Option.bind (d[0+f.toNat]?) λr2=>
  Option.bind (d[0+f.toNat]?) λr3=>
  Option.bind (d[0+f.toNat]?) λr4=>
  cK (decide ((b.length+r4.2.2.length:Nat)<=9223372036854775807)) <|
  cK (Aa (c.length+([r2.1]:LI).length) 8) <|
  some (.inl (a,(b:LB)++r4.2.2,c++([r2.1]:LI),d,e,wI (f+1)))
 else
  some (.inr (a,b,c))
def JV (x0:U44) (x1:Int):Option U15:=
 (Ej x0 x1).bind λc1=>
 if(!c1.2)then
  some (([]:LB),[],false)
 else
  (Ab EN (x1,([]:LB),[],c1.1,(c1.1.length:Int),0)).bind λ(a,b,c)=>
  cK (Aa (c.length+([a]:LI).length) 8) <|
  some (b,c++([a]:LI),true)
def H0 (y:U85):Option (U85⊕U34):=match y with
 | (a,b,c,d,e,f)=>
 cZ d <|
 if decide (wI ((wI (e+1)) * 2 ^ (min (d.toNat) (IntKind.bits .i64)))<=b)then
  cK (Aa (c.length+([(d,e)]:List (Int×Int)).length) 16) <|
  some (.inl (a,b,c++([(d,e)]:List (Int×Int)),d,wI (e+1),f))
 else
  some (.inr (a,b,c,f))
def H3 (y:U34):Option (U34⊕(List (Int×Int))):=match y with
 | (a,b,c,d)=>
 if decide (d < 6)then
  cZ d <|
  cZ d <|
  (Ab H0 (a,b,c,d,Int.fdiv (wI ((wI (a+(wI (1 * 2 ^ (min (d.toNat) (IntKind.bits .i64)))))) - 1)) (2 ^ (min (d.toNat) (IntKind.bits .i64))),d)).bind λ(e,f,g,h)=>
  some (.inl (e,f,g,wI (h+1)))
 else
  some (.inr c)
def If (x0 x1:Int):Option (List (Int×Int)):=
 (Ab H3 (x0,x1,[],0)).bind λv2=>
 some v2
def Mm (x0 x1:Int):Option (Int):=
 Option.bind (α:=(Bool×(Int×Int))) (
   (Bp x0 0 5).bind λc1=>
   if(!c1)then
    some (true,x0,x1)
   else
    (Bp x1 0 63).bind λc2=>
    some ((!c2),x0,x1)) λ(a,b,c)=>
 if a then
  some (-1)
 else
  some (wI ((wI (64 * b))+c))
def DE (x0:Int) (x1:LI) (x2:LL) (x3:Int):Option (Int):=
 cK (decide (¬ (32:Int)=0)) <|
 gX x2 (wI (Int.tdiv x3 32)) λr1=>
 cK (decide (¬ (32:Int)=0)) <|
 gX r1 (Int.tmod x3 32) λr2=>
 some r2
def IW (x0:Int):Option (Bool):=
 some (decide (¬ x0=0))
def AZ (y:(LI×(Int×Int))):Option ((LI×(Int×Int))⊕(Unit⊕Int)):=
 if decide (y.2.2 < y.2.1)then
  gX y.1 y.2.2 λr1=>
  (IW r1).bind λc2=>
  if c2 then
   some (.inr (.inr y.2.2))
  else
   some (.inl (y.1,y.2.1,wI (y.2.2+1)))
 else
  some (.inr (.inl ()))
def BJ (x0:LI):Option (Int):=
 (Ab AZ (x0,(x0.length:Int),0)).bind λv3=>
 match v3 with
 | .inl y4=>
  some (-1)
 | .inr s5=>
  some s5
def Au (x0:LI):Option (Bool):=
 (BJ x0).bind λc1=>
 some (decide (0<=c1))
def E5 (y:U54):Option (U54⊕(LI×(LI×Bool))):=match y with
 | (a,b,c,d)=>
 Option.bind (α:=U81) (
   (CS a b).bind λc1=>
   if(!c1)then
    some (a,b,c,d,true)
   else
    (AR d b).bind λc2=>
    if c2 then
     some (a,b,c,d,true)
    else
    some (a,b,c,d,decide ((d.length:Int)=9))) λ(e,f,g,h,i)=>
 if i then
  some (.inr ([],[],false))
 else
 gX e.1 f λr4=>
 (CL r4 1).bind λc5=>
 gX r4 3 λr6=>
 Option.bind (α:=An7) (
   gX r4 0 λr7=>
   if decide (¬ r7=82)then
    some (e,f,g,h,r4,c5,IntKind.wrap .i64 r6,true)
   else
   if decide (124 < (IntKind.wrap .i64 r6))then
    some (e,f,g,h,r4,c5,IntKind.wrap .i64 r6,true)
   else
   if decide (¬ c5=0)then
    if decide (IntKind.wrap .i64 r6 < 124)then
     some (e,f,g,h,r4,c5,IntKind.wrap .i64 r6,true)
    else
    if decide (IntKind.wrap .i64 r6=0)then
     if(!(decide ((h.length:Int)=0)))then
      some (e,f,g,h,r4,c5,IntKind.wrap .i64 r6,true)
     else
     sX (wI (4+(IntKind.wrap .i64 r6))) (r4.length:Int) (r4.length:Int) (r4.length) <|
     (Au ((List.drop ((wI (4+(IntKind.wrap .i64 r6))).toNat) r4).take ((r4.length:Int).toNat - (wI (4+(IntKind.wrap .i64 r6))).toNat))).bind λc8=>
     some (e,f,g,h,r4,c5,IntKind.wrap .i64 r6,c8)
    else
    sX (wI (4+(IntKind.wrap .i64 r6))) (r4.length:Int) (r4.length:Int) (r4.length) <|
    (Au ((List.drop ((wI (4+(IntKind.wrap .i64 r6))).toNat) r4).take ((r4.length:Int).toNat - (wI (4+(IntKind.wrap .i64 r6))).toNat))).bind λc10=>
    some (e,f,g,h,r4,c5,IntKind.wrap .i64 r6,c10)
   else
   if decide (IntKind.wrap .i64 r6=0)then
    if(!(decide ((h.length:Int)=0)))then
     some (e,f,g,h,r4,c5,IntKind.wrap .i64 r6,true)
    else
    sX (wI (4+(IntKind.wrap .i64 r6))) (r4.length:Int) (r4.length:Int) (r4.length) <|
    (Au ((List.drop ((wI (4+(IntKind.wrap .i64 r6))).toNat) r4).take ((r4.length:Int).toNat - (wI (4+(IntKind.wrap .i64 r6))).toNat))).bind λc14=>
    some (e,f,g,h,r4,c5,IntKind.wrap .i64 r6,c14)
   else
   sX (wI (4+(IntKind.wrap .i64 r6))) (r4.length:Int) (r4.length:Int) (r4.length) <|
   (Au ((List.drop ((wI (4+(IntKind.wrap .i64 r6))).toNat) r4).take ((r4.length:Int).toNat - (wI (4+(IntKind.wrap .i64 r6))).toNat))).bind λc16=>
   some (e,f,g,h,r4,c5,IntKind.wrap .i64 r6,c16)) λ(j,k,l,m,n,o,p,q)=>
 if q then
  some (.inr ([],[],false))
 else
 sX 4 (wI (4+p)) (n.length:Int) (n.length) <|
 cK (Aa (l.length+((List.drop (Int.toNat 4) n).take ((wI (4+p)).toNat - Int.toNat 4)).length) 1) <|
 cK (Aa (m.length+([k]:LI).length) 8) <|
 if decide (o=0)then
  some (.inr (l++((List.drop (Int.toNat 4) n).take ((wI (4+p)).toNat - Int.toNat 4)),m++([k]:LI),true))
 else
  some (.inl (j,o,l++((List.drop (Int.toNat 4) n).take ((wI (4+p)).toNat - Int.toNat 4)),m++([k]:LI)))
def FH (x0:U44) (x1:Int):Option ((LI×(LI×Bool))):=
 (Ab E5 (x0,x1,[],[])).bind λ(a,b,c)=>
 some (a,b,c)
def EX (x0 x1:Int) (x2:LB):Option (Int):=
 Option.bind (α:=U30) (
   if decide (0 < x0)then
    if decide (x1=0)then
     some (((x2:LB) == ([]:LB)),x0,x1,x2)
    else
    some (false,x0,x1,x2)
   else
   some (false,x0,x1,x2)) λv1=>
 if v1.1 then
  some 1
 else
  Option.bind (α:=U30) (
    if decide (0 < v1.2.2.1)then
     if decide (v1.2.1=0)then
      some (((v1.2.2.2:LB) == ([]:LB)),v1.2.1,v1.2.2.1,v1.2.2.2)
     else
     some (false,v1.2.1,v1.2.2.1,v1.2.2.2)
    else
    some (false,v1.2.1,v1.2.2.1,v1.2.2.2)) λv2=>
  if v2.1 then
   some 2
  else
   Option.bind (α:=Bool) (
     if(!((v2.2.2.2:LB) == ([]:LB)))then
      if decide (v2.2.1=0)then
       some (decide (v2.2.2.1=0))
      else
      some false
     else
     some false) λv3=>
   if v3 then
    some 3
   else
    some 0
def Rq (y:U69):Option (U69⊕((Int×Int)⊕(Int×(Int×Bool)))):=
 if decide (y.2.2.2.2 < y.2.2.2.1)then
  gX y.2.2.1 y.2.2.2.2 λr1=>
  Option.bind (α:=Alo) (
    if decide (120 < r1.1)then
     some (y.1,y.2.1,y.2.2.1,y.2.2.2.1,y.2.2.2.2,true,r1.1,r1.2.1,r1.2.2)
    else
    some (y.1,y.2.1,y.2.2.1,y.2.2.2.1,y.2.2.2.2,decide (120 < r1.2.1),r1.1,r1.2.1,r1.2.2)) λv2=>
  if v2.2.2.2.2.2.1 then
   some (.inr (.inr (0,0,false)))
  else
   Option.bind (α:=U89) (
     if decide (120 < (wI (v2.1+(wI (v2.2.2.2.2.2.2.1+v2.2.2.2.2.2.2.2.1)))))then
      some (wI (v2.1+(wI (v2.2.2.2.2.2.2.1+v2.2.2.2.2.2.2.2.1))),wI (v2.2.1+(wI (v2.2.2.2.2.2.2.1+(v2.2.2.2.2.2.2.2.2.length:Int)))),v2.2.2.1,v2.2.2.2.1,v2.2.2.2.2.1,true)
     else
     some (wI (v2.1+(wI (v2.2.2.2.2.2.2.1+v2.2.2.2.2.2.2.2.1))),wI (v2.2.1+(wI (v2.2.2.2.2.2.2.1+(v2.2.2.2.2.2.2.2.2.length:Int)))),v2.2.2.1,v2.2.2.2.1,v2.2.2.2.2.1,decide (120 < (wI (v2.2.1+(wI (v2.2.2.2.2.2.2.1+(v2.2.2.2.2.2.2.2.2.length:Int)))))))) λv3=>
   if v3.2.2.2.2.2 then
    some (.inr (.inr (0,0,false)))
   else
    some (.inl (v3.1,v3.2.1,v3.2.2.1,v3.2.2.2.1,wI (v3.2.2.2.2.1+1)))
 else
  some (.inr (.inl (y.1,y.2.1)))
def Ld (x0:List (Int×(Int×LB))):Option ((Int×(Int×Bool))):=
 (Ab Rq (0,0,x0,(x0.length:Int),0)).bind λv4=>
 match v4 with
 | .inl y5=>
  some (y5.1,y5.2,true)
 | .inr s6=>
  some (s6.1,s6.2.1,s6.2.2)
def Jr (y:U52):Option (U52⊕(List (Int×(Int×LB))⊕Bool)):=
 if decide (y.2.2.2 < y.2.2.1)then
  gX y.2.1 y.2.2.2 λr1=>
  (EX r1.1 r1.2.1 r1.2.2).bind λc2=>
  Option.bind (α:=U80) (
    if decide (c2=0)then
     some (y.1,y.2.1,y.2.2.1,y.2.2.2,true)
    else
    if decide (0 < y.2.2.2)then
     gX y.1 (wI (y.2.2.2 - 1)) λr3=>
     (EX r3.1 r3.2.1 r3.2.2).bind λc4=>
     some (y.1,y.2.1,y.2.2.1,y.2.2.2,decide (c4=c2))
    else
    some (y.1,y.2.1,y.2.2.1,y.2.2.2,false)) λv5=>
  if v5.2.2.2.2 then
   some (.inr (.inr false))
  else
   some (.inl (v5.1,v5.2.1,v5.2.2.1,wI (v5.2.2.2.1+1)))
 else
  some (.inr (.inl y.1))
def Fj (x0:List (Int×(Int×LB))):Option (Bool):=
 (Ab Jr (x0,x0,(x0.length:Int),0)).bind λv6=>
 match v6 with
 | .inl y7=>
  (Ld y7).bind λc9=>
  some c9.2.2
 | .inr s8=>
  some s8
def AG (y:U5):Option (U5⊕(List (Int×(Int×LB))⊕Bool)):=
 if decide (0 < (y.1.length:Int))then
  if decide ((y.1.length:Int) < 2)then
   some (.inr (.inr false))
  else
  gX y.1 0 λr1=>
  gX y.1 1 λr2=>
  sX 2 (y.1.length:Int) (y.1.length:Int) (y.1.length) <|
  Option.bind (α:=U5⊕Bool) (
    if decide (r1=1)then
     cK (Aa (y.2.length+([(IntKind.wrap .i64 r2,(0,[]))]:List (Int×(Int×LB))).length) 32) <|
     some (.inl ((List.drop (Int.toNat 2) y.1).take ((y.1.length:Int).toNat - Int.toNat 2),y.2++([(IntKind.wrap .i64 r2,(0,[]))]:List (Int×(Int×LB)))))
    else
     Option.bind (α:=U5⊕Bool) (
       if decide (r1=2)then
        cK (Aa (y.2.length+([(0,(IntKind.wrap .i64 r2,[]))]:List (Int×(Int×LB))).length) 32) <|
        some (.inl ((List.drop (Int.toNat 2) y.1).take ((y.1.length:Int).toNat - Int.toNat 2),y.2++([(0,(IntKind.wrap .i64 r2,[]))]:List (Int×(Int×LB)))))
       else
        Option.bind (α:=U48) (
          if decide (r1=3)then
           some ((List.drop (Int.toNat 2) y.1).take ((y.1.length:Int).toNat - Int.toNat 2),y.2,IntKind.wrap .i64 r2,decide (IntKind.wrap .i64 r2<=(((List.drop (Int.toNat 2) y.1).take ((y.1.length:Int).toNat - Int.toNat 2)).length:Int)))
          else
          some ((List.drop (Int.toNat 2) y.1).take ((y.1.length:Int).toNat - Int.toNat 2),y.2,IntKind.wrap .i64 r2,false)) λv3=>
        if v3.2.2.2 then
         sX 0 v3.2.2.1 (v3.1.length:Int) (v3.1.length) <|
         cK (Aa (v3.2.1.length+([(0,(0,AL ((List.drop (Int.toNat 0) v3.1).take (v3.2.2.1.toNat - Int.toNat 0))))]:List (Int×(Int×LB))).length) 32) <|
         sX v3.2.2.1 (v3.1.length:Int) (v3.1.length:Int) (v3.1.length) <|
         some (.inl ((List.drop (v3.2.2.1.toNat) v3.1).take ((v3.1.length:Int).toNat - v3.2.2.1.toNat),v3.2.1++([(0,(0,AL ((List.drop (Int.toNat 0) v3.1).take (v3.2.2.1.toNat - Int.toNat 0))))]:List (Int×(Int×LB)))))
        else
         some (.inr false)) λv4=>
     match v4 with
     | .inl y5=>
      some (.inl (y5.1,y5.2))
     | .inr s6=>
      some (.inr s6)) λv7=>
  match v7 with
  | .inl y8=>
   some (.inl (y8.1,y8.2))
  | .inr s9=>
   some (.inr (.inr s9))
 else
  some (.inr (.inl y.2))
def Fs (x0:LI):Option U4:=
 (Ab AG (x0,[])).bind λv10=>
 match v10 with
 | .inl y11=>
  (Fj y11).bind λc13=>
  if(!c13)then
   some ([],false)
  else
   some (y11,true)
 | .inr s12=>
  some ([],s12)
def Qy (y:AeE):Option (AeE⊕((Int×Int)⊕Bool)):=
 if decide (y.2.2.2.2.2.2 < y.2.2.2.2.2.1)then
  gX y.2.2.2.2.1 y.2.2.2.2.2.2 λr4=>
  Option.bind (α:=AlT) (
    (Bp r4.1 0 y.2.2.1).bind λc5=>
    if(!c5)then
     some (y.1,y.2.1,y.2.2.1,y.2.2.2.1,y.2.2.2.2.1,y.2.2.2.2.2.1,y.2.2.2.2.2.2,true,r4.1,r4.2)
    else
     (Bp r4.2 1 120).bind λc6=>
     if(!c6)then
      some (y.1,y.2.1,y.2.2.1,y.2.2.2.1,y.2.2.2.2.1,y.2.2.2.2.2.1,y.2.2.2.2.2.2,true,r4.1,r4.2)
     else
     if decide (0 < y.2.2.2.2.2.2)then
      gX y.1 (wI (y.2.2.2.2.2.2 - 1)) λr7=>
      some (y.1,y.2.1,y.2.2.1,y.2.2.2.1,y.2.2.2.2.1,y.2.2.2.2.2.1,y.2.2.2.2.2.2,decide (r7.1=r4.1),r4.1,r4.2)
     else
     some (y.1,y.2.1,y.2.2.1,y.2.2.2.1,y.2.2.2.2.1,y.2.2.2.2.2.1,y.2.2.2.2.2.2,false,r4.1,r4.2)) λv8=>
  if v8.2.2.2.2.2.2.2.1 then
   some (.inr (.inr false))
  else
  if decide (v8.2.1 < (wI (v8.2.2.2.1+v8.2.2.2.2.2.2.2.2.2)))then
   some (.inr (.inr false))
  else
   some (.inl (v8.1,v8.2.1,v8.2.2.1,wI (v8.2.2.2.1+v8.2.2.2.2.2.2.2.2.2),v8.2.2.2.2.1,v8.2.2.2.2.2.1,wI (v8.2.2.2.2.2.2.1+1)))
 else
  some (.inr (.inl (y.2.1,y.2.2.2.1)))
def JP (x0:List (Int×Int)) (x1 x2:Int):Option (Bool):=
 Option.bind (α:=U36) (
   (Bp x1 0 120).bind λc1=>
   if(!c1)then
    some (x0,x1,x2,true)
   else
    (Bp x2 0 60).bind λc2=>
    some (x0,x1,x2,(!c2))) λv3=>
 if v3.2.2.2 then
  some false
 else
  (Ab Qy (v3.1,v3.2.1,v3.2.2.1,0,v3.1,(v3.1.length:Int),0)).bind λv9=>
  match v9 with
  | .inl y10=>
   some (decide (y10.2=y10.1))
  | .inr s11=>
   some s11
def Cs (y:U65):Option (U65⊕((List (Int×Int)×Int)⊕Bool)):=
 if decide (y.2.2.2.2 < y.2.2.2.1)then
  gX y.2.2.1 y.2.2.2.2 λr1=>
  Option.bind (α:=AnC) (
    (Bp r1.2 1 120).bind λc2=>
    if(!c2)then
     some (y.1,y.2.1,y.2.2.1,y.2.2.2.1,y.2.2.2.2,true,r1.1,r1.2)
    else
    some (y.1,y.2.1,y.2.2.1,y.2.2.2.1,y.2.2.2.2,decide (120 < y.2.1),r1.1,r1.2)) λv3=>
  if v3.2.2.2.2.2.1 then
   some (.inr (.inr false))
  else
   some (.inl (v3.1,wI (v3.2.1+v3.2.2.2.2.2.2.2),v3.2.2.1,v3.2.2.2.1,wI (v3.2.2.2.2.1+1)))
 else
  some (.inr (.inl (y.1,y.2.1)))
def JF (x0:List (Int×Int)):Option (Bool):=
 (Ab Cs (x0,0,x0,(x0.length:Int),0)).bind λv4=>
 match v4 with
 | .inl y5=>
  (JP y5.1 y5.2 60).bind λc7=>
  some c7
 | .inr s6=>
  some s6
def Cf:List Int->List (Int×Int)
 | a::b::r=>(a,b)::Cf r
 | _=>[]
def HO (x0:List Int):Option (List (Int×Int)×Bool):=
 if x0.length<=1048576/\∀x∈x0,0<=x/\x<=255 then(if x0.length % 2=0 then Option.bind (JF (Cf x0)) λok=>some (if ok=true then(Cf x0,true)else([],false))else some ([],false))else none
def KZ (x0:List (Int×(Int×LB))):Option ((Int×(Int×Bool))):=
 (Fj x0).bind λc1=>
 if(!c1)then
  some (0,0,false)
 else
  (Ld x0).bind λc2=>
  some (c2.1,c2.2.1,c2.2.2)
def RI (y:U49):Option (U49⊕(Unit⊕Bool)):=
 if decide (y.2.2.2 < y.2.2.1)then
  gX y.2.1 y.2.2.2 λr1=>
  (KZ r1).bind λc2=>
  Option.bind (α:=U75) (
    if(!c2.2.2)then
     some (c2.2.1,y.2.1,y.2.2.1,y.2.2.2,true)
    else
    some (c2.2.1,y.2.1,y.2.2.1,y.2.2.2,decide (¬ c2.1=y.1))) λv3=>
  if v3.2.2.2.2 then
   some (.inr (.inr false))
  else
   some (.inl (v3.1,v3.2.1,v3.2.2.1,wI (v3.2.2.2.1+1)))
 else
  some (.inr (.inl ()))
def NR (x0:Int) (x1:List (List (Int×(Int×LB)))):Option (Bool):=
 (Ab RI (x0,x1,(x1.length:Int),0)).bind λv4=>
 match v4 with
 | .inl y5=>
  some true
 | .inr s6=>
  some s6
def IP (x0:Int) (x1:LB) (x2:List (Int×Int)) (x3:List (List (Int×(Int×LB)))):Option (Bool):=
 Option.bind (α:=Bool) (
  (Bp x0 0 60).bind λc1=>
  if c1 then
   if decide ((x1.length:Int)<=120)then
    (JP x2 (x1.length:Int) x0).bind λc2=>
    if c2 then
     if decide ((x3.length:Int)<=(wI (60 - x0)))then
      (NR (x1.length:Int) x3).bind λc3=>
      some c3
     else
     some false
    else
    some false
   else
   some false
  else
  some false) λv4=>
 some v4
def El (x0 x1:Int):Option (Int):=
 cZ x0 <|
 some (wI (x1 * 2 ^ (min (x0.toNat) (IntKind.bits .i64))))
def HE (x0 x1:Int):Option (Int):=
 cZ x0 <|
 some (wI ((wI (x1+1)) * 2 ^ (min (x0.toNat) (IntKind.bits .i64))))
def HV (y:AeI):Option (AeI⊕LB):=
 if decide (y.2.2.2.2.2 < y.2.2.2.2.1)then
  gX y.2.2.2.1 y.2.2.2.2.2 λr1=>
  sX y.2.2.1 (wI (y.2.2.1+r1.1)) (y.1.length:Int) (y.1.length) <|
  cK (decide (((((y.1:LB).drop (y.2.2.1.toNat)).take ((wI (y.2.2.1+r1.1)).toNat - y.2.2.1.toNat)).length+r1.2.2.length:Nat)<=9223372036854775807)) <|
  cK (decide ((y.2.1.length+((((y.1:LB).drop (y.2.2.1.toNat)).take ((wI (y.2.2.1+r1.1)).toNat - y.2.2.1.toNat):LB)++r1.2.2).length:Nat)<=9223372036854775807)) <|
  some (.inl (y.1,(y.2.1:LB)++((((y.1:LB).drop (y.2.2.1.toNat)).take ((wI (y.2.2.1+r1.1)).toNat - y.2.2.1.toNat):LB)++r1.2.2),wI (y.2.2.1+(wI (r1.1+r1.2.1))),y.2.2.2.1,y.2.2.2.2.1,wI (y.2.2.2.2.2+1)))
 else
  some (.inr y.2.1)
def O1 (x0:LB) (x1:List (Int×(Int×LB))):Option LB:=
 (Ab HV (x0,([]:LB),0,x1,(x1.length:Int),0)).bind λv2=>
 some v2
def D4 (y:U51):Option (U51⊕LB):=
 if decide (y.2.2.2 < y.2.2.1)then
  gX y.2.1 y.2.2.2 λr1=>
  (O1 y.1 r1).bind λc2=>
  some (.inl (c2,y.2.1,y.2.2.1,wI (y.2.2.2+1)))
 else
  some (.inr y.1)
def Ek (x0:Int) (x1:LB) (x2:List (Int×Int)) (x3:List (List (Int×(Int×LB)))) (x4:Int):Option LB:=
 sX 0 (wI (x4 - x0)) (x3.length:Int) (x3.length) <|
 (Ab D4 (x1,(List.drop (Int.toNat 0) x3).take ((wI (x4 - x0)).toNat - Int.toNat 0),(((List.drop (Int.toNat 0) x3).take ((wI (x4 - x0)).toNat - Int.toNat 0)).length:Int),0)).bind λv3=>
 some v3
def Vu (x0:Int):Option (List (Int×(Int×LB))):=
 if decide (x0=0)then
  some []
 else
  some [(x0,(0,[]))]
def K8 (y:Al2):Option (Al2⊕U78):=
 if decide (y.2.2.2.2.1 < y.2.2.2.1)then
  cK (Aa (y.2.2.2.2.2.1.length+([decide (0 < y.2.2.2.2.2.2.2.1)]:List Bool).length) 1) <|
  cK (Aa (y.2.2.2.2.2.2.1.length+([([]:LB)]:List LB).length) 16) <|
  some (.inl (y.1,y.2.1,y.2.2.1,y.2.2.2.1,wI (y.2.2.2.2.1+1),y.2.2.2.2.2.1++([decide (0 < y.2.2.2.2.2.2.2.1)]:List Bool),y.2.2.2.2.2.2.1++([([]:LB)]:List LB),y.2.2.2.2.2.2.2.1,y.2.2.2.2.2.2.2.2.1,y.2.2.2.2.2.2.2.2.2))
 else
  some (.inr (y.1,y.2.1,y.2.2.1,y.2.2.2.2.2.1,y.2.2.2.2.2.2.1))
def Ln (y:U78):Option (U78⊕(List Bool×List LB)):=
 if decide (y.2.2.1 < y.2.1)then
  gX y.1 y.2.2.1 λr6=>
  cZ (wI ((y.2.2.2.2.length:Int) - 1)) <|
  cK (decide (wI ((y.2.2.2.2.length:Int) - 1) < (y.2.2.2.2.length:Int))) <|
  Option.bind (y.2.2.2.2[0+(wI ((y.2.2.2.2.length:Int) - 1)).toNat]?) λr7=>
  cK (decide ((r7.length+r6.2.2.length:Nat)<=9223372036854775807)) <|
  cZ (wI ((y.2.2.2.2.length:Int) - 1)) <|
  cK (decide (wI ((y.2.2.2.2.length:Int) - 1) < (y.2.2.2.2.length:Int))) <|
  Option.bind (y.2.2.2.2[0+(wI ((y.2.2.2.2.length:Int) - 1)).toNat]?) λr8=>
  Option.bind (y.2.2.2.2[0+(wI ((y.2.2.2.2.length:Int) - 1)).toNat]?) λr9=>
  (Ab K8 (y.1,y.2.1,y.2.2.1,wI (r6.1+r6.2.1),0,y.2.2.2.1,y.2.2.2.2.set (0+(wI ((y.2.2.2.2.length:Int) - 1)).toNat) ((r7:LB)++r6.2.2),r6.1,r6.2.1,r6.2.2)).bind λv10=>
  some (.inl (v10.1,v10.2.1,wI (v10.2.2.1+1),v10.2.2.2.1,v10.2.2.2.2))
 else
  some (.inr (y.2.2.2.1,y.2.2.2.2))
def Q7 (x0:List (Int×(Int×LB))):Option ((List Bool×List LB)):=
 (Ab Ln (x0,(x0.length:Int),0,[],[([]:LB)])).bind λv11=>
 some (v11.1,v11.2)
def DN (x0 x1:Int) (x2:LB) (x3:List (Int×(Int×LB))):Option (List (Int×(Int×LB))):=
 Option.bind (α:=List (Int×(Int×LB))) (
  if decide (x0=0) && (decide (x1=0) && (((x2:LB) == []) && true))then
   some x3
  else
   Option.bind (α:=U97) (
    if decide (0 < (x3.length:Int))then
     cZ (wI ((x3.length:Int) - 1)) <|
     cK (decide (wI ((x3.length:Int) - 1) < (x3.length:Int))) <|
     Option.bind (x3[0+(wI ((x3.length:Int) - 1)).toNat]?) λr1=>
     Option.bind (x3[0+(wI ((x3.length:Int) - 1)).toNat]?) λr2=>
     Option.bind (x3[0+(wI ((x3.length:Int) - 1)).toNat]?) λr3=>
     (EX r1.1 r2.2.1 r3.2.2).bind λc4=>
     (EX x0 x1 x2).bind λc5=>
     some ((x3.length:Int),decide (c4=c5),x0,x1,x2,x3)
    else
    some ((x3.length:Int),false,x0,x1,x2,x3)) λv6=>
   Option.bind (α:=List (Int×(Int×LB))) (
    if v6.2.1 then
     cZ (wI (v6.1 - 1)) <|
     cK (decide (wI (v6.1 - 1) < (v6.2.2.2.2.2.length:Int))) <|
     Option.bind (v6.2.2.2.2.2[0+(wI (v6.1 - 1)).toNat]?) λr7=>
     Option.bind (v6.2.2.2.2.2[0+(wI (v6.1 - 1)).toNat]?) λr8=>
     Option.bind (v6.2.2.2.2.2[0+(wI (v6.1 - 1)).toNat]?) λr9=>
     cK (decide ((r9.2.2.length+v6.2.2.2.2.1.length:Nat)<=9223372036854775807)) <|
     Option.bind (v6.2.2.2.2.2[0+(wI (v6.1 - 1)).toNat]?) λr10=>
     Option.bind (v6.2.2.2.2.2[0+(wI (v6.1 - 1)).toNat]?) λr11=>
     Option.bind ((v6.2.2.2.2.2.set (0+(wI (v6.1 - 1)).toNat) (wI (r7.1+v6.2.2.1),r11.2))[0+(wI (v6.1 - 1)).toNat]?) λr12=>
     Option.bind ((v6.2.2.2.2.2.set (0+(wI (v6.1 - 1)).toNat) (wI (r7.1+v6.2.2.1),r11.2))[0+(wI (v6.1 - 1)).toNat]?) λr13=>
     Option.bind (((v6.2.2.2.2.2.set (0+(wI (v6.1 - 1)).toNat) (wI (r7.1+v6.2.2.1),r11.2)).set (0+(wI (v6.1 - 1)).toNat) (r13.1,(wI (r8.2.1+v6.2.2.2.1),r13.2.2)))[0+(wI (v6.1 - 1)).toNat]?) λr14=>
     Option.bind (((v6.2.2.2.2.2.set (0+(wI (v6.1 - 1)).toNat) (wI (r7.1+v6.2.2.1),r11.2)).set (0+(wI (v6.1 - 1)).toNat) (r13.1,(wI (r8.2.1+v6.2.2.2.1),r13.2.2)))[0+(wI (v6.1 - 1)).toNat]?) λr15=>
     some (((v6.2.2.2.2.2.set (0+(wI (v6.1 - 1)).toNat) (wI (r7.1+v6.2.2.1),r11.2)).set (0+(wI (v6.1 - 1)).toNat) (r13.1,(wI (r8.2.1+v6.2.2.2.1),r13.2.2))).set (0+(wI (v6.1 - 1)).toNat) (r15.1,(r15.2.1,(r9.2.2:LB)++v6.2.2.2.2.1)))
    else
    cK (Aa (v6.2.2.2.2.2.length+([(v6.2.2.1,(v6.2.2.2.1,v6.2.2.2.2.1))]:List (Int×(Int×LB))).length) 32) <|
    some (v6.2.2.2.2.2++([(v6.2.2.1,(v6.2.2.2.1,v6.2.2.2.2.1))]:List (Int×(Int×LB))))) λv16=>
   some v16) λv17=>
 some v17
def NV (y:ZT):Option (ZT⊕(List (Int×(Int×LB)))):=
 if decide (y.2.2.1 < y.2.1)then
  gX y.1 y.2.2.1 λr9=>
  Option.bind (α:=Ant) (
   if(!((r9:LB) == ([]:LB)))then
    (DN 0 0 r9 y.2.2.2.2.2).bind λc10=>
    some (y.2.2.1,y.1,y.2.1,y.2.2.1,y.2.2.2.1,y.2.2.2.2.1,c10)
   else
    some (y.2.2.1,y.1,y.2.1,y.2.2.1,y.2.2.2.1,y.2.2.2.2.1,y.2.2.2.2.2)) λv11=>
  Option.bind (α:=ZT) (
   if decide (v11.1=(v11.2.2.2.2.1.length:Int))then
    some (v11.2.1,v11.2.2.1,v11.2.2.2.1,v11.2.2.2.2.1,v11.2.2.2.2.2.1,v11.2.2.2.2.2.2)
   else
   gX v11.2.2.2.2.1 v11.1 λr12=>
   Option.bind (α:=ZT) (
     if r12 then
      (DN 1 0 [] v11.2.2.2.2.2.2).bind λc13=>
      some (v11.2.1,v11.2.2.1,v11.2.2.2.1,v11.2.2.2.2.1,v11.2.2.2.2.2.1,c13)
     else
      (DN 0 1 [] v11.2.2.2.2.2.2).bind λc14=>
      some (v11.2.1,v11.2.2.1,v11.2.2.2.1,v11.2.2.2.2.1,v11.2.2.2.2.2.1,c14)) λv15=>
   some (v15.1,v15.2.1,v15.2.2.1,v15.2.2.2.1,v15.2.2.2.2.1,v15.2.2.2.2.2)) λv16=>
  some (.inl (v16.1,v16.2.1,wI (v16.2.2.1+1),v16.2.2.2.1,v16.2.2.2.2.1,v16.2.2.2.2.2))
 else
  some (.inr y.2.2.2.2.2)
def JU (x0:List Bool) (x1:List LB):Option (List (Int×(Int×LB))):=
 (Ab NV (x1,(x1.length:Int),0,x0,x1,[])).bind λv17=>
 some v17
def Ho (y:Aiy):Option (Aiy⊕Aol):=
 if decide (y.2.2.2.2.2.2.2.2.1 < y.2.2.2.2.2.2.2.1)then
  cZ y.1 <|
  cK (decide (y.1 < (y.2.2.2.2.2.2.2.2.2.2.1.length:Int))) <|
  Option.bind (y.2.2.2.2.2.2.2.2.2.2.1[0+y.1.toNat]?) λr16=>
  Option.bind (α:=Aiy) (
   if r16 then
    sX y.2.2.2.2.2.2.2.2.1 (wI (y.2.2.2.2.2.2.2.2.1+1)) (y.2.2.1.length:Int) (y.2.2.1.length) <|
    cK (decide ((y.2.2.2.1.length+(((y.2.2.1:LB).drop (y.2.2.2.2.2.2.2.2.1.toNat)).take ((wI (y.2.2.2.2.2.2.2.2.1+1)).toNat - y.2.2.2.2.2.2.2.2.1.toNat)).length:Nat)<=9223372036854775807)) <|
    some (y.1,y.2.1,y.2.2.1,(y.2.2.2.1:LB)++(((y.2.2.1:LB).drop (y.2.2.2.2.2.2.2.2.1.toNat)).take ((wI (y.2.2.2.2.2.2.2.2.1+1)).toNat - y.2.2.2.2.2.2.2.2.1.toNat)),y.2.2.2.2.1,y.2.2.2.2.2.1,y.2.2.2.2.2.2.1,y.2.2.2.2.2.2.2.1,y.2.2.2.2.2.2.2.2.1,y.2.2.2.2.2.2.2.2.2.1,y.2.2.2.2.2.2.2.2.2.2.1,y.2.2.2.2.2.2.2.2.2.2.2.1,y.2.2.2.2.2.2.2.2.2.2.2.2.1,y.2.2.2.2.2.2.2.2.2.2.2.2.2)
   else
    some (y.1,y.2.1,y.2.2.1,y.2.2.2.1,y.2.2.2.2.1,y.2.2.2.2.2.1,y.2.2.2.2.2.2.1,y.2.2.2.2.2.2.2.1,y.2.2.2.2.2.2.2.2.1,y.2.2.2.2.2.2.2.2.2.1,y.2.2.2.2.2.2.2.2.2.2.1,y.2.2.2.2.2.2.2.2.2.2.2.1,y.2.2.2.2.2.2.2.2.2.2.2.2.1,y.2.2.2.2.2.2.2.2.2.2.2.2.2)) λv17=>
  cZ (wI (v17.1+1)) <|
  cK (decide (wI (v17.1+1) < (v17.2.2.2.2.2.2.2.2.2.2.2.1.length:Int))) <|
  Option.bind (v17.2.2.2.2.2.2.2.2.2.2.2.1[0+(wI (v17.1+1)).toNat]?) λr18=>
  cK (decide ((v17.2.2.2.1.length+r18.length:Nat)<=9223372036854775807)) <|
  some (.inl (wI (v17.1+1),v17.2.1,v17.2.2.1,(v17.2.2.2.1:LB)++r18,v17.2.2.2.2.1,v17.2.2.2.2.2.1,v17.2.2.2.2.2.2.1,v17.2.2.2.2.2.2.2.1,wI (v17.2.2.2.2.2.2.2.2.1+1),v17.2.2.2.2.2.2.2.2.2.1,v17.2.2.2.2.2.2.2.2.2.2.1,v17.2.2.2.2.2.2.2.2.2.2.2.1,v17.2.2.2.2.2.2.2.2.2.2.2.2.1,v17.2.2.2.2.2.2.2.2.2.2.2.2.2))
 else
  some (.inr (y.1,y.2.1,y.2.2.2.1,y.2.2.2.2.1,y.2.2.2.2.2.1,y.2.2.2.2.2.2.1,y.2.2.2.2.2.2.2.2.2.1,y.2.2.2.2.2.2.2.2.2.2.1,y.2.2.2.2.2.2.2.2.2.2.2.1,y.2.2.2.2.2.2.2.2.2.2.2.2.1,y.2.2.2.2.2.2.2.2.2.2.2.2.2))
def M6 (y:AeM):Option (AeM⊕(List Bool×List LB)):=
 if decide (y.2.2.2.2.1 < y.2.2.2.1)then
  Option.bind (α:=AeM⊕(List Bool×List LB)) (
    cZ y.2.2.2.2.1 <|
    cK (decide (y.2.2.2.2.1 < (y.2.2.1.length:Int))) <|
    Option.bind (y.2.2.1[0+y.2.2.2.2.1.toNat]?) λr15=>
    (Ab Ho (y.1,y.2.2.2.2.1,r15,y.2.1,y.2.2.1,y.2.2.2.1,y.2.2.2.2.1,(r15.length:Int),0,y.2.2.2.2.2.1,y.2.2.2.2.2.2.1,y.2.2.2.2.2.2.2.1,y.2.2.2.2.2.2.2.2.1,y.2.2.2.2.2.2.2.2.2)).bind λv19=>
    cK (Aa (v19.2.2.2.2.2.2.2.2.2.2.length+([v19.2.2.1]:List LB).length) 16) <|
    if decide (v19.2.1=(v19.2.2.2.2.2.2.1.length:Int))then
     some (.inr (v19.2.2.2.2.2.2.2.2.2.1,v19.2.2.2.2.2.2.2.2.2.2++([v19.2.2.1]:List LB)))
    else
    cZ v19.2.1 <|
    cK (decide (v19.2.1 < (v19.2.2.2.2.2.2.1.length:Int))) <|
    Option.bind (v19.2.2.2.2.2.2.1[0+v19.2.1.toNat]?) λr20=>
    if(!r20)then
     cK (Aa (v19.2.2.2.2.2.2.2.2.2.1.length+([false]:List Bool).length) 1) <|
     some (.inl (v19.1,([]:LB),v19.2.2.2.1,v19.2.2.2.2.1,v19.2.2.2.2.2.1,v19.2.2.2.2.2.2.1,v19.2.2.2.2.2.2.2.1,v19.2.2.2.2.2.2.2.2.1,v19.2.2.2.2.2.2.2.2.2.1++([false]:List Bool),v19.2.2.2.2.2.2.2.2.2.2++([v19.2.2.1]:List LB)))
    else
    cZ v19.1 <|
    cK (decide (v19.1 < (v19.2.2.2.2.2.2.2.1.length:Int))) <|
    Option.bind (v19.2.2.2.2.2.2.2.1[0+v19.1.toNat]?) λr21=>
    cK (Aa (v19.2.2.2.2.2.2.2.2.2.1.length+([r21]:List Bool).length) 1) <|
    cZ (wI (v19.1+1)) <|
    cK (decide (wI (v19.1+1) < (v19.2.2.2.2.2.2.2.2.1.length:Int))) <|
    Option.bind (v19.2.2.2.2.2.2.2.2.1[0+(wI (v19.1+1)).toNat]?) λr22=>
    some (.inl (wI (v19.1+1),r22,v19.2.2.2.1,v19.2.2.2.2.1,v19.2.2.2.2.2.1,v19.2.2.2.2.2.2.1,v19.2.2.2.2.2.2.2.1,v19.2.2.2.2.2.2.2.2.1,v19.2.2.2.2.2.2.2.2.2.1++([r21]:List Bool),v19.2.2.2.2.2.2.2.2.2.2++([v19.2.2.1]:List LB)))) λv23=>
  match v23 with
  | .inl y24=>
   some (.inl (y24.1,y24.2.1,y24.2.2.1,y24.2.2.2.1,wI (y24.2.2.2.2.1+1),y24.2.2.2.2.2.1,y24.2.2.2.2.2.2.1,y24.2.2.2.2.2.2.2.1,y24.2.2.2.2.2.2.2.2.1,y24.2.2.2.2.2.2.2.2.2))
  | .inr s25=>
   some (.inr (s25.1,s25.2))
 else
  some (.inr (y.2.2.2.2.2.2.2.2.1,y.2.2.2.2.2.2.2.2.2))
def N3 (x0 x1:List (Int×(Int×LB))):Option (List (Int×(Int×LB))):=
 (Q7 x0).bind λc1=>
 (Q7 x1).bind λc2=>
 cZ 0 <|
 cK (decide (0 < (c2.2.length:Int))) <|
 Option.bind (c2.2[0+Int.toNat 0]?) λr3=>
 (Ab M6 (0,r3,c1.2,(c1.2.length:Int),0,c1.1,c2.1,c2.2,[],[])).bind λv26=>
 (JU v26.1 v26.2).bind λc27=>
 some c27
def Gv (y:U55):Option (U55⊕(List (Int×(Int×LB)))):=
 if decide (y.2.2.2 < y.2.2.1)then
  gX y.2.1 y.2.2.2 λr4=>
  (N3 y.1 r4).bind λc5=>
  some (.inl (c5,y.2.1,y.2.2.1,wI (y.2.2.2+1)))
 else
  some (.inr y.1)
def LX (x0:List (List (Int×(Int×LB)))):Option (List (Int×(Int×LB))):=
 gX x0 0 λr1=>
 sX 1 (x0.length:Int) (x0.length:Int) (x0.length) <|
 (Ab Gv (r1,(List.drop (Int.toNat 1) x0).take ((x0.length:Int).toNat - Int.toNat 1),(((List.drop (Int.toNat 1) x0).take ((x0.length:Int).toNat - Int.toNat 1)).length:Int),0)).bind λv6=>
 cK (Aa (([]:List (Int×(Int×LB))).length+v6.length) 32) <|
 some (([]:List (Int×(Int×LB)))++v6)
def Fc (x0:Int) (x1:LB) (x2:List (Int×Int)) (x3:List (List (Int×(Int×LB)))) (x4 x5:Int):Option (List (Int×(Int×LB))):=
 if decide (x4=x5)then
  (Ek x0 x1 x2 x3 x4).bind λc1=>
  (Vu (c1.length:Int)).bind λc2=>
  some c2
 else
 sX (wI (x4 - x0)) (wI (x5 - x0)) (x3.length:Int) (x3.length) <|
 (LX ((List.drop ((wI (x4 - x0)).toNat) x3).take ((wI (x5 - x0)).toNat - (wI (x4 - x0)).toNat))).bind λc3=>
 some c3
def As (y:U52):Option (U52⊕(Unit⊕Bool)):=match y with
 | (a,b,c,d)=>
 if decide (d < c)then
  gX a d λr1=>
  gX b d λr2=>
  if(!(decide (r1.1=r2.1) && (decide (r1.2.1=r2.2.1) && (((r1.2.2:LB) == r2.2.2) && true))))then
   some (.inr (.inr false))
  else
   some (.inl (a,b,c,wI (d+1)))
 else
  some (.inr (.inl ()))
def Av (x0 x1:List (Int×(Int×LB))):Option (Bool):=
 if decide (¬ (x0.length:Int)=(x1.length:Int))then
  some false
 else
  (Ab As (x0,x1,(x0.length:Int),0)).bind λv3=>
  match v3 with
  | .inl y4=>
   some true
  | .inr s5=>
   some s5
def Kb (x0 x1:List (Int×(Int×LB))):Option (Bool):=
 (Av x0 x1).bind λc1=>
 some c1
def Kh (x0:Int) (x1:LB) (x2:List (Int×Int)) (x3:List (List (Int×(Int×LB)))):Option (Int):=
 some (wI (x0+(x3.length:Int)))
def Im (y:(Int×(Int×(LI×Int)))):Option ((Int×(Int×(LI×Int)))⊕LI):=match y with
 | (a,b,c,d)=>
 if decide (d<=a)then
  cK (decide (¬ b=0)) <|
  Option.bind (α:=(Int×(Int×(LI×Int)))) (
   if decide (Int.tmod d b=0)then
    cK (Aa (c.length+([d]:LI).length) 8) <|
    some (a,b,c++([d]:LI),d)
   else
    some (a,b,c,d)) λ(e,f,g,h)=>
  some (.inl (e,f,g,wI (h+1)))
 else
  some (.inr c)
def MA (x0 x1 x2:Int):Option LI:=
 (Ab Im (x1,x2,[],wI (x0+1))).bind λv2=>
 some v2
def Fo (y:U71):Option (U71⊕(List (Int×Int))):=
 if decide (y.2.1 < 1024)then
  (DE y.2.2.1 y.2.2.2.1 y.2.2.2.2 y.2.1).bind λc1=>
  Option.bind (α:=U71) (
   if decide (¬ c1=0)then
    cK (Aa (y.1.length+([(y.2.1,c1)]:List (Int×Int)).length) 16) <|
    some (y.1++([(y.2.1,c1)]:List (Int×Int)),y.2.1,y.2.2.1,y.2.2.2.1,y.2.2.2.2)
   else
    some (y.1,y.2.1,y.2.2.1,y.2.2.2.1,y.2.2.2.2)) λv2=>
  some (.inl (v2.1,wI (v2.2.1+1),v2.2.2.1,v2.2.2.2.1,v2.2.2.2.2))
 else
  some (.inr y.1)
def K3 (x0:Int) (x1:LI) (x2:LL):Option (List (Int×Int)):=
 (Ab Fo ([],0,x0,x1,x2)).bind λv3=>
 some v3
def GQ (x0:List Int):Option (List Int):=
 if x0.length < 4611686018427387904 then some (x0.mergeSort λx y=>decide (x<=y))else none
def Ds (y:U25):Option (U25⊕LI):=match y with
 | (a,b,c)=>
 if decide (c < (a.1.length:Int))then
  (Fl a c).bind λc1=>
  Option.bind (α:=U25) (
   if c1 then
    cK (Aa (b.length+([c]:LI).length) 8) <|
    some (a,b++([c]:LI),c)
   else
    some (a,b,c)) λ(d,e,f)=>
  some (.inl (d,e,wI (f+1)))
 else
  some (.inr b)
def F7 (x0:U44):Option LI:=
 (Ab Ds (x0,[],33)).bind λv3=>
 some v3
def Dq (y:U32):Option (U32⊕(Unit⊕Bool)):=match y with
 | (a,b,c,d)=>
 if decide (d < c)then
  gX a d λr1=>
  gX b d λr2=>
  if decide (¬ r1=r2)then
   some (.inr (.inr false))
  else
   some (.inl (a,b,c,wI (d+1)))
 else
  some (.inr (.inl ()))
def Eb (x0 x1:LI):Option (Bool):=
 if decide (¬ (x0.length:Int)=(x1.length:Int))then
  some false
 else
  (Ab Dq (x0,x1,(x0.length:Int),0)).bind λv3=>
  match v3 with
  | .inl y4=>
   some true
  | .inr s5=>
   some s5
def Oz (y:Ue):Option (Ue⊕TO):=match y with
 | (a,b,c,d,e,f,g,h,i)=>
 if decide (c < b)then
  gX a c λr1=>
  Option.bind (α:=Alq) (
   if g then
    some (r1,a,b,c,d,e,f,true,h,i)
   else
    (AR e r1).bind λc2=>
    some (r1,a,b,c,d,e,f,c2,h,i)) λ(j,k,l,m,n,o,p,q,r,s)=>
  cK (Aa (o.length+([j]:LI).length) 8) <|
  some (.inl (k,l,wI (m+1),n,o++([j]:LI),p,q,r,s))
 else
  some (.inr (d,e,f,g,h,i))
def QM (x0 x1 x2 x3:LI) (x4:Bool) (x5:LL) (x6:List (Int×Int)):Option TO:=
 (Ab Oz (x0,(x0.length:Int),0,x1,x2,x3,x4,x5,x6)).bind λ(a,b,c,d,e,f)=>
 some (a,b,c,d,e,f)
def Dj (y:Ue):Option (Ue⊕Alf):=match y with
 | (a,b,c,d,e,f,g,h,i)=>
 if decide (c < b)then
  cZ c <|
  cK (decide (c < (a.length:Int))) <|
  Option.bind (a[0+c.toNat]?) λr1=>
  Option.bind (α:=AnA) (
   if g then
    some (a,r1,b,c,d,e,f,true,h,i)
   else
    (AR e r1).bind λc2=>
    some (a,r1,b,c,d,e,f,c2,h,i)) λ(j,k,l,m,n,o,p,q,r,s)=>
  cK (Aa (o.length+([k]:LI).length) 8) <|
  some (.inl (j,l,wI (m+1),n,o++([k]:LI),p,q,r,s))
 else
  some (.inr (a,d,e,f,g,h,i))
def BO (x0 x1 x2 x3:LI) (x4:Bool) (x5:LL) (x6:List (Int×Int)):Option Alf:=
 (Ab Dj (x0,(x0.length:Int),0,x1,x2,x3,x4,x5,x6)).bind λ(a,b,c,d,e,f,g)=>
 some (a,b,c,d,e,f,g)
def DQ (y:Ue):Option (Ue⊕TO):=match y with
 | (a,b,c,d,e,f,g,h,i)=>
 if decide (c < b)then
  gX a c λr1=>
  Option.bind (α:=Alq) (
   if g then
    some (r1,a,b,c,d,e,f,true,h,i)
   else
    (AR e r1).bind λc2=>
    some (r1,a,b,c,d,e,f,c2,h,i)) λ(j,k,l,m,n,o,p,q,r,s)=>
  cK (Aa (o.length+([j]:LI).length) 8) <|
  some (.inl (k,l,wI (m+1),n,o++([j]:LI),p,q,r,s))
 else
  some (.inr (d,e,f,g,h,i))
def EI (x0 x1 x2 x3:LI) (x4:Bool) (x5:LL) (x6:List (Int×Int)):Option TO:=
 (Ab DQ (x0,(x0.length:Int),0,x1,x2,x3,x4,x5,x6)).bind λ(a,b,c,d,e,f)=>
 some (a,b,c,d,e,f)
def Ca (y:Amu):Option (Amu⊕AlP):=match y with
 | (a,b,c,d,e,f,g,h,i,j,k,l,m,n,o,p,q,r,s,t,u,v)=>
 if decide (d < c)then
  gX b d λr4=>
  Option.bind (α:=Anr) (
   if decide (C3 v r4=0)then
    (BO [r4] e f g h i v).bind λ(_,w,x,z,a0,b0,c0)=>
    some (a,r4,b,c,d,w,x,z,a0,b0,j,k,l,m,n,o,p,q,r,s,t,u,c0)
   else
    some (a,r4,b,c,d,e,f,g,h,i,j,k,l,m,n,o,p,q,r,s,t,u,v)) λ(d0,e0,f0,g0,h0,i0,j0,k0,l0,m0,n0,o0,p0,q0,r0,s0,t0,u0,v0,w0,x0,y0,z0)=>
  some (.inl (d0,f0,g0,wI (h0+1),i0,j0,k0,l0,m0,n0,o0,p0,q0,r0,s0,t0,u0,v0,w0,x0,y0,DM z0 e0 (wI ((C3 z0 e0)+1))))
 else
  some (.inr (a,e,f,g,h,i,j,k,l,m,n,o,p,q,r,s,t,u,v))
def Bu (x0:Int) (x1 x2 x3:LI) (x4:Bool) (x5:LL) (x6:Int) (x7:Bool) (x8 x9 x10 x11 x12 x13:Int) (x14:LL) (x15 x16 x17:LI) (x18:List (Int×Int)):Option AlP:=
 Option.bind (α:=An4) (
   (JV (x14,(x15,(x16,x17))) x0).bind λ(a,b,c)=>
   some (a,b,c,x1,x2,x3,x4,x5,x6,x7,x8,x9,x10,x11,x12,x13,x14,x15,x16,x17,x18)) λ(d,e,f,g,h,i,j,k,l,m,n,o,p,q,r,s,t,u,v,w,x)=>
 if(!f)then
  some (([]:LB),g,h,i,true,k,l,m,n,o,p,q,r,s,t,u,v,w,x)
 else
 sX (wI ((e.length:Int) - 1)) (e.length:Int) (e.length:Int) (e.length) <|
 (EI ((List.drop ((wI ((e.length:Int) - 1)).toNat) e).take ((e.length:Int).toNat - (wI ((e.length:Int) - 1)).toNat)) g h i j k x).bind λ(y,z,a0,b0,c0,d0)=>
 sX 0 (wI ((e.length:Int) - 1)) (e.length:Int) (e.length) <|
 (Ab Ca (d,(List.drop (Int.toNat 0) e).take ((wI ((e.length:Int) - 1)).toNat - Int.toNat 0),(((List.drop (Int.toNat 0) e).take ((wI ((e.length:Int) - 1)).toNat - Int.toNat 0)).length:Int),0,y,z,a0,b0,c0,l,m,n,o,p,q,r,s,t,u,v,w,d0)).bind λ(e0,f0,g0,h0,i0,j0,k0,l0,m0,n0,o0,p0,q0,r0,s0,t0,u0,v0,w0)=>
 some (e0,f0,g0,h0,i0,j0,k0,l0,m0,n0,o0,p0,q0,r0,s0,t0,u0,v0,w0)
def BC (x0:Int) (x1 x2 x3:LI) (x4:Bool) (x5:LL) (x6:Int) (x7:Bool) (x8 x9 x10 x11 x12 x13:Int) (x14:LL) (x15 x16 x17:LI) (x18:Int) (x19:LI) (x20:LL) (x21:List (Int×Int)):Option Amd:=
 cK (Aa (x1.length+([x0]:LI).length) 8) <|
 (DE x18 x19 x20 x0).bind λc1=>
 (FH (x14,(x15,(x16,x17))) c1).bind λ(a,b,c)=>
 Option.bind (α:=AnN) (
  if x4 then
   some (a,b,x1++([x0]:LI),x2,x3,true,x5,x6,x7,x8,x9,x10,x11,x12,x13,x14,x15,x16,x17,x18,x19,x20,x21)
  else
  some (a,b,x1++([x0]:LI),x2,x3,(!c),x5,x6,x7,x8,x9,x10,x11,x12,x13,x14,x15,x16,x17,x18,x19,x20,x21)) λ(d,e,f,g,h,i,j,k,l,m,n,o,p,q,r,s,t,u,v,w,x,y,z)=>
 (BO e f g h i j z).bind λ(_,a0,b0,c0,d0,e0,f0)=>
 some (d,a0,b0,c0,d0,e0,k,l,m,n,o,p,q,r,s,t,u,v,w,x,y,f0)
def Ce (y:Aja):Option (Aja⊕AnX):=match y with
 | (a,b,c,d,e,f,g,h,i,j,k,l,m,n,o,p,q,r,s,t,u,v,w,x,z,a0,b0,c0,d0)=>
 if decide (d < c)then
  cZ d <|
  cK (decide (d < (a.length:Int))) <|
  Option.bind (a[0+d.toNat]?) λr5=>
  Option.bind (a[0+d.toNat]?) λr6=>
  Option.bind (α:=Aoc) (
   (Mm r5.1 r6.2).bind λc7=>
   (BC c7 e f g h j k l m n o p q r s t u v w x z i).bind λ(e0,f0,g0,h0,i0,j0,k0,l0,m0,n0,o0,p0,q0,r0,s0,t0,u0,v0,w0,x0,y0,z0)=>
   (Fs e0).bind λc9=>
   some (a,b,c9.1,c9.2,c,d,r5.1,r6.2,f0,g0,h0,i0,z0,j0,k0,l0,m0,n0,o0,p0,q0,r0,s0,t0,u0,v0,w0,x0,y0,a0,b0,c0,d0)) λ(a1,b1,c1,d1,e1,f1,g1,h1,i1,j1,k1,l1,m1,n1,o1,p1,q1,r1,s1,t1,u1,v1,w1,x1,y1,z1,a2,b2,c2,d2,e2,f2,g2)=>
  Option.bind (α:=Anz) (
   if l1 then
    some (a1,b1,c1,e1,f1,g1,h1,i1,j1,k1,true,m1,n1,o1,p1,q1,r1,s1,t1,u1,v1,w1,x1,y1,z1,a2,b2,c2,d2,e2,f2,g2)
   else
   some (a1,b1,c1,e1,f1,g1,h1,i1,j1,k1,(!d1),m1,n1,o1,p1,q1,r1,s1,t1,u1,v1,w1,x1,y1,z1,a2,b2,c2,d2,e2,f2,g2)) λ(h2,i2,j2,k2,l2,m2,_,n2,o2,p2,q2,r2,s2,t2,u2,v2,w2,x2,y2,z2,a3,b3,c3,d3,e3,f3,g3,h3,i3,j3,k3,l3)=>
  cK (Aa (i2.length+([j2]:List (List (Int×(Int×LB)))).length) 24) <|
  Option.bind (α:=Aja) (
   if decide (m2=0)then
    cK (Aa (l3.length+([j2]:List (List (Int×(Int×LB)))).length) 24) <|
    some (h2,i2++([j2]:List (List (Int×(Int×LB)))),k2,l2,n2,o2,p2,q2,r2,s2,t2,u2,v2,w2,x2,y2,z2,a3,b3,c3,d3,e3,f3,g3,h3,i3,j3,k3,l3++([j2]:List (List (Int×(Int×LB)))))
   else
    some (h2,i2++([j2]:List (List (Int×(Int×LB)))),k2,l2,n2,o2,p2,q2,r2,s2,t2,u2,v2,w2,x2,y2,z2,a3,b3,c3,d3,e3,f3,g3,h3,i3,j3,k3,l3)) λ(m3,n3,o3,p3,q3,r3,s3,t3,u3,v3,w3,x3,y3,z3,a4,b4,c4,d4,e4,f4,g4,h4,i4,j4,k4,l4,m4,n4,o4)=>
  some (.inl (m3,n3,o3,wI (p3+1),q3,r3,s3,t3,u3,v3,w3,x3,y3,z3,a4,b4,c4,d4,e4,f4,g4,h4,i4,j4,k4,l4,m4,n4,o4))
 else
  some (.inr (a,b,e,f,g,h,i,j,k,l,m,n,o,p,q,r,s,t,u,v,w,x,z,a0,b0,c0,d0))
def BH (y:AmD):Option (AmD⊕(Qg⊕AaV)):=match y with
 | (a,b,c,d,e,f,g,h,i,j,k,l,m,n,o,p,q,r,s,t,u,v,w,x,z,a0,b0,c0,d0)=>
 if decide (d < c)then
  cZ d <|
  cK (decide (d < (b.length:Int))) <|
  Option.bind (b[0+d.toNat]?) λr18=>
  Option.bind (b[0+d.toNat]?) λr19=>
  cZ d <|
  cK (decide (d < (a.length:Int))) <|
  Option.bind (a[0+d.toNat]?) λr20=>
  (El r18.1 r19.2).bind λc21=>
  (HE r18.1 r19.2).bind λc22=>
  (Fc a0 b0 c0 d0 c21 c22).bind λc23=>
  (Kb r20 c23).bind λc24=>
  if(!c24)then
   some (.inr (.inr (false,j,k,l,m,n,o,p,q,r,s,t,u,v,w,x,z,a0,b0,c0,d0)))
  else
   some (.inl (a,b,c,wI (d+1),e,f,g,h,i,j,k,l,m,n,o,p,q,r,s,t,u,v,w,x,z,a0,b0,c0,d0))
 else
  some (.inr (.inl (e,f,g,h,i,j,k,l,m,n,o,p,q,r,s,t,u,v,w,x,z,a0,b0,c0,d0)))
def BF (y:Aml):Option (Aml⊕(Qg⊕AaV)):=match y with
 | (a,b,c,d,e,f,g,h,i,j,k,l,m,n,o,p,q,r,s,t,u,v,w,x,z,a0,b0,c0)=>
 if decide (c < b)then
  cZ c <|
  cK (decide (c < (a.length:Int))) <|
  Option.bind (a[0+c.toNat]?) λr30=>
  cK (Aa (d.length+([wI (384+r30)]:LI).length) 8) <|
  (DE v w x (wI (384+r30))).bind λc31=>
  (Bu c31 (d++([wI (384+r30)]:LI)) e f g i j k l m n o p q r s t u h).bind λ(d0,e0,f0,g0,h0,i0,j0,k0,l0,m0,n0,o0,p0,q0,r0,s0,t0,u0,v0)=>
  (Ek z a0 b0 c0 r30).bind λc33=>
  if(!((d0:LB) == c33))then
   some (.inr (.inr (false,i0,j0,k0,l0,m0,n0,o0,p0,q0,r0,s0,t0,u0,v,w,x,z,a0,b0,c0)))
  else
   some (.inl (a,b,wI (c+1),e0,f0,g0,h0,v0,i0,j0,k0,l0,m0,n0,o0,p0,q0,r0,s0,t0,u0,v,w,x,z,a0,b0,c0))
 else
  some (.inr (.inl (d,e,f,g,h,i,j,k,l,m,n,o,p,q,r,s,t,u,v,w,x,z,a0,b0,c0)))
def Cd (y:YU) (e:Int×Int):Option YU:=match y with
 | (a,b,c,d,f,g,h,i,j,k,l,m,n,o,p,q,r,s,t,u,v,w,x,z)=>
 (Gz (o,(p,(q,r))) e.1).bind λ(_,_,a0,_)=>
 Option.bind (α:=YU) (
  if d then
   some (a,b,c,true,f,g,h,i,j,k,l,m,n,o,p,q,r,s,t,u,v,w,x,z)
  else
  some (a,b,c,decide (¬ a0=e.2),f,g,h,i,j,k,l,m,n,o,p,q,r,s,t,u,v,w,x,z)) λ(b0,c0,d0,e0,f0,g0,h0,i0,j0,k0,l0,m0,n0,o0,p0,q0,r0,s0,t0,u0,v0,w0,x0,y0)=>
 some (b0,c0,d0,e0,f0,g0,h0,i0,j0,k0,l0,m0,n0,o0,p0,q0,r0,s0,t0,u0,v0,w0,x0,y0)
def Cb (y:AhQ):Option (AhQ⊕YU):=match y with
 | (a,b,c,d,e,f,g,h,i,j,k,l,m,n,o,p,q,r,s,t,u,v,w,x,z,a0,b0)=>
 if decide (c < b)then
  cZ c <|
  cK (decide (c < (a.length:Int))) <|
  Option.bind (a[0+c.toNat]?) λr41=>
  Option.bind (a[0+c.toNat]?) λr42=>
  Option.bind (α:=AhQ) (
   if g then
    some (a,b,c,d,e,f,true,h,i,j,k,l,m,n,o,p,q,r,s,t,u,v,w,x,z,a0,b0)
   else
    (AR d r41.1).bind λc43=>
    some (a,b,c,d,e,f,(!c43),h,i,j,k,l,m,n,o,p,q,r,s,t,u,v,w,x,z,a0,b0)) λ(c0,d0,e0,f0,g0,h0,i0,j0,k0,l0,m0,n0,o0,p0,q0,r0,s0,t0,u0,v0,w0,x0,y0,z0,a1,b1,c1)=>
  some (.inl (c0,d0,wI (e0+1),f0,g0,h0,i0,j0,k0,l0,m0,n0,o0,p0,q0,r0,s0,t0,u0,v0,w0,x0,y0,z0,a1,b1,c1))
 else
  some (.inr (d,e,f,g,h,i,j,k,l,m,n,o,p,q,r,s,t,u,v,w,x,z,a0,b0))
def CI (x0:LL) (x1:Int) (x2:Bool) (x3 x4 x5 x6 x7 x8:Int) (x9:LL) (x10 x11 x12:LI) (x13:Int) (x14:LI) (x15:LL) (x16:Int) (x17:LB) (x18:List (Int×Int)) (x19:List (List (Int×(Int×LB)))):Option AaV:=
 (Ka x13 x14 x15).bind λc1=>
 (BO c1 [] [] [] false x0 []).bind λ(_,a,b,c,d,e,f)=>
 (Bu x8 a b c d e x1 x2 x3 x4 x5 x6 x7 x8 x9 x10 x11 x12 f).bind λ(g,h,i,j,k,l,m,n,o,p,q,r,s,t,u,v,w,x,y)=>
 cK (decide (x4=p)) <|
 (If x4 q).bind λc4=>
 (Ab Ce (c4,[],(c4.length:Int),0,h,i,j,k,y,l,m,n,o,x4,q,r,s,t,u,v,w,x,x13,x14,x15,x4,g,x18,x19)).bind λ(z,a0,b0,c0,d0,e0,f0,g0,h0,i0,j0,k0,l0,m0,n0,o0,p0,q0,r0,s0,t0,u0,v0,w0,y0,_,z0)=>
 (BC 448 b0 c0 d0 e0 g0 h0 i0 j0 k0 l0 m0 n0 o0 p0 q0 r0 s0 t0 u0 v0 f0).bind λ(a1,b1,d1,e1,f1,g1,h1,i1,j1,k1,l1,m1,n1,o1,p1,q1,r1,s1,t1,u1,v1,w1)=>
 (HO a1).bind λc15=>
 Option.bind (α:=Anx) (
   if(!c15.2)then
    some (z,a0,true,b1,d1,e1,f1,w1,g1,h1,i1,j1,k1,l1,m1,n1,o1,p1,q1,r1,s1,t1,u1,v1,w0,y0,c15.1,z0)
   else
   if f1 then
    some (z,a0,true,b1,d1,e1,f1,w1,g1,h1,i1,j1,k1,l1,m1,n1,o1,p1,q1,r1,s1,t1,u1,v1,w0,y0,c15.1,z0)
   else
    (IP w0 y0 c15.1 z0).bind λc16=>
    some (z,a0,(!c16),b1,d1,e1,f1,w1,g1,h1,i1,j1,k1,l1,m1,n1,o1,p1,q1,r1,s1,t1,u1,v1,w0,y0,c15.1,z0)) λ(y1,z1,a2,b2,d2,e2,f2,g2,h2,i2,j2,k2,l2,m2,n2,o2,p2,q2,r2,s2,t2,u2,v2,w2,y2,z2,a3,b3)=>
 if a2 then
  some (false,h2,i2,j2,k2,l2,m2,n2,o2,p2,q2,r2,s2,t2,u2,v2,w2,y2,z2,a3,b3)
 else
  (Ab BH (z1,y1,(y1.length:Int),0,b2,d2,e2,f2,g2,h2,i2,j2,k2,l2,m2,n2,o2,p2,q2,r2,s2,t2,u2,v2,w2,y2,z2,a3,b3)).bind λv25=>
  match v25 with
  | .inl (d3,e3,f3,g3,h3,i3,j3,k3,l3,m3,n3,o3,p3,q3,r3,s3,t3,u3,v3,w3,y3,z3,a4,b4,d4)=>
   (Kh z3 a4 b4 d4).bind λc28=>
   (MA z3 c28 o3).bind λc29=>
   (Ab BF (c29,(c29.length:Int),0,d3,e3,f3,g3,h3,i3,j3,k3,l3,m3,n3,o3,p3,q3,r3,s3,t3,u3,v3,w3,y3,z3,a4,b4,d4)).bind λv34=>
   match v34 with
   | .inl (e4,f4,g4,h4,i4,j4,k4,l4,m4,n4,o4,p4,q4,r4,s4,t4,u4,v4,w4,y4,z4,a5,b5,c5,d5)=>
    Option.bind (PK Cd i4 (e4,f4,g4,h4,j4,k4,l4,m4,n4,o4,p4,q4,r4,s4,t4,u4,v4,w4,y4,z4,a5,b5,c5,d5)) λ(e5,f5,g5,h5,i5,j5,k5,l5,m5,n5,o5,p5,q5,r5,s5,t5,u5,v5,w5,y5,z5,a6,b6,c6)=>
    (K3 v5 w5 y5).bind λc40=>
    (Ab Cb (c40,(c40.length:Int),0,e5,f5,g5,h5,i5,j5,k5,l5,m5,n5,o5,p5,q5,r5,s5,t5,u5,v5,w5,y5,z5,a6,b6,c6)).bind λ(_,d6,_,e6,f6,g6,h6,i6,j6,k6,l6,m6,n6,o6,p6,q6,r6,s6,t6,u6,v6,w6,y6,z6)=>
    (GQ d6).bind λc46=>
    Option.bind (α:=AaV) (
     if(!e6)then
      (F7 (o6,(p6,(q6,r6)))).bind λc47=>
      (Eb c46 c47).bind λc48=>
      some (c48,f6,g6,h6,i6,j6,k6,l6,m6,n6,o6,p6,q6,r6,s6,t6,u6,v6,w6,y6,z6)
     else
     some (false,f6,g6,h6,i6,j6,k6,l6,m6,n6,o6,p6,q6,r6,s6,t6,u6,v6,w6,y6,z6)) λ(a7,b7,c7,d7,e7,f7,g7,h7,i7,j7,k7,l7,m7,n7,o7,p7,q7,r7,s7,t7,u7)=>
    some (a7,b7,c7,d7,e7,f7,g7,h7,i7,j7,k7,l7,m7,n7,o7,p7,q7,r7,s7,t7,u7)
   | .inr (v7,w7,y7,z7,a8,b8,c8,d8,e8,f8,g8,h8,i8,j8,k8,l8,m8,n8,o8,p8,q8)=>
    some (v7,w7,y7,z7,a8,b8,c8,d8,e8,f8,g8,h8,i8,j8,k8,l8,m8,n8,o8,p8,q8)
  | .inr (r8,s8,t8,u8,v8,w8,y8,z8,a9,b9,c9,d9,e9,f9,g9,h9,i9,j9,k9,l9,m9)=>
   some (r8,s8,t8,u8,v8,w8,y8,z8,a9,b9,c9,d9,e9,f9,g9,h9,i9,j9,k9,l9,m9)
def DA (x0:LL) (x1:Int) (x2:Bool) (x3:Int):Option U14:=
 Option.bind (α:=U60) (
   (H5 x0 x1 x2 x3).bind λc1=>
   if(!c1)then
    some (true,x0,x1,x2,x3)
   else
    (HR x0 x1 x2 x3).bind λc2=>
    some (decide (0 < (c2.length:Int)),x0,x1,x2,x3)) λ(a,b,c,d,e)=>
 if a then
  some (none,false)
 else
 gX b 0 λr4=>
 (NG r4).bind λ(f,g,h,i,j,k)=>
 if(!f)then
  some (none,false)
 else
  (K4 b c d e).bind λ(l,m,n)=>
  if(!l)then
   some (none,false)
  else
   (Hi (m,(n,([],[]))) j).bind λ(o,p,q,r)=>
   if(!o)then
    some (none,false)
   else
    (CI b c d e g h i j k m n [] [] p q r 0 [] [] []).bind λ(s,t,u,v,w,x,y,z,a0,b0,c0,d0,e0,f0,g0,h0,i0,j0,k0,l0,m0)=>
    if(!s)then
     some (none,false)
    else
     some (some (t,(u,(v,(w,(x,(y,(z,(a0,(b0,(c0,(d0,(e0,(f0,(g0,(h0,(i0,(j0,(k0,(l0,m0))))))))))))))))))),true)
def Ea (x0:LL) (x1:Int) (x2:Bool) (x3:Int):Option U13:=
 (DA x0 x1 x2 x3).bind λc1=>
 Option.bind (α:=An5) (
   if(!c1.2)then
    some (c1.1,true,x0,x1,x2,x3)
   else
   some (c1.1,decide (999999900 < x1),x0,x1,x2,x3)) λ(a,b,_,_,c,_)=>
 if b then
  some (none,1)
 else
 if(!c)then
  some (none,2)
 else
  some (a,0)
def HS (x0:LL) (x1 x2 x3:LI):Option U44:=
 (Hu x0).bind λc1=>
 (Bt x1).bind λc2=>
 (Bl x2).bind λc3=>
 (Bl x3).bind λc4=>
 some (c1,c2,c3,c4)
def KE (y:(LB×List LB)):Option ((LB×List LB)⊕(List LB)):=
 if(!((y.1:LB) == ([]:LB)))then
  sX 0 (if((y.1.length:Int):Int) < 40 then(y.1.length:Int)else 40) (y.1.length:Int) (y.1.length) <|
  cK (Aa (y.2.length+([((y.1:LB).drop (Int.toNat 0)).take ((if((y.1.length:Int):Int) < 40 then(y.1.length:Int)else 40).toNat - Int.toNat 0)]:List LB).length) 16) <|
  sX (if((y.1.length:Int):Int) < 40 then(y.1.length:Int)else 40) (y.1.length:Int) (y.1.length:Int) (y.1.length) <|
  some (.inl (((y.1:LB).drop ((if((y.1.length:Int):Int) < 40 then(y.1.length:Int)else 40).toNat)).take ((y.1.length:Int).toNat - (if((y.1.length:Int):Int) < 40 then(y.1.length:Int)else 40).toNat),y.2++([((y.1:LB).drop (Int.toNat 0)).take ((if((y.1.length:Int):Int) < 40 then(y.1.length:Int)else 40).toNat - Int.toNat 0)]:List LB)))
 else
  some (.inr y.2)
def YM (x0:LB):Option (List LB):=
 (Ab KE (x0,[])).bind λv1=>
 some v1
def D0 (y:AiH):Option (AiH⊕U6):=
 if decide (y.2.2.2.2.2 < y.2.2.2.2.1)then
  cZ y.2.2.2.2.2 <|
  cK (decide (y.2.2.2.2.2 < (y.2.2.2.1.length:Int))) <|
  Option.bind (y.2.2.2.1[0+y.2.2.2.2.2.toNat]?) λr6=>
  Option.bind (α:=Aoo) (
   if decide (y.2.2.2.2.2 < (y.1.length:Int))then
    cZ y.2.2.2.2.2 <|
    cK (decide (y.2.2.2.2.2 < (y.1.length:Int))) <|
    Option.bind (y.1[0+y.2.2.2.2.2.toNat]?) λr7=>
    if((r7.2.2:LB) == r6)then
     cZ y.2.2.2.2.2 <|
     cK (decide (y.2.2.2.2.2 < (y.1.length:Int))) <|
     Option.bind (y.1[0+y.2.2.2.2.2.toNat]?) λr8=>
     some (y.1,y.2.1,y.2.2.1,y.2.2.2.2.2,r6,y.2.2.2.1,y.2.2.2.2.1,y.2.2.2.2.2,decide (r8.2.1 < 250))
    else
    some (y.1,y.2.1,y.2.2.1,y.2.2.2.2.2,r6,y.2.2.2.1,y.2.2.2.2.1,y.2.2.2.2.2,false)
   else
   some (y.1,y.2.1,y.2.2.1,y.2.2.2.2.2,r6,y.2.2.2.1,y.2.2.2.2.1,y.2.2.2.2.2,false)) λv9=>
  Option.bind (α:=AiH) (
   if v9.2.2.2.2.2.2.2.2 then
    cZ v9.2.2.2.1 <|
    cK (decide (v9.2.2.2.1 < (v9.1.length:Int))) <|
    Option.bind (v9.1[0+v9.2.2.2.1.toNat]?) λr10=>
    Option.bind (v9.1[0+v9.2.2.2.1.toNat]?) λr11=>
    Option.bind (v9.1[0+v9.2.2.2.1.toNat]?) λr12=>
    cK (Aa (v9.2.1.length+([(r10.1,(r11.2.1,r12.2.2))]:List (Int×(Int×LB))).length) 32) <|
    cK (Aa (v9.2.2.1.length+([true]:List Bool).length) 1) <|
    some (v9.1,v9.2.1++([(r10.1,(r11.2.1,r12.2.2))]:List (Int×(Int×LB))),v9.2.2.1++([true]:List Bool),v9.2.2.2.2.2.1,v9.2.2.2.2.2.2.1,v9.2.2.2.2.2.2.2.1)
   else
   cK (Aa (v9.2.1.length+([(0,(0,v9.2.2.2.2.1))]:List (Int×(Int×LB))).length) 32) <|
   cK (Aa (v9.2.2.1.length+([false]:List Bool).length) 1) <|
   some (v9.1,v9.2.1++([(0,(0,v9.2.2.2.2.1))]:List (Int×(Int×LB))),v9.2.2.1++([false]:List Bool),v9.2.2.2.2.2.1,v9.2.2.2.2.2.2.1,v9.2.2.2.2.2.2.2.1)) λv13=>
  some (.inl (v13.1,v13.2.1,v13.2.2.1,v13.2.2.2.1,v13.2.2.2.2.1,wI (v13.2.2.2.2.2+1)))
 else
  some (.inr (y.2.1,y.2.2.1))
def Fi (x0:U44) (x1:LB) (x2:Int):Option U23:=
 Option.bind (α:=U7⊕Bool) (
   if decide (¬ x2=0)then
    (Ej x0 x2).bind λc1=>
    if(!c1.2)then
     some (.inr false)
    else
     some (.inl (x1,c1.1))
   else
    some (.inl (x1,[]))) λv2=>
 match v2 with
 | .inl y3=>
  (YM y3.1).bind λc5=>
  (Ab D0 (y3.2,[],[],c5,(c5.length:Int),0)).bind λv14=>
  some (v14.1,v14.2,true)
 | .inr s4=>
  some ([],[],s4)
def CF (y:(Int×(List Bool×(Int×Int)))):Option ((Int×(List Bool×(Int×Int)))⊕Int):=
 if decide (y.2.2.2 < y.2.2.1)then
  cZ y.2.2.2 <|
  cK (decide (y.2.2.2 < (y.2.1.length:Int))) <|
  Option.bind (y.2.1[0+y.2.2.2.toNat]?) λr2=>
  Option.bind (α:=(Int×(List Bool×(Int×Int)))) (
   if(!r2)then
    some (wI (y.1+1),y.2.1,y.2.2.1,y.2.2.2)
   else
    some (y.1,y.2.1,y.2.2.1,y.2.2.2)) λv3=>
  some (.inl (v3.1,v3.2.1,v3.2.2.1,wI (v3.2.2.2+1)))
 else
  some (.inr y.1)
def Gm (x0:U44) (x1:LB) (x2:Int):Option (Int):=
 (Fi x0 x1 x2).bind λc1=>
 (Ab CF (1,c1.2.1,(c1.2.1.length:Int),0)).bind λv4=>
 some v4
def Dv (x0:Int) (x1:LI) (x2:LL) (x3 x4 x5:LI):Option U44:=
 (Bt x1).bind λc1=>
 cZ x0 <|
 cK (decide (x0 < (x2.length:Int))) <|
 Option.bind (x2[0+x0.toNat]?) λr2=>
 Option.bind (x2[0+x0.toNat]?) λr3=>
 (E1 x5 x0).bind λc4=>
 some (x2.set (0+x0.toNat) c1,x3,x4,c4)
def LD (x0:Int) (x1:LL) (x2 x3 x4:LI):Option U68:=
 cK (decide (¬ (8:Int)=0)) <|
 cZ (wI (Int.tdiv x0 8)) <|
 cK (decide (wI (Int.tdiv x0 8) < (x2.length:Int))) <|
 Option.bind (x2[0+(wI (Int.tdiv x0 8)).toNat]?) λr1=>
 cK (decide (¬ (8:Int)=0)) <|
 cZ (Int.tmod x0 8) <|
 some (decide (wB (((BitVec.ofInt (IntKind.bits .u8) (Int.fdiv r1 (2 ^ (min ((Int.tmod x0 8).toNat) (IntKind.bits .u8)))) &&& BitVec.ofInt (IntKind.bits .u8) 1).toNat:Int))=1),x1,x2,x3,x4)
def P8 (y:U87):Option (U87⊕(U44⊕U88)):=
 if decide (y.2.1 < y.1)then
  (LD y.2.1 y.2.2.1 y.2.2.2.1 y.2.2.2.2.1 y.2.2.2.2.2).bind λc1=>
  if(!c1.1)then
   cK (decide (¬ (8:Int)=0)) <|
   cZ (wI (Int.tdiv y.2.1 8)) <|
   cK (decide (wI (Int.tdiv y.2.1 8) < (c1.2.2.1.length:Int))) <|
   Option.bind (c1.2.2.1[0+(wI (Int.tdiv y.2.1 8)).toNat]?) λr2=>
   cK (decide (¬ (8:Int)=0)) <|
   cZ (Int.tmod y.2.1 8) <|
   cZ (wI (Int.tdiv y.2.1 8)) <|
   cK (decide (wI (Int.tdiv y.2.1 8) < (c1.2.2.1.length:Int))) <|
   Option.bind (c1.2.2.1[0+(wI (Int.tdiv y.2.1 8)).toNat]?) λr3=>
   Option.bind (c1.2.2.1[0+(wI (Int.tdiv y.2.1 8)).toNat]?) λr4=>
   cZ 128 <|
   cK (decide ((128:Int)<=128)) <|
   cK (Aa (Int.toNat 128) 1) <|
   (Dv y.2.1 (List.replicate (Int.toNat 128) (0:Int)) c1.2.1 (c1.2.2.1.set (0+(wI (Int.tdiv y.2.1 8)).toNat) (wB (((BitVec.ofInt (IntKind.bits .u8) r2 ||| BitVec.ofInt (IntKind.bits .u8) (wB (1 * 2 ^ (min ((Int.tmod y.2.1 8).toNat) (IntKind.bits .u8))))).toNat:Int)))) c1.2.2.2.1 c1.2.2.2.2).bind λc5=>
   some (.inr (.inr (y.2.1,true,c5.1,c5.2.1,c5.2.2.1,c5.2.2.2)))
  else
   some (.inl (y.1,wI (y.2.1+1),c1.2.1,c1.2.2.1,c1.2.2.2.1,c1.2.2.2.2))
 else
  some (.inr (.inl (y.2.2.1,y.2.2.2.1,y.2.2.2.2.1,y.2.2.2.2.2)))
def Dn (x0:LL) (x1 x2 x3:LI):Option U88:=
 (Ab P8 ((x0.length:Int),0,x0,x1,x2,x3)).bind λv6=>
 match v6 with
 | .inl y7=>
  some (0,false,y7.1,y7.2.1,y7.2.2.1,y7.2.2.2)
 | .inr s8=>
  some (s8.1,s8.2.1,s8.2.2.1,s8.2.2.2.1,s8.2.2.2.2.1,s8.2.2.2.2.2)
def FU (x0 x1:Int) (x2:LB) (x3:LL) (x4 x5 x6:LI):Option U44:=
 cK (Aa (([83,IntKind.wrap .u8 x1,wB (x2.length:Int)]:LI).length+(AA x2).length) 1) <|
 (Gh (([83,IntKind.wrap .u8 x1,wB (x2.length:Int)]:LI)++(AA x2)) 128).bind λc1=>
 (Dv x0 c1 x3 x4 x5 x6).bind λc2=>
 some (c2.1,c2.2.1,c2.2.2.1,c2.2.2.2)
def Nj (y:Alv):Option (Alv⊕(U73⊕U88)):=
 if decide (y.2.2.2.2.1 < y.2.2.2.1)then
  cZ y.2.2.2.2.1 <|
  cK (decide (y.2.2.2.2.1 < (y.2.2.1.length:Int))) <|
  Option.bind (y.2.2.1[0+y.2.2.2.2.1.toNat]?) λr2=>
  Option.bind (y.2.2.1[0+y.2.2.2.2.1.toNat]?) λr3=>
  Option.bind (y.2.2.1[0+y.2.2.2.2.1.toNat]?) λr4=>
  cZ y.2.2.2.2.1 <|
  cK (decide (y.2.2.2.2.1 < (y.1.length:Int))) <|
  Option.bind (y.1[0+y.2.2.2.2.1.toNat]?) λr5=>
  Option.bind (α:=Aok⊕U88) (
    if(!r5)then
     (Dn y.2.2.2.2.2.1 y.2.2.2.2.2.2.1 y.2.2.2.2.2.2.2.1 y.2.2.2.2.2.2.2.2).bind λc6=>
     if(!c6.2.1)then
      some (.inr (0,false,c6.2.2.1,c6.2.2.2.1,c6.2.2.2.2.1,c6.2.2.2.2.2))
     else
      some (.inl (y.1,y.2.1,y.2.2.1,y.2.2.2.1,y.2.2.2.2.1,c6.1,r3.2.1,r4.2.2,c6.2.2.1,c6.2.2.2.1,c6.2.2.2.2.1,c6.2.2.2.2.2))
    else
     some (.inl (y.1,y.2.1,y.2.2.1,y.2.2.2.1,y.2.2.2.2.1,r2.1,r3.2.1,r4.2.2,y.2.2.2.2.2.1,y.2.2.2.2.2.2.1,y.2.2.2.2.2.2.2.1,y.2.2.2.2.2.2.2.2))) λv7=>
  match v7 with
  | .inl y8=>
   (FU y8.2.2.2.2.2.1 (wI (y8.2.2.2.2.2.2.1+1)) y8.2.2.2.2.2.2.2.1 y8.2.2.2.2.2.2.2.2.1 y8.2.2.2.2.2.2.2.2.2.1 y8.2.2.2.2.2.2.2.2.2.2.1 y8.2.2.2.2.2.2.2.2.2.2.2).bind λc10=>
   (JY y8.2.2.2.2.2.1).bind λc11=>
   cK (Aa (y8.2.1.length+c11.length) 1) <|
   some (.inl (y8.1,y8.2.1++c11,y8.2.2.1,y8.2.2.2.1,wI (y8.2.2.2.2.1+1),c10.1,c10.2.1,c10.2.2.1,c10.2.2.2))
  | .inr s9=>
   some (.inr (.inr (s9.1,s9.2.1,s9.2.2.1,s9.2.2.2.1,s9.2.2.2.2.1,s9.2.2.2.2.2)))
 else
  some (.inr (.inl (y.2.1,y.2.2.2.2.2.1,y.2.2.2.2.2.2.1,y.2.2.2.2.2.2.2.1,y.2.2.2.2.2.2.2.2)))
def JM (x0:LB) (x1:Int) (x2:LL) (x3 x4 x5:LI):Option U88:=
 (Fi (x2,(x3,(x4,x5))) x0 x1).bind λc1=>
 (Ab Nj (c1.2.1,[84,wB (c1.1.length:Int)],c1.1,(c1.1.length:Int),0,x2,x3,x4,x5)).bind λv12=>
 match v12 with
 | .inl y13=>
  (Dn y13.2.1 y13.2.2.1 y13.2.2.2.1 y13.2.2.2.2).bind λc15=>
  if(!c15.2.1)then
   some (0,false,c15.2.2.1,c15.2.2.2.1,c15.2.2.2.2.1,c15.2.2.2.2.2)
  else
   (Gh y13.1 128).bind λc16=>
   (Dv c15.1 c16 c15.2.2.1 c15.2.2.2.1 c15.2.2.2.2.1 c15.2.2.2.2.2).bind λc17=>
   some (c15.1,true,c17.1,c17.2.1,c17.2.2.1,c17.2.2.2)
 | .inr s14=>
  some (s14.1,s14.2.1,s14.2.2.1,s14.2.2.2.1,s14.2.2.2.2.1,s14.2.2.2.2.2)
def Dr (x0:LB) (x1:Int) (x2:LL) (x3 x4 x5:LI) (x6:List (Int×Int)) (x7:Bool) (x8:Int) (x9:Bool):Option Ajk:=
 (Gm (x2,(x3,(x4,x5))) x0 x1).bind λc1=>
 if x9 then
  some (33,x2,x3,x4,x5,x6,x7,wI (x8+c1),x9)
 else
 if x7 then
  some (0,x2,x3,x4,x5,x6,x7,wI (x8+c1),x9)
 else
  (JM x0 x1 x2 x3 x4 x5).bind λc2=>
  some (c2.1,c2.2.2.1,c2.2.2.2.1,c2.2.2.2.2.1,c2.2.2.2.2.2,x6,(!c2.2.1),wI (x8+c1),x9)
def Az (x0:List (Int×Int)):Option (List (Int×Int)):=
 Option.bind (α:=List (Int×Int)) (GW (List.isEmpty x0) (
  some []) (
  cK (Aa (([]:List (Int×Int)).length+x0.length) 16) <|
  some (([]:List (Int×Int))++x0))) λv1=>
 some v1
def Lj (y:Alw):Option (Alw⊕U39):=
 if decide (y.2.2.2.2.2.1 < y.2.2.2.2.1)then
  cK (Aa (y.1.length+([y.2.2.2.2.2.2.1]:LI).length) 8) <|
  some (.inl (y.1++([y.2.2.2.2.2.2.1]:LI),y.2.1,y.2.2.1,y.2.2.2.1,y.2.2.2.2.1,wI (y.2.2.2.2.2.1+1),y.2.2.2.2.2.2.1,y.2.2.2.2.2.2.2))
 else
  some (.inr (y.1,y.2.1,y.2.2.1,y.2.2.2.1))
def La (y:U39):Option (U39⊕LI):=
 if decide (y.2.2.2 < y.2.2.1)then
  gX y.2.1 y.2.2.2 λr1=>
  (Ab Lj (y.1,y.2.1,y.2.2.1,y.2.2.2,r1.2,0,r1.1,r1.2)).bind λv2=>
  some (.inl (v2.1,v2.2.1,v2.2.2.1,wI (v2.2.2.2+1)))
 else
  some (.inr y.1)
def UO (x0:List (Int×Int)):Option LI:=
 (Ab La ([],x0,(x0.length:Int),0)).bind λv3=>
 some v3
def Jf (y:U40):Option (U40⊕(List (Int×Int))):=
 if decide (y.2.2.2 < y.2.2.1)then
  gX y.2.1 y.2.2.2 λr1=>
  Option.bind (α:=Aoa) (
   if decide (0 < (y.1.length:Int))then
    cZ (wI ((y.1.length:Int) - 1)) <|
    cK (decide (wI ((y.1.length:Int) - 1) < (y.1.length:Int))) <|
    Option.bind (y.1[0+(wI ((y.1.length:Int) - 1)).toNat]?) λr2=>
    some (y.1,r1,(y.1.length:Int),y.2.1,y.2.2.1,y.2.2.2,decide (r2.1=r1))
   else
   some (y.1,r1,(y.1.length:Int),y.2.1,y.2.2.1,y.2.2.2,false)) λv3=>
  Option.bind (α:=U40) (
   if v3.2.2.2.2.2.2 then
    cZ (wI (v3.2.2.1 - 1)) <|
    cK (decide (wI (v3.2.2.1 - 1) < (v3.1.length:Int))) <|
    Option.bind (v3.1[0+(wI (v3.2.2.1 - 1)).toNat]?) λr4=>
    cZ (wI (v3.2.2.1 - 1)) <|
    cK (decide (wI (v3.2.2.1 - 1) < (v3.1.length:Int))) <|
    Option.bind (v3.1[0+(wI (v3.2.2.1 - 1)).toNat]?) λr5=>
    Option.bind (v3.1[0+(wI (v3.2.2.1 - 1)).toNat]?) λr6=>
    some (v3.1.set (0+(wI (v3.2.2.1 - 1)).toNat) (r6.1,wI (r4.2+1)),v3.2.2.2.1,v3.2.2.2.2.1,v3.2.2.2.2.2.1)
   else
   cK (Aa (v3.1.length+([(v3.2.1,1)]:List (Int×Int)).length) 16) <|
   some (v3.1++([(v3.2.1,1)]:List (Int×Int)),v3.2.2.2.1,v3.2.2.2.2.1,v3.2.2.2.2.2.1)) λv7=>
  some (.inl (v7.1,v7.2.1,v7.2.2.1,wI (v7.2.2.2+1)))
 else
  some (.inr y.1)
def VC (x0:LI):Option (List (Int×Int)):=
 (Ab Jf ([],x0,(x0.length:Int),0)).bind λv8=>
 some v8
def FY (y:Alu):Option (Alu⊕AhK):=
 if decide (y.2.2.2.2.2.2.2.2 < y.2.2.2.2.2.2.2.1)then
  cK (Aa (y.2.2.1.length+([y.1]:LI).length) 8) <|
  some (.inl (y.1,y.2.1,y.2.2.1++([y.1]:LI),y.2.2.2.1,y.2.2.2.2.1,y.2.2.2.2.2.1,y.2.2.2.2.2.2.1,y.2.2.2.2.2.2.2.1,wI (y.2.2.2.2.2.2.2.2+1)))
 else
  some (.inr (y.1,y.2.1,y.2.2.1,y.2.2.2.1,y.2.2.2.2.1,y.2.2.2.2.2.1,y.2.2.2.2.2.2.1))
def FP (y:AhK):Option (AhK⊕LI):=
 if decide (y.2.2.2.2.2.2 < y.2.2.2.2.2.1)then
  gX y.2.2.2.2.1 y.2.2.2.2.2.2 λr2=>
  sX y.2.2.2.1 (wI (y.2.2.2.1+r2.1)) (y.2.1.length:Int) (y.2.1.length) <|
  cK (Aa (y.2.2.1.length+((y.2.1.drop (y.2.2.2.1.toNat)).take ((wI (y.2.2.2.1+r2.1)).toNat - y.2.2.2.1.toNat)).length) 8) <|
  (Ab FY (y.1,y.2.1,y.2.2.1++((y.2.1.drop (y.2.2.2.1.toNat)).take ((wI (y.2.2.2.1+r2.1)).toNat - y.2.2.2.1.toNat)),wI (y.2.2.2.1+(wI (r2.1+r2.2.1))),y.2.2.2.2.1,y.2.2.2.2.2.1,y.2.2.2.2.2.2,(r2.2.2.length:Int),0)).bind λv3=>
  some (.inl (v3.1,v3.2.1,v3.2.2.1,v3.2.2.2.1,v3.2.2.2.2.1,v3.2.2.2.2.2.1,wI (v3.2.2.2.2.2.2+1)))
 else
  some (.inr y.2.2.1)
def KS (x0:List (Int×Int)) (x1:List (Int×(Int×LB))) (x2:Int):Option (List (Int×Int)):=
 (UO x0).bind λc1=>
 (Ab FP (x2,c1,[],0,x1,(x1.length:Int),0)).bind λv4=>
 (VC v4).bind λc5=>
 some c5
def DH (y:Ad4):Option (Ad4⊕(List (Int×Int))):=
 if decide (y.2.2.2.1 < y.2.2.1)then
  gX y.2.1 y.2.2.2.1 λr2=>
  (KS y.1 r2 (wI ((wI (y.2.2.2.2.1+y.2.2.2.1))+1))).bind λc3=>
  some (.inl (c3,y.2.1,y.2.2.1,wI (y.2.2.2.1+1),y.2.2.2.2.1,y.2.2.2.2.2.1,y.2.2.2.2.2.2.1,y.2.2.2.2.2.2.2))
 else
  some (.inr y.1)
def GY (x0:Int) (x1:LB) (x2:List (Int×Int)) (x3:List (List (Int×(Int×LB)))) (x4:Int):Option (List (Int×Int)):=
 (Az x2).bind λc1=>
 sX 0 (wI (x4 - x0)) (x3.length:Int) (x3.length) <|
 (Ab DH (c1,(List.drop (Int.toNat 0) x3).take ((wI (x4 - x0)).toNat - Int.toNat 0),(((List.drop (Int.toNat 0) x3).take ((wI (x4 - x0)).toNat - Int.toNat 0)).length:Int),0,x0,x1,x2,x3)).bind λv4=>
 some v4
def Fu (y:U39):Option (U39⊕LI):=
 if decide (y.2.2.2 < y.2.2.1)then
  gX y.2.1 y.2.2.2 λr1=>
  cK (Aa (y.1.length+([IntKind.wrap .u8 r1.1,IntKind.wrap .u8 r1.2]:LI).length) 1) <|
  some (.inl (y.1++([IntKind.wrap .u8 r1.1,IntKind.wrap .u8 r1.2]:LI),y.2.1,y.2.2.1,wI (y.2.2.2+1)))
 else
  some (.inr y.1)
def K6 (x0:List (Int×Int)):Option LI:=
 (Ab Fu ([],x0,(x0.length:Int),0)).bind λv2=>
 some v2
def Hg (x0:Int):Option (Int):=
 cK (decide (¬ (124:Int)=0)) <|
 some (if(wI (Int.tdiv (wI ((wI (x0+124)) - 1)) 124):Int) < 1 then 1 else wI (Int.tdiv (wI ((wI (x0+124)) - 1)) 124))
def M5 (y:TD):Option (TD⊕(U73⊕U68)):=
 if decide (y.2.2.1 < y.2.1)then
  (Dn y.2.2.2.1 y.2.2.2.2.1 y.2.2.2.2.2.1 y.2.2.2.2.2.2).bind λc1=>
  if(!c1.2.1)then
   some (.inr (.inr (false,c1.2.2.1,c1.2.2.2.1,c1.2.2.2.2.1,c1.2.2.2.2.2)))
  else
  cK (Aa (y.1.length+([c1.1]:LI).length) 8) <|
  some (.inl (y.1++([c1.1]:LI),y.2.1,wI (y.2.2.1+1),c1.2.2.1,c1.2.2.2.1,c1.2.2.2.2.1,c1.2.2.2.2.2))
 else
  some (.inr (.inl (y.1,y.2.2.2.1,y.2.2.2.2.1,y.2.2.2.2.2.1,y.2.2.2.2.2.2)))
def Jb (x0:Int) (x1:LL) (x2 x3 x4:LI):Option U94:=
 (Ab M5 ([],x0,0,x1,x2,x3,x4)).bind λv2=>
 match v2 with
 | .inl y3=>
  some (y3.1,true,y3.2.1,y3.2.2.1,y3.2.2.2.1,y3.2.2.2.2)
 | .inr s4=>
  some ([],s4.1,s4.2.1,s4.2.2.1,s4.2.2.2.1,s4.2.2.2.2)
def L6 (y:YZ):Option (YZ⊕U73):=
 if decide (y.2.2.2.1 < y.2.2.1)then
  cZ y.2.2.2.1 <|
  cK (decide (y.2.2.2.1 < (y.2.1.length:Int))) <|
  Option.bind (y.2.1[0+y.2.2.2.1.toNat]?) λr3=>
  sX (wI (124 * y.2.2.2.1)) (if((y.1.length:Int):Int) < (wI (124 * (wI (y.2.2.2.1+1))))then(y.1.length:Int)else wI (124 * (wI (y.2.2.2.1+1)))) (y.1.length:Int) (y.1.length) <|
  Option.bind (α:=AnT) (
   if decide (wI (y.2.2.2.1+1) < (y.2.1.length:Int))then
    cZ (wI (y.2.2.2.1+1)) <|
    cK (decide (wI (y.2.2.2.1+1) < (y.2.1.length:Int))) <|
    Option.bind (y.2.1[0+(wI (y.2.2.2.1+1)).toNat]?) λr4=>
    some (y.1,y.2.1,r3,(List.drop ((wI (124 * y.2.2.2.1)).toNat) y.1).take ((if((y.1.length:Int):Int) < (wI (124 * (wI (y.2.2.2.1+1))))then(y.1.length:Int)else wI (124 * (wI (y.2.2.2.1+1)))).toNat - (wI (124 * y.2.2.2.1)).toNat),r4,y.2.2.1,y.2.2.2.1,y.2.2.2.2.1,y.2.2.2.2.2.1,y.2.2.2.2.2.2.1,y.2.2.2.2.2.2.2)
   else
    some (y.1,y.2.1,r3,(List.drop ((wI (124 * y.2.2.2.1)).toNat) y.1).take ((if((y.1.length:Int):Int) < (wI (124 * (wI (y.2.2.2.1+1))))then(y.1.length:Int)else wI (124 * (wI (y.2.2.2.1+1)))).toNat - (wI (124 * y.2.2.2.1)).toNat),0,y.2.2.1,y.2.2.2.1,y.2.2.2.2.1,y.2.2.2.2.2.1,y.2.2.2.2.2.2.1,y.2.2.2.2.2.2.2)) λv5=>
  (JY v5.2.2.2.2.1).bind λc6=>
  cK (Aa (([82]:LI).length+c6.length) 1) <|
  cK (Aa ((([82]:LI)++c6).length+([wB (v5.2.2.2.1.length:Int)]:LI).length) 1) <|
  cK (Aa (((([82]:LI)++c6)++([wB (v5.2.2.2.1.length:Int)]:LI)).length+v5.2.2.2.1.length) 1) <|
  (Gh (((([82]:LI)++c6)++([wB (v5.2.2.2.1.length:Int)]:LI))++v5.2.2.2.1) 128).bind λc7=>
  (Dv v5.2.2.1 c7 v5.2.2.2.2.2.2.2.1 v5.2.2.2.2.2.2.2.2.1 v5.2.2.2.2.2.2.2.2.2.1 v5.2.2.2.2.2.2.2.2.2.2).bind λc8=>
  some (.inl (v5.1,v5.2.1,v5.2.2.2.2.2.1,wI (v5.2.2.2.2.2.2.1+1),c8.1,c8.2.1,c8.2.2.1,c8.2.2.2))
 else
  some (.inr (y.2.1,y.2.2.2.2.1,y.2.2.2.2.2.1,y.2.2.2.2.2.2.1,y.2.2.2.2.2.2.2))
def Ic (x0:LI) (x1:LL) (x2 x3 x4:LI):Option U88:=
 (Hg (x0.length:Int)).bind λc1=>
 (Jb c1 x1 x2 x3 x4).bind λc2=>
 if(!c2.2.1)then
  some (0,false,c2.2.2.1,c2.2.2.2.1,c2.2.2.2.2.1,c2.2.2.2.2.2)
 else
  (Ab L6 (x0,c2.1,(c2.1.length:Int),0,c2.2.2.1,c2.2.2.2.1,c2.2.2.2.2.1,c2.2.2.2.2.2)).bind λv9=>
  cZ 0 <|
  cK (decide (0 < (v9.1.length:Int))) <|
  Option.bind (v9.1[0+Int.toNat 0]?) λr10=>
  some (r10,true,v9.2.1,v9.2.2.1,v9.2.2.2.1,v9.2.2.2.2)
def DP (x0:Int) (x1:LI) (x2:LL) (x3 x4 x5:LI) (x6:List (Int×Int)) (x7:Bool) (x8:Int) (x9:Bool):Option Aep:=
 (Hg (x1.length:Int)).bind λc1=>
 if x9 then
  cK (Aa (x6.length+([(x0,33)]:List (Int×Int)).length) 16) <|
  some (x2,x3,x4,x5,x6++([(x0,33)]:List (Int×Int)),x7,wI (x8+c1),x9)
 else
 if x7 then
  some (x2,x3,x4,x5,x6,x7,wI (x8+c1),x9)
 else
  (Ic x1 x2 x3 x4 x5).bind λc2=>
  cK (Aa (x6.length+([(x0,c2.1)]:List (Int×Int)).length) 16) <|
  some (c2.2.2.1,c2.2.2.2.1,c2.2.2.2.2.1,c2.2.2.2.2.2,x6++([(x0,c2.1)]:List (Int×Int)),(!c2.2.1),wI (x8+c1),x9)
def DZ (x0:Int) (x1:LL) (x2 x3 x4:LI):Option U44:=
 (E1 x3 x0).bind λc1=>
 some (x1,x2,c1,x4)
def Nh (y:TD):Option (TD⊕U44):=match y with
 | (a,b,c,d,e,f,g)=>
 if decide (c < b)then
  gX a c λr1=>
  (DZ r1 d e f g).bind λ(h,i,j,k)=>
  some (.inl (a,b,wI (c+1),h,i,j,k))
 else
  some (.inr (d,e,f,g))
def J4 (x0:LI) (x1:LL) (x2 x3 x4:LI):Option U44:=
 (Ab Nh (x0,(x0.length:Int),0,x1,x2,x3,x4)).bind λ(a,b,c,d)=>
 some (a,b,c,d)
def N1 (y:U64):Option (U64⊕(List (Int×Int))):=match y with
 | (a,b,c,d,e)=>
 if decide (e < d)then
  cZ e <|
  cK (decide (e < (c.length:Int))) <|
  Option.bind (c[0+e.toNat]?) λr2=>
  Option.bind (c[0+e.toNat]?) λr3=>
  (El r2.1 r3.2).bind λc4=>
  Option.bind (α:=U64) (
   if decide (c4 < a)then
    cK (Aa (b.length+([(r2.1,r3.2)]:List (Int×Int)).length) 16) <|
    some (a,b++([(r2.1,r3.2)]:List (Int×Int)),c,d,e)
   else
    some (a,b,c,d,e)) λ(f,g,h,i,j)=>
  some (.inl (f,g,h,i,wI (j+1)))
 else
  some (.inr b)
def UN (x0 x1 x2:Int):Option (List (Int×Int)):=
 (If x0 x1).bind λc1=>
 (Ab N1 (x2,[],c1,(c1.length:Int),0)).bind λv6=>
 some v6
def MD (y:AeU):Option (AeU⊕U44):=
 if decide (y.2.2.1 < y.2.1)then
  cZ y.2.2.1 <|
  cK (decide (y.2.2.1 < (y.1.length:Int))) <|
  Option.bind (y.1[0+y.2.2.1.toNat]?) λr3=>
  Option.bind (y.1[0+y.2.2.1.toNat]?) λr4=>
  Option.bind (y.1[0+y.2.2.1.toNat]?) λr5=>
  Option.bind (α:=AeU) (
   if decide (wI (r4.2.1 - 1)=0)then
    (DZ r3.1 y.2.2.2.1 y.2.2.2.2.1 y.2.2.2.2.2.1 y.2.2.2.2.2.2).bind λc6=>
    some (y.1,y.2.1,y.2.2.1,c6.1,c6.2.1,c6.2.2.1,c6.2.2.2)
   else
    (FU r3.1 (wI (r4.2.1 - 1)) r5.2.2 y.2.2.2.1 y.2.2.2.2.1 y.2.2.2.2.2.1 y.2.2.2.2.2.2).bind λc7=>
    some (y.1,y.2.1,y.2.2.1,c7.1,c7.2.1,c7.2.2.1,c7.2.2.2)) λv8=>
  some (.inl (v8.1,v8.2.1,wI (v8.2.2.1+1),v8.2.2.2.1,v8.2.2.2.2.1,v8.2.2.2.2.2.1,v8.2.2.2.2.2.2))
 else
  some (.inr (y.2.2.2.1,y.2.2.2.2.1,y.2.2.2.2.2.1,y.2.2.2.2.2.2))
def Fk (x0:Int) (x1:LL) (x2 x3 x4:LI):Option U44:=
 (Ej (x1,(x2,(x3,x4))) x0).bind λc1=>
 (DZ x0 x1 x2 x3 x4).bind λc2=>
 (Ab MD (c1.1,(c1.1.length:Int),0,c2.1,c2.2.1,c2.2.2.1,c2.2.2.2)).bind λv9=>
 some (v9.1,v9.2.1,v9.2.2.1,v9.2.2.2)
def An (x0:List (Int×Int)):Option (List (Int×Int)):=
 if x0.length < 4611686018427387904/\(∀p∈x0,0<=p.1/\p.1 < 2147483648)/\(x0.map (·.1)).Nodup then some (x0.mergeSort λa b=>decide (a.1<=b.1))else none
def Em (y:Ai4):Option (Ai4⊕Ame):=
 if decide (y.2.2.2.2.2.2.2.2.2.1 < y.2.2.2.2.2.2.2.2.1)then
  gX y.2.2.2.2.2.2.2.1 y.2.2.2.2.2.2.2.2.2.1 λr3=>
  cK (decide (¬ (32:Int)=0)) <|
  Option.bind (α:=Ai4) (
   if decide (wI (Int.tdiv r3.1 32)=y.2.2.2.1)then
    cK (decide (¬ (32:Int)=0)) <|
    cZ (Int.tmod r3.1 32) <|
    cK (decide (Int.tmod r3.1 32 < (y.2.2.2.2.1.length:Int))) <|
    Option.bind (y.2.2.2.2.1[0+(Int.tmod r3.1 32).toNat]?) λr4=>
    Option.bind (y.2.2.2.2.1[0+(Int.tmod r3.1 32).toNat]?) λr5=>
    some (y.1,y.2.1,y.2.2.1,y.2.2.2.1,y.2.2.2.2.1.set (0+(Int.tmod r3.1 32).toNat) r3.2,true,y.2.2.2.2.2.2.1,y.2.2.2.2.2.2.2.1,y.2.2.2.2.2.2.2.2.1,y.2.2.2.2.2.2.2.2.2.1,y.2.2.2.2.2.2.2.2.2.2.1,y.2.2.2.2.2.2.2.2.2.2.2.1,y.2.2.2.2.2.2.2.2.2.2.2.2)
   else
    some (y.1,y.2.1,y.2.2.1,y.2.2.2.1,y.2.2.2.2.1,y.2.2.2.2.2.1,y.2.2.2.2.2.2.1,y.2.2.2.2.2.2.2.1,y.2.2.2.2.2.2.2.2.1,y.2.2.2.2.2.2.2.2.2.1,y.2.2.2.2.2.2.2.2.2.2.1,y.2.2.2.2.2.2.2.2.2.2.2.1,y.2.2.2.2.2.2.2.2.2.2.2.2)) λv6=>
  some (.inl (v6.1,v6.2.1,v6.2.2.1,v6.2.2.2.1,v6.2.2.2.2.1,v6.2.2.2.2.2.1,v6.2.2.2.2.2.2.1,v6.2.2.2.2.2.2.2.1,v6.2.2.2.2.2.2.2.2.1,wI (v6.2.2.2.2.2.2.2.2.2.1+1),v6.2.2.2.2.2.2.2.2.2.2.1,v6.2.2.2.2.2.2.2.2.2.2.2.1,v6.2.2.2.2.2.2.2.2.2.2.2.2))
 else
  some (.inr (y.1,y.2.1,y.2.2.1,y.2.2.2.2.1,y.2.2.2.2.2.1,y.2.2.2.2.2.2.1,y.2.2.2.2.2.2.2.2.2.2.1,y.2.2.2.2.2.2.2.2.2.2.2.1,y.2.2.2.2.2.2.2.2.2.2.2.2))
def HQ (y:Ai2):Option (Ai2⊕(Int×Bool)):=
 if decide (y.2.2.2.1 < 32)then
  gX y.2.2.2.2.2.2 y.2.2.2.1 λr1=>
  (Bl r1).bind λc2=>
  (Ab Em (y.1,y.2.1,y.2.2.1,y.2.2.2.1,c2,false,y.2.2.2.1,y.1,(y.1.length:Int),0,y.2.2.2.2.1,y.2.2.2.2.2.1,y.2.2.2.2.2.2)).bind λv7=>
  Option.bind (α:=Ame) (
   if v7.2.2.1 then
    some (v7.1,v7.2.1,true,v7.2.2.2.1,v7.2.2.2.2.1,v7.2.2.2.2.2.1,v7.2.2.2.2.2.2.1,v7.2.2.2.2.2.2.2.1,v7.2.2.2.2.2.2.2.2)
   else
    (DL v7.2.2.2.1).bind λc8=>
    some (v7.1,v7.2.1,(!c8),v7.2.2.2.1,v7.2.2.2.2.1,v7.2.2.2.2.2.1,v7.2.2.2.2.2.2.1,v7.2.2.2.2.2.2.2.1,v7.2.2.2.2.2.2.2.2)) λv9=>
  Option.bind (α:=AnG) (
   if v9.2.2.2.2.1 then
    (DL v9.2.2.2.1).bind λc10=>
    some (v9.1,v9.2.1,v9.2.2.1,v9.2.2.2.2.2.1,(!c10),v9.2.2.2.2.2.2.1,v9.2.2.2.2.2.2.2.1,v9.2.2.2.2.2.2.2.2)
   else
   some (v9.1,v9.2.1,v9.2.2.1,v9.2.2.2.2.2.1,false,v9.2.2.2.2.2.2.1,v9.2.2.2.2.2.2.2.1,v9.2.2.2.2.2.2.2.2)) λv11=>
  Option.bind (α:=Ai2) (
   if v11.2.2.2.2.1 then
    some (v11.1,wI (v11.2.1+1),v11.2.2.1,v11.2.2.2.1,v11.2.2.2.2.2.1,v11.2.2.2.2.2.2.1,v11.2.2.2.2.2.2.2)
   else
    some (v11.1,v11.2.1,v11.2.2.1,v11.2.2.2.1,v11.2.2.2.2.2.1,v11.2.2.2.2.2.2.1,v11.2.2.2.2.2.2.2)) λv12=>
  some (.inl (v12.1,v12.2.1,v12.2.2.1,wI (v12.2.2.2.1+1),v12.2.2.2.2.1,v12.2.2.2.2.2.1,v12.2.2.2.2.2.2))
 else
  some (.inr (y.2.1,y.2.2.1))
def KW (x0:Int) (x1:LI) (x2:LL) (x3:List (Int×Int)):Option (Int):=
 if decide ((x3.length:Int)=0)then
  some 0
 else
  (Ab HQ (x3,0,false,0,x0,x1,x2)).bind λv13=>
  Option.bind (α:=Int) (
   if v13.2 then
    some (wI (v13.1+1))
   else
    some v13.1) λv14=>
  some v14
def Ni (y:AlM):Option (AlM⊕U91):=
 if decide (y.2.2.2.2.1 < y.2.2.2.1)then
  gX y.2.2.1 y.2.2.2.2.1 λr1=>
  (JY r1).bind λc2=>
  cK (Aa (y.2.1.length+c2.length) 1) <|
  some (.inl (y.1,y.2.1++c2,y.2.2.1,y.2.2.2.1,wI (y.2.2.2.2.1+1),y.2.2.2.2.2.1,y.2.2.2.2.2.2.1,y.2.2.2.2.2.2.2.1,y.2.2.2.2.2.2.2.2))
 else
  some (.inr (y.1,y.2.1,y.2.2.2.2.2.1,y.2.2.2.2.2.2.1,y.2.2.2.2.2.2.2.1,y.2.2.2.2.2.2.2.2))
def Gd (x0 x1:Int) (x2:LI) (x3:LL) (x4 x5 x6:LI):Option U44:=
 (Ab Ni (x0,[x1],x2,(x2.length:Int),0,x3,x4,x5,x6)).bind λv3=>
 (Gh v3.2.1 128).bind λc4=>
 (Dv v3.1 c4 v3.2.2.1 v3.2.2.2.1 v3.2.2.2.2.1 v3.2.2.2.2.2).bind λc5=>
 some (c5.1,c5.2.1,c5.2.2.1,c5.2.2.2)
def QN (y:AmE):Option (AmE⊕AnY):=
 if decide (y.2.2.2.2.2.1 < y.2.2.2.2.1)then
  gX y.2.2.2.2.2.2.2.2.1 y.2.2.2.2.2.1 λr2=>
  (Bl r2).bind λc3=>
  cZ y.2.2.2.2.2.1 <|
  cK (decide (y.2.2.2.2.2.1 < (y.2.2.1.length:Int))) <|
  Option.bind (y.2.2.1[0+y.2.2.2.2.2.1.toNat]?) λr4=>
  Option.bind (y.2.2.1[0+y.2.2.2.2.2.1.toNat]?) λr5=>
  some (.inl (y.1,y.2.1,y.2.2.1.set (0+y.2.2.2.2.2.1.toNat) c3,y.2.2.2.1,y.2.2.2.2.1,wI (y.2.2.2.2.2.1+1),y.2.2.2.2.2.2.1,y.2.2.2.2.2.2.2.1,y.2.2.2.2.2.2.2.2.1,y.2.2.2.2.2.2.2.2.2.1,y.2.2.2.2.2.2.2.2.2.2.1,y.2.2.2.2.2.2.2.2.2.2.2.1,y.2.2.2.2.2.2.2.2.2.2.2.2))
 else
  some (.inr (y.1,y.2.1,y.2.2.1,y.2.2.2.1,y.2.2.2.2.2.2.1,y.2.2.2.2.2.2.2.1,y.2.2.2.2.2.2.2.2.1,y.2.2.2.2.2.2.2.2.2.1,y.2.2.2.2.2.2.2.2.2.2.1,y.2.2.2.2.2.2.2.2.2.2.2.1,y.2.2.2.2.2.2.2.2.2.2.2.2))
def QL (y:Alg):Option (Alg⊕AlF):=
 if decide (y.2.2.2.2.2.1 < y.2.2.2.2.1)then
  gX y.2.2.2.1 y.2.2.2.2.2.1 λr7=>
  cK (decide (¬ (32:Int)=0)) <|
  cZ (wI (Int.tdiv r7.1 32)) <|
  cK (decide (wI (Int.tdiv r7.1 32) < (y.2.1.length:Int))) <|
  Option.bind (y.2.1[0+(wI (Int.tdiv r7.1 32)).toNat]?) λr8=>
  cK (decide (¬ (32:Int)=0)) <|
  cZ (Int.tmod r7.1 32) <|
  Option.bind (y.2.1[0+(wI (Int.tdiv r7.1 32)).toNat]?) λr9=>
  cK (decide (Int.tmod r7.1 32 < (r9.length:Int))) <|
  Option.bind (y.2.1[0+(wI (Int.tdiv r7.1 32)).toNat]?) λr10=>
  Option.bind (r10[0+(Int.tmod r7.1 32).toNat]?) λr11=>
  Option.bind (y.2.1[0+(wI (Int.tdiv r7.1 32)).toNat]?) λr12=>
  Option.bind (r12[0+(Int.tmod r7.1 32).toNat]?) λr13=>
  cK (decide (¬ (32:Int)=0)) <|
  (E1 y.2.2.1 (wI (Int.tdiv r7.1 32))).bind λc14=>
  some (.inl (y.1,y.2.1.set (0+(wI (Int.tdiv r7.1 32)).toNat) (r12.set (0+(Int.tmod r7.1 32).toNat) r7.2),c14,y.2.2.2.1,y.2.2.2.2.1,wI (y.2.2.2.2.2.1+1),y.2.2.2.2.2.2.1,y.2.2.2.2.2.2.2.1,y.2.2.2.2.2.2.2.2.1,y.2.2.2.2.2.2.2.2.2.1,y.2.2.2.2.2.2.2.2.2.2.1,y.2.2.2.2.2.2.2.2.2.2.2.1,y.2.2.2.2.2.2.2.2.2.2.2.2))
 else
  some (.inr (y.1,y.2.1,y.2.2.1,y.2.2.2.2.2.2.1,y.2.2.2.2.2.2.2.1,y.2.2.2.2.2.2.2.2.1,y.2.2.2.2.2.2.2.2.2.1,y.2.2.2.2.2.2.2.2.2.2.1,y.2.2.2.2.2.2.2.2.2.2.2.1,y.2.2.2.2.2.2.2.2.2.2.2.2))
def QK (y:Aih):Option (Aih⊕(AnH⊕U88)):=
 if decide (y.2.2.2.2.2.1 < y.2.2.2.2.1)then
  Option.bind (α:=Aih⊕U88) (
    cZ y.2.2.2.2.2.1 <|
    cK (decide (y.2.2.2.2.2.1 < (y.2.2.2.1.length:Int))) <|
    Option.bind (y.2.2.2.1[0+y.2.2.2.2.2.1.toNat]?) λr16=>
    cZ r16 <|
    cK (decide (r16 < (y.1.length:Int))) <|
    Option.bind (y.1[0+r16.toNat]?) λr17=>
    Option.bind (α:=An6) (
      if decide (¬ r17=0)then
       cZ r16 <|
       cK (decide (r16 < (y.1.length:Int))) <|
       Option.bind (y.1[0+r16.toNat]?) λr18=>
       cK (Aa (y.2.2.1.length+([r18]:LI).length) 8) <|
       some (y.1,y.2.1,y.2.2.1++([r18]:LI),r16,y.2.2.2.1,y.2.2.2.2.1,y.2.2.2.2.2.1,y.2.2.2.2.2.2.1,y.2.2.2.2.2.2.2.1,y.2.2.2.2.2.2.2.2.1,y.2.2.2.2.2.2.2.2.2.1,y.2.2.2.2.2.2.2.2.2.2.1,y.2.2.2.2.2.2.2.2.2.2.2.1,y.2.2.2.2.2.2.2.2.2.2.2.2)
      else
       some (y.1,y.2.1,y.2.2.1,r16,y.2.2.2.1,y.2.2.2.2.1,y.2.2.2.2.2.1,y.2.2.2.2.2.2.1,y.2.2.2.2.2.2.2.1,y.2.2.2.2.2.2.2.2.1,y.2.2.2.2.2.2.2.2.2.1,y.2.2.2.2.2.2.2.2.2.2.1,y.2.2.2.2.2.2.2.2.2.2.2.1,y.2.2.2.2.2.2.2.2.2.2.2.2)) λv19=>
    cZ v19.2.2.2.1 <|
    cK (decide (v19.2.2.2.1 < (v19.1.length:Int))) <|
    Option.bind (v19.1[0+v19.2.2.2.1.toNat]?) λr20=>
    Option.bind (v19.1[0+v19.2.2.2.1.toNat]?) λr21=>
    cZ v19.2.2.2.1 <|
    cK (decide (v19.2.2.2.1 < (v19.2.1.length:Int))) <|
    Option.bind (v19.2.1[0+v19.2.2.2.1.toNat]?) λr22=>
    Option.bind (v19.2.1[0+v19.2.2.2.1.toNat]?) λr23=>
    (DL r23).bind λc24=>
    if c24 then
     some (.inl (v19.1.set (0+v19.2.2.2.1.toNat) 0,v19.2.1,v19.2.2.1,v19.2.2.2.2.1,v19.2.2.2.2.2.1,v19.2.2.2.2.2.2.1,v19.2.2.2.2.2.2.2.1,v19.2.2.2.2.2.2.2.2.1,v19.2.2.2.2.2.2.2.2.2.1,v19.2.2.2.2.2.2.2.2.2.2.1,v19.2.2.2.2.2.2.2.2.2.2.2.1,v19.2.2.2.2.2.2.2.2.2.2.2.2.1,v19.2.2.2.2.2.2.2.2.2.2.2.2.2))
    else
     (Dn v19.2.2.2.2.2.2.2.2.2.2.1 v19.2.2.2.2.2.2.2.2.2.2.2.1 v19.2.2.2.2.2.2.2.2.2.2.2.2.1 v19.2.2.2.2.2.2.2.2.2.2.2.2.2).bind λc25=>
     if(!c25.2.1)then
      some (.inr (0,false,c25.2.2.1,c25.2.2.2.1,c25.2.2.2.2.1,c25.2.2.2.2.2))
     else
     cZ v19.2.2.2.1 <|
     cK (decide (v19.2.2.2.1 < (v19.2.1.length:Int))) <|
     Option.bind (v19.2.1[0+v19.2.2.2.1.toNat]?) λr26=>
     Option.bind (v19.2.1[0+v19.2.2.2.1.toNat]?) λr27=>
     (Gd c25.1 81 r27 c25.2.2.1 c25.2.2.2.1 c25.2.2.2.2.1 c25.2.2.2.2.2).bind λc28=>
     cZ v19.2.2.2.1 <|
     cK (decide (v19.2.2.2.1 < ((v19.1.set (0+v19.2.2.2.1.toNat) 0).length:Int))) <|
     Option.bind ((v19.1.set (0+v19.2.2.2.1.toNat) 0)[0+v19.2.2.2.1.toNat]?) λr29=>
     Option.bind ((v19.1.set (0+v19.2.2.2.1.toNat) 0)[0+v19.2.2.2.1.toNat]?) λr30=>
     some (.inl ((v19.1.set (0+v19.2.2.2.1.toNat) 0).set (0+v19.2.2.2.1.toNat) c25.1,v19.2.1,v19.2.2.1,v19.2.2.2.2.1,v19.2.2.2.2.2.1,v19.2.2.2.2.2.2.1,v19.2.2.2.2.2.2.2.1,v19.2.2.2.2.2.2.2.2.1,v19.2.2.2.2.2.2.2.2.2.1,c28.1,c28.2.1,c28.2.2.1,c28.2.2.2))) λv31=>
  match v31 with
  | .inl y32=>
   some (.inl (y32.1,y32.2.1,y32.2.2.1,y32.2.2.2.1,y32.2.2.2.2.1,wI (y32.2.2.2.2.2.1+1),y32.2.2.2.2.2.2.1,y32.2.2.2.2.2.2.2.1,y32.2.2.2.2.2.2.2.2.1,y32.2.2.2.2.2.2.2.2.2.1,y32.2.2.2.2.2.2.2.2.2.2.1,y32.2.2.2.2.2.2.2.2.2.2.2.1,y32.2.2.2.2.2.2.2.2.2.2.2.2))
  | .inr s33=>
   some (.inr (.inr (s33.1,s33.2.1,s33.2.2.1,s33.2.2.2.1,s33.2.2.2.2.1,s33.2.2.2.2.2)))
 else
  some (.inr (.inl (y.1,y.2.2.1,y.2.2.2.2.2.2.1,y.2.2.2.2.2.2.2.1,y.2.2.2.2.2.2.2.2.1,y.2.2.2.2.2.2.2.2.2.1,y.2.2.2.2.2.2.2.2.2.2.1,y.2.2.2.2.2.2.2.2.2.2.2.1,y.2.2.2.2.2.2.2.2.2.2.2.2)))
def QP (y:Afh):Option (Afh⊕U66):=
 if decide (y.2.2.2.1 < y.2.2.1)then
  cZ y.2.2.2.1 <|
  cK (decide (y.2.2.2.1 < (y.2.1.length:Int))) <|
  Option.bind (y.2.1[0+y.2.2.2.1.toNat]?) λr44=>
  (DZ r44 y.2.2.2.2.1 y.2.2.2.2.2.1 y.2.2.2.2.2.2.1 y.2.2.2.2.2.2.2).bind λc45=>
  some (.inl (y.1,y.2.1,y.2.2.1,wI (y.2.2.2.1+1),c45.1,c45.2.1,c45.2.2.1,c45.2.2.2))
 else
  some (.inr (y.1,y.2.2.2.2.1,y.2.2.2.2.2.1,y.2.2.2.2.2.2.1,y.2.2.2.2.2.2.2))
def MQ (x0:Int) (x1:LI) (x2:LL) (x3:List (Int×Int)) (x4:LL) (x5 x6 x7:LI):Option U88:=
 if decide ((x3.length:Int)=0)then
  some (x0,true,x4,x5,x6,x7)
 else
  (Bl x1).bind λc1=>
  cZ 32 <|
  cK (decide ((32:Int)<=32)) <|
  cK (Aa (Int.toNat 32) 24) <|
  (Ab QN (x3,c1,List.replicate (Int.toNat 32) ([]:LI),[],((List.replicate (Int.toNat 32) ([]:LI)).length:Int),0,x0,x1,x2,x4,x5,x6,x7)).bind λv6=>
  (Ab QL (v6.2.1,v6.2.2.1,v6.2.2.2.1,v6.1,(v6.1.length:Int),0,v6.2.2.2.2.1,v6.2.2.2.2.2.1,v6.2.2.2.2.2.2.1,v6.2.2.2.2.2.2.2.1,v6.2.2.2.2.2.2.2.2.1,v6.2.2.2.2.2.2.2.2.2.1,v6.2.2.2.2.2.2.2.2.2.2)).bind λv15=>
  (Ab QK (v15.1,v15.2.1,[],v15.2.2.1,(v15.2.2.1.length:Int),0,v15.2.2.2.1,v15.2.2.2.2.1,v15.2.2.2.2.2.1,v15.2.2.2.2.2.2.1,v15.2.2.2.2.2.2.2.1,v15.2.2.2.2.2.2.2.2.1,v15.2.2.2.2.2.2.2.2.2)).bind λv34=>
  match v34 with
  | .inl y35=>
   (DL y35.1).bind λc37=>
   Option.bind (α:=An0⊕U88) (
     if(!c37)then
      (Dn y35.2.2.2.2.2.1 y35.2.2.2.2.2.2.1 y35.2.2.2.2.2.2.2.1 y35.2.2.2.2.2.2.2.2).bind λc38=>
      if(!c38.2.1)then
       some (.inr (0,false,c38.2.2.1,c38.2.2.2.1,c38.2.2.2.2.1,c38.2.2.2.2.2))
      else
       (Gd c38.1 80 y35.1 c38.2.2.1 c38.2.2.2.1 c38.2.2.2.2.1 c38.2.2.2.2.2).bind λc39=>
       some (.inl (y35.2.1,c38.1,y35.2.2.1,y35.2.2.2.1,y35.2.2.2.2.1,c39.1,c39.2.1,c39.2.2.1,c39.2.2.2))
     else
      some (.inl (y35.2.1,0,y35.2.2.1,y35.2.2.2.1,y35.2.2.2.2.1,y35.2.2.2.2.2.1,y35.2.2.2.2.2.2.1,y35.2.2.2.2.2.2.2.1,y35.2.2.2.2.2.2.2.2))) λv40=>
   match v40 with
   | .inl y41=>
    Option.bind (α:=U92) (
      if decide (¬ y41.2.2.1=0)then
       cK (Aa (y41.1.length+([y41.2.2.1]:LI).length) 8) <|
       some (y41.1++([y41.2.2.1]:LI),y41.2.1,y41.2.2.2.2.2.1,y41.2.2.2.2.2.2.1,y41.2.2.2.2.2.2.2.1,y41.2.2.2.2.2.2.2.2)
      else
       some (y41.1,y41.2.1,y41.2.2.2.2.2.1,y41.2.2.2.2.2.2.1,y41.2.2.2.2.2.2.2.1,y41.2.2.2.2.2.2.2.2)) λv43=>
    (Ab QP (v43.2.1,v43.1,(v43.1.length:Int),0,v43.2.2.1,v43.2.2.2.1,v43.2.2.2.2.1,v43.2.2.2.2.2)).bind λv46=>
    some (v46.1,true,v46.2.1,v46.2.2.1,v46.2.2.2.1,v46.2.2.2.2)
   | .inr s42=>
    some (s42.1,s42.2.1,s42.2.2.1,s42.2.2.2.1,s42.2.2.2.2.1,s42.2.2.2.2.2)
  | .inr s36=>
   some (s36.1,s36.2.1,s36.2.2.1,s36.2.2.2.1,s36.2.2.2.2.1,s36.2.2.2.2.2)
def DO (x0:Int) (x1:LI) (x2 x3:LL) (x4 x5 x6:LI) (x7:List (Int×Int)) (x8:Bool) (x9:Int) (x10:Bool):Option Ajk:=
 (An x7).bind λc1=>
 (KW x0 x1 x2 c1).bind λc2=>
 Option.bind (α:=Aob) (
   if x10 then
    some (true,x0,x1,x2,x3,x4,x5,x6,c1,x8,wI (x9+c2),x10)
   else
   some (x8,x0,x1,x2,x3,x4,x5,x6,c1,x8,wI (x9+c2),x10)) λv3=>
 if v3.1 then
  some (0,v3.2.2.2.2.1,v3.2.2.2.2.2.1,v3.2.2.2.2.2.2.1,v3.2.2.2.2.2.2.2.1,v3.2.2.2.2.2.2.2.2.1,v3.2.2.2.2.2.2.2.2.2.1,v3.2.2.2.2.2.2.2.2.2.2.1,v3.2.2.2.2.2.2.2.2.2.2.2)
 else
  (MQ v3.2.1 v3.2.2.1 v3.2.2.2.1 v3.2.2.2.2.2.2.2.2.1 v3.2.2.2.2.1 v3.2.2.2.2.2.1 v3.2.2.2.2.2.2.1 v3.2.2.2.2.2.2.2.1).bind λc4=>
  some (c4.1,c4.2.2.1,c4.2.2.2.1,c4.2.2.2.2.1,c4.2.2.2.2.2,v3.2.2.2.2.2.2.2.2.1,(!c4.2.1),v3.2.2.2.2.2.2.2.2.2.2.1,v3.2.2.2.2.2.2.2.2.2.2.2)
def Dk (x0:Int) (x1:U2) (x2:LL) (x3 x4 x5:LI) (x6:List (Int×Int)) (x7:Bool) (x8:Int) (x9:Bool):Option Aei:=
 Option.bind (α:=AiG) (
  if decide (¬ x0=448)then
   cK (Aa (x6.length+([(x0,0)]:List (Int×Int)).length) 16) <|
   some (x0,x1,x2,x3,x4,x5,x6++([(x0,0)]:List (Int×Int)),x7,x8,x9)
  else
   some (x0,x1,x2,x3,x4,x5,x6,x7,x8,x9)) λ(a,b,c,d,e,f,g,h,i,j)=>
 Option.bind (α:=An3) (
  if(!j)then
   some (a,(!h),b,c,d,e,f,g,h,i,j)
  else
  some (a,false,b,c,d,e,f,g,h,i,j)) λ(k,l,m,n,o,p,q,r,s,t,u)=>
 Option.bind (α:=Aei) (
  if l then
   Option.bind (m) λp3=>
   (DE p3.2.2.2.2.2.2.2.2.2.2.2.2.2.1 p3.2.2.2.2.2.2.2.2.2.2.2.2.2.2.1 p3.2.2.2.2.2.2.2.2.2.2.2.2.2.2.2.1 k).bind λc4=>
   (FH (n,(o,(p,q))) c4).bind λ(_,v,_)=>
   (J4 v n o p q).bind λ(w,x,y,z)=>
   some (m,w,x,y,z,r,s,t,u)
  else
   some (m,n,o,p,q,r,s,t,u)) λ(a0,b0,c0,d0,e0,f0,g0,h0,i0)=>
 some (a0,b0,c0,d0,e0,f0,g0,h0,i0)
def ES (y:Amt):Option (Amt⊕ZK):=match y with
 | (a,b,c,d,e,f,g,h,i,j,k,l,m,n,o,p,q,r,s)=>
 if decide (e < d)then
  cZ e <|
  cK (decide (e < (c.length:Int))) <|
  Option.bind (c[0+e.toNat]?) λr20=>
  Option.bind (c[0+e.toNat]?) λr21=>
  (Mm r20.1 r21.2).bind λc22=>
  (Dk c22 k l m n o p q r s).bind λ(t,u,v,w,x,z,a0,b0,c0)=>
  some (.inl (a,b,c,d,wI (e+1),f,g,h,i,j,t,u,v,w,x,z,a0,b0,c0))
 else
  some (.inr (a,b,f,g,h,i,j,k,l,m,n,o,p,q,r,s))
def EM (y:AhX):Option (AhX⊕ZK):=match y with
 | (a,b,c,d,e,f,g,h,i,j,k,l,m,n,o,p,q,r,s)=>
 if decide (e < d)then
  cZ e <|
  cK (decide (e < (c.length:Int))) <|
  Option.bind (c[0+e.toNat]?) λr28=>
  cK (Aa (p.length+([(wI (384+r28),0)]:List (Int×Int)).length) 16) <|
  Option.bind (α:=An9) (
   if(!s)then
    some (a,b,r28,c,d,e,(!q),f,g,h,i,j,k,l,m,n,o,p++([(wI (384+r28),0)]:List (Int×Int)),q,r,s)
   else
   some (a,b,r28,c,d,e,false,f,g,h,i,j,k,l,m,n,o,p++([(wI (384+r28),0)]:List (Int×Int)),q,r,s)) λ(t,u,v,w,x,z,a0,b0,c0,d0,e0,f0,g0,h0,i0,j0,k0,l0,m0,n0,o0)=>
  Option.bind (α:=AhX) (
   if a0 then
    Option.bind (g0) λp30=>
    (DE p30.2.2.2.2.2.2.2.2.2.2.2.2.2.1 p30.2.2.2.2.2.2.2.2.2.2.2.2.2.2.1 p30.2.2.2.2.2.2.2.2.2.2.2.2.2.2.2.1 (wI (384+v))).bind λc31=>
    (Fk c31 h0 i0 j0 k0).bind λ(p0,q0,r0,s0)=>
    some (t,u,w,x,z,b0,c0,d0,e0,f0,g0,p0,q0,r0,s0,l0,m0,n0,o0)
   else
    some (t,u,w,x,z,b0,c0,d0,e0,f0,g0,h0,i0,j0,k0,l0,m0,n0,o0)) λ(t0,u0,v0,w0,x0,y0,z0,a1,b1,c1,d1,e1,f1,g1,h1,i1,j1,k1,l1)=>
  some (.inl (t0,u0,v0,w0,wI (x0+1),y0,z0,a1,b1,c1,d1,e1,f1,g1,h1,i1,j1,k1,l1))
 else
  some (.inr (a,b,f,g,h,i,j,k,l,m,n,o,p,q,r,s))
def Dc (x0:LL) (x1:Int) (x2:Bool) (x3 x4:Int) (x5:LL) (x6 x7 x8:LI) (x9:List (Int×Int)) (x10:Bool) (x11:Int) (x12:Bool):Option Aoh:=
 (Ea x0 x1 x2 x3).bind λc1=>
 if decide (¬ c1.2=0)then
  some (false,c1.2,0,0,0,0,0,x5,x6,x7,x8,x9,x10,x11,x12)
 else
  Option.bind (c1.1) λp2=>
  Option.bind (c1.1) λp3=>
  (Bp x4 p2.2.2.2.2.1 p3.2.2.2.2.2.1).bind λc4=>
  if(!c4)then
   some (false,3,0,0,0,0,0,x5,x6,x7,x8,x9,x10,x11,x12)
  else
   Option.bind (c1.1) λp5=>
   if decide (x4=p5.2.2.2.2.1)then
    Option.bind (c1.1) λp6=>
    some (false,0,p6.2.2.2.2.1,p6.2.2.2.2.2.1,p6.2.2.2.2.2.2.1,p6.2.2.2.2.2.2.2.1,p6.2.2.2.2.2.2.2.2.1,x5,x6,x7,x8,x9,x10,x11,x12)
   else
    Option.bind (c1.1) λp7=>
    (HS p7.2.2.2.2.2.2.2.2.2.1 p7.2.2.2.2.2.2.2.2.2.2.1 p7.2.2.2.2.2.2.2.2.2.2.2.1 p7.2.2.2.2.2.2.2.2.2.2.2.2.1).bind λ(a,b,c,d)=>
    Option.bind (c1.1) λp9=>
    (Ek p9.2.2.2.2.2.2.2.2.2.2.2.2.2.2.2.2.1 p9.2.2.2.2.2.2.2.2.2.2.2.2.2.2.2.2.2.1 p9.2.2.2.2.2.2.2.2.2.2.2.2.2.2.2.2.2.2.1 p9.2.2.2.2.2.2.2.2.2.2.2.2.2.2.2.2.2.2.2 x4).bind λc10=>
    Option.bind (c1.1) λp11=>
    (Dr c10 p11.2.2.2.2.2.2.2.2.1 a b c d x9 x10 x11 x12).bind λ(e,f,g,h,i,j,k,l,m)=>
    Option.bind (c1.1) λp13=>
    (GY p13.2.2.2.2.2.2.2.2.2.2.2.2.2.2.2.2.1 p13.2.2.2.2.2.2.2.2.2.2.2.2.2.2.2.2.2.1 p13.2.2.2.2.2.2.2.2.2.2.2.2.2.2.2.2.2.2.1 p13.2.2.2.2.2.2.2.2.2.2.2.2.2.2.2.2.2.2.2 x4).bind λc14=>
    (K6 c14).bind λc15=>
    (DP 448 c15 f g h i j k l m).bind λ(n,o,p,q,r,s,t,u)=>
    Option.bind (c1.1) λp17=>
    Option.bind (c1.1) λp18=>
    (UN p17.2.2.2.2.1 p18.2.2.2.2.2.1 x4).bind λc19=>
    (Ab ES (x4,e,c19,(c19.length:Int),0,0,0,0,0,0,c1.1,n,o,p,q,r,s,t,u)).bind λ(v,w,x,y,z,a0,b0,c0,d0,e0,f0,g0,h0,i0,j0,k0)=>
    Option.bind (c0) λp25=>
    Option.bind (c0) λp26=>
    (MA p25.2.2.2.2.1 v p26.2.2.2.2.2.2.1).bind λc27=>
    (Ab EM (v,w,c27,(c27.length:Int),0,x,y,z,a0,b0,c0,d0,e0,f0,g0,h0,i0,j0,k0)).bind λ(l0,m0,n0,o0,p0,q0,r0,s0,t0,u0,v0,w0,y0,z0,a1,b1)=>
    (Dk 448 s0 t0 u0 v0 w0 y0 z0 a1 b1).bind λ(d1,e1,f1,g1,h1,i1,j1,k1,l1)=>
    Option.bind (α:=Alj) (
     if(!l1)then
      some (l0,m0,(!j1),n0,o0,p0,q0,r0,d1,e1,f1,g1,h1,i1,j1,k1,l1)
     else
     some (l0,m0,false,n0,o0,p0,q0,r0,d1,e1,f1,g1,h1,i1,j1,k1,l1)) λ(m1,n1,o1,p1,q1,r1,s1,t1,u1,v1,w1,y1,z1,a2,b2,c2,d2)=>
    Option.bind (α:=ZK) (
     if o1 then
      Option.bind (u1) λp37=>
      (Fk p37.2.2.2.2.2.2.2.2.1 v1 w1 y1 z1).bind λ(e2,f2,g2,h2)=>
      some (m1,n1,p1,q1,r1,s1,t1,u1,e2,f2,g2,h2,a2,b2,c2,d2)
     else
      some (m1,n1,p1,q1,r1,s1,t1,u1,v1,w1,y1,z1,a2,b2,c2,d2)) λ(i2,j2,_,_,_,_,_,k2,l2,m2,n2,o2,q2,r2,s2,t2)=>
    Option.bind (k2) λp40=>
    (DO p40.2.2.2.2.2.2.2.2.2.2.2.2.2.1 p40.2.2.2.2.2.2.2.2.2.2.2.2.2.2.1 p40.2.2.2.2.2.2.2.2.2.2.2.2.2.2.2.1 l2 m2 n2 o2 q2 r2 s2 t2).bind λ(u2,v2,w2,y2,z2,a3,b3,c3,d3)=>
    Option.bind (k2) λp42=>
    Option.bind (k2) λp43=>
    some (true,0,i2,p42.2.2.2.2.2.1,p43.2.2.2.2.2.2.1,u2,j2,v2,w2,y2,z2,a3,b3,c3,d3)
def DS (x0:LL) (x1:Int) (x2:Bool) (x3 x4:Int):Option ((Int×Int)):=
 (Dc x0 x1 x2 x3 x4 [] [] [] [] [] false 0 true).bind λ(_,a,_,_,_,_,_,_,_,_,_,_,_,b,_)=>
 if decide (¬ a=0)then
  some (0,a)
 else
  some (b,0)
def JT (y:(LI×(LI×Int))):Option ((LI×(LI×Int))⊕(Unit⊕Bool)):=
 if decide (y.2.2 < (y.1.length:Int))then
  gX y.1 y.2.2 λr1=>
  gX y.2.1 y.2.2 λr2=>
  if decide (¬ r1=r2)then
   some (.inr (.inr false))
  else
   some (.inl (y.1,y.2.1,wI (y.2.2+1)))
 else
  some (.inr (.inl ()))
def Ny (x0 x1:LI):Option (Bool):=
 if decide (¬ (x0.length:Int)=(x1.length:Int))then
  some false
 else
  (Ab JT (x0,x1,0)).bind λv3=>
  match v3 with
  | .inl y4=>
   some true
  | .inr s5=>
   some s5
def II (y:U20):Option (U20⊕(Unit⊕Bool)):=
 if decide (y.2.2 < (y.1.length:Int))then
  gX y.1 y.2.2 λr1=>
  gX y.2.1 y.2.2 λr2=>
  (Ny r1 r2).bind λc3=>
  if(!c3)then
   some (.inr (.inr false))
  else
   some (.inl (y.1,y.2.1,wI (y.2.2+1)))
 else
  some (.inr (.inl ()))
def LQ (x0 x1:LL):Option (Bool):=
 if decide (¬ (x0.length:Int)=(x1.length:Int))then
  some false
 else
  (Ab II (x0,x1,0)).bind λv4=>
  match v4 with
  | .inl y5=>
   some true
  | .inr s6=>
   some s6
def M7 (x0:LL) (x1:Int) (x2:Bool) (x3:Int) (x4:LL) (x5:Int) (x6:Bool) (x7:Int):Option (Bool):=
 (LQ x0 x4).bind λc1=>
 if(!c1)then
  some false
 else
 if decide (¬ x1=x5)then
  some false
 else
 if(x2 != x6)then
  some false
 else
 if decide (¬ x3=x7)then
  some false
 else
  some true
def Df (x0:LL) (x1:Int) (x2:Bool) (x3 x4:Int):Option (Bool):=
 (Qc x0 x1 x2 x3 1048576).bind λc1=>
 if decide (c1 < 0)then
  some true
 else
  (I3 x0 x1 x2 x3).bind λ(a,b,c,d)=>
  (DY a b c d x4).bind λc3=>
  (I3 x0 x1 x2 x3).bind λ(e,f,g,h)=>
  (DS e f g h x4).bind λc5=>
  Option.bind (α:=AnQ) (
    if decide (¬ c5.1=c3.1)then
     some (true,x0,x1,x2,x3,e,f,g,h)
    else
    some (decide (¬ c5.2=c3.2),x0,x1,x2,x3,e,f,g,h)) λ(i,j,k,l,m,n,o,p,q)=>
  if i then
   some false
  else
   (I3 j k l m).bind λ(r,s,t,u)=>
   (M7 n o p q r s t u).bind λc8=>
   if(!c8)then
    some false
   else
    some true
end
end Go.V.G