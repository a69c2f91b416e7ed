import Derived.Test.YtofhefmbioblbaaGreatQMsA
import Derived.IntWalk
set_option linter.unusedVariables false
set_option linter.unusedSimpArgs false
set_option maxRecDepth 100000
namespace Go.V.G
noncomputable section
def K6 (x0:List Int) (x1:Int):Option (Int):=
 if (decide ((IntKind.wrap .i64 (x1 - ((List.length x0:Nat):Int)):Int) < 0))=true then
  some (-1)
 else
  some (IntKind.wrap .i64 (x1 - ((List.length x0:Nat):Int)))
def GU (y:(List (List Int)×(Int×Int))):Option ((List (List Int)×(Int×Int))⊕(Int⊕Int)):=
 if (decide ((y.2.2:Int) < ((List.length y.1:Nat):Int)))=true then
  if (decide ((0:Int)≤y.2.2))=true then
  Option.bind (y.1[Int.toNat y.2.2]?) fun r1=>
  Option.bind (K6 r1 y.2.1) fun c2=>
  if (decide ((c2:Int) < 0))=true then
   some (.inr (.inr (-1)))
  else
   some (.inl (y.1,c2,IntKind.wrap .i64 (y.2.2+1)))
  else none
 else
  some (.inr (.inl y.2.1))
def JL (x0:List (List Int)) (x1:Int):Option (Int):=
 if (decide ((IntKind.wrap .i64 (x1 - ((List.length x0:Nat):Int)):Int) < 0))=true then
  some (-1)
 else
  Option.bind (Ab GU (x0,IntKind.wrap .i64 (x1 - ((List.length x0:Nat):Int)),0)) fun v3=>
  match v3 with
  | .inl y4=>
   some y4
  | .inr s5=>
   some s5
def M1 (x0:List (List Int)) (x1:Int) (x2:Bool) (x3:Int) (x4:Int):Option (Int):=
 Option.bind (JL x0 x4) fun c1=>
 if (decide ((c1:Int) < 0))=true then
  some (-1)
 else
  some c1
def Mz (x0:List (Int×Int)) (x1:Int):Option (Int):=
 if (decide ((IntKind.wrap .i64 (x1 - ((List.length x0:Nat):Int)):Int) < 0))=true then
  some (-1)
 else
  some (IntKind.wrap .i64 (x1 - ((List.length x0:Nat):Int)))
def M9 (x0:Int) (x1:Int) (x2:List UInt8) (x3:Int):Option (Int):=
 if (decide ((IntKind.wrap .i64 (x3 - ((List.length x2:Nat):Int)):Int) < 0))=true then
  some (-1)
 else
  some (IntKind.wrap .i64 (x3 - ((List.length x2:Nat):Int)))
def HX (y:(List (Int×(Int×List UInt8))×(Int×Int))):Option ((List (Int×(Int×List UInt8))×(Int×Int))⊕(Int⊕Int)):=
 if (decide ((y.2.2:Int) < ((List.length y.1:Nat):Int)))=true then
  if (decide ((0:Int)≤y.2.2))=true then
  Option.bind (y.1[Int.toNat y.2.2]?) fun r1=>
  Option.bind (M9 r1.1 r1.2.1 r1.2.2 y.2.1) fun c2=>
  if (decide ((c2:Int) < 0))=true then
   some (.inr (.inr (-1)))
  else
   some (.inl (y.1,c2,IntKind.wrap .i64 (y.2.2+1)))
  else none
 else
  some (.inr (.inl y.2.1))
def Ls (x0:List (Int×(Int×List UInt8))) (x1:Int):Option (Int):=
 if (decide ((IntKind.wrap .i64 (x1 - ((List.length x0:Nat):Int)):Int) < 0))=true then
  some (-1)
 else
  Option.bind (Ab HX (x0,IntKind.wrap .i64 (x1 - ((List.length x0:Nat):Int)),0)) fun v3=>
  match v3 with
  | .inl y4=>
   some y4
  | .inr s5=>
   some s5
def JD (x0:List (Int×(Int×List UInt8))) (x1:Int):Option (Int):=
 Option.bind (Ls x0 x1) fun c1=>
 if (decide ((c1:Int) < 0))=true then
  some (-1)
 else
  some c1
def Gs (y:(List (List (Int×(Int×List UInt8)))×(Int×Int))):Option ((List (List (Int×(Int×List UInt8)))×(Int×Int))⊕(Int⊕Int)):=
 if (decide ((y.2.2:Int) < ((List.length y.1:Nat):Int)))=true then
  if (decide ((0:Int)≤y.2.2))=true then
  Option.bind (y.1[Int.toNat y.2.2]?) fun r1=>
  Option.bind (JD r1 y.2.1) fun c2=>
  if (decide ((c2:Int) < 0))=true then
   some (.inr (.inr (-1)))
  else
   some (.inl (y.1,c2,IntKind.wrap .i64 (y.2.2+1)))
  else none
 else
  some (.inr (.inl y.2.1))
def IU (x0:List (List (Int×(Int×List UInt8)))) (x1:Int):Option (Int):=
 if (decide ((IntKind.wrap .i64 (x1 - ((List.length x0:Nat):Int)):Int) < 0))=true then
  some (-1)
 else
  Option.bind (Ab Gs (x0,IntKind.wrap .i64 (x1 - ((List.length x0:Nat):Int)),0)) fun v3=>
  match v3 with
  | .inl y4=>
   some y4
  | .inr s5=>
   some s5
def IE (x0:Int) (x1:List UInt8) (x2:List (Int×Int)) (x3:List (List (Int×(Int×List UInt8)))) (x4:Int):Option (Int):=
 if (decide ((IntKind.wrap .i64 (x4 - ((List.length x1:Nat):Int)):Int) < 0))=true then
  some (-1)
 else
  Option.bind (Mz x2 (IntKind.wrap .i64 (x4 - ((List.length x1:Nat):Int)))) fun c1=>
  if (decide ((c1:Int) < 0))=true then
   some (-1)
  else
   Option.bind (IU x3 c1) fun c2=>
   if (decide ((c2:Int) < 0))=true then
    some (-1)
   else
    some c2
def H0 (y:(List Int×(List Int×Int))):Option ((List Int×(List Int×Int))⊕(List Int)):=
 if (decide ((y.2.2:Int) < ((List.length y.1:Nat):Int)))=true then
  if (decide ((0:Int)≤y.2.2))=true then
  Option.bind (y.1[Int.toNat y.2.2]?) fun r1=>
  if (decide ((0:Int)≤y.2.2))=true then
  if (decide ((y.2.2:Int) < ((List.length y.2.1:Nat):Int)))=true then
  Option.bind (y.2.1[0+Int.toNat y.2.2]?) fun r2=>
  Option.bind (y.2.1[0+Int.toNat y.2.2]?) fun r3=>
  some (.inl (y.1,y.2.1.set (0+Int.toNat y.2.2) r1,IntKind.wrap .i64 (y.2.2+1)))
  else none
  else none
  else none
 else
  some (.inr y.2.1)
def KS (x0:List Int):Option (List Int):=
 if (decide ((0:Int)≤((List.length x0:Nat):Int)))=true then
 if (decide ((((List.length x0:Nat):Int):Int)≤((List.length x0:Nat):Int)))=true then
 if (Aa (Int.toNat ((List.length x0:Nat):Int)) 1)=true then
 Option.bind (Ab H0 (x0,List.replicate (Int.toNat ((List.length x0:Nat):Int)) (0:Int),0)) fun v4=>
 some v4
 else none
 else none
 else none
def G8 (y:(List (List Int)×(List (List Int)×Int))):Option ((List (List Int)×(List (List Int)×Int))⊕(List (List Int))):=
 if (decide ((y.2.2:Int) < ((List.length y.1:Nat):Int)))=true then
  if (decide ((0:Int)≤y.2.2))=true then
  Option.bind (y.1[Int.toNat y.2.2]?) fun r1=>
  Option.bind (KS r1) fun c2=>
  if (decide ((0:Int)≤y.2.2))=true then
  if (decide ((y.2.2:Int) < ((List.length y.2.1:Nat):Int)))=true then
  Option.bind (y.2.1[0+Int.toNat y.2.2]?) fun r3=>
  Option.bind (y.2.1[0+Int.toNat y.2.2]?) fun r4=>
  some (.inl (y.1,y.2.1.set (0+Int.toNat y.2.2) c2,IntKind.wrap .i64 (y.2.2+1)))
  else none
  else none
  else none
 else
  some (.inr y.2.1)
def Jv (x0:List (List Int)):Option (List (List Int)):=
 if (decide ((0:Int)≤((List.length x0:Nat):Int)))=true then
 if (decide ((((List.length x0:Nat):Int):Int)≤((List.length x0:Nat):Int)))=true then
 if (Aa (Int.toNat ((List.length x0:Nat):Int)) 24)=true then
 Option.bind (Ab G8 (x0,List.replicate (Int.toNat ((List.length x0:Nat):Int)) ([]:List Int),0)) fun v5=>
 some v5
 else none
 else none
 else none
def FJ (x0:List (List Int)) (x1:Int) (x2:Bool) (x3:Int):Option ((List (List Int)×(Int×(Bool×Int)))):=
 Option.bind (Jv x0) fun c1=>
 some (c1,x1,x2,x3)
def Tk (x0:Int) (x1:Int):Option ((Int×Int)):=
 some (x0,x1)
def IF (y:(List (Int×Int)×(List (Int×Int)×Int))):Option ((List (Int×Int)×(List (Int×Int)×Int))⊕(List (Int×Int))):=
 if (decide ((y.2.2:Int) < ((List.length y.1:Nat):Int)))=true then
  if (decide ((0:Int)≤y.2.2))=true then
  Option.bind (y.1[Int.toNat y.2.2]?) fun r1=>
  Option.bind (Tk r1.1 r1.2) fun c2=>
  if (decide ((0:Int)≤y.2.2))=true then
  if (decide ((y.2.2:Int) < ((List.length y.2.1:Nat):Int)))=true then
  Option.bind (y.2.1[0+Int.toNat y.2.2]?) fun r3=>
  Option.bind (y.2.1[0+Int.toNat y.2.2]?) fun r4=>
  Option.bind ((y.2.1.set (0+Int.toNat y.2.2) (c2.1,r4.2))[0+Int.toNat y.2.2]?) fun r5=>
  Option.bind ((y.2.1.set (0+Int.toNat y.2.2) (c2.1,r4.2))[0+Int.toNat y.2.2]?) fun r6=>
  some (.inl (y.1,(y.2.1.set (0+Int.toNat y.2.2) (c2.1,r4.2)).set (0+Int.toNat y.2.2) (r6.1,c2.2),IntKind.wrap .i64 (y.2.2+1)))
  else none
  else none
  else none
 else
  some (.inr y.2.1)
def MC (x0:List (Int×Int)):Option (List (Int×Int)):=
 if (decide ((0:Int)≤((List.length x0:Nat):Int)))=true then
 if (decide ((((List.length x0:Nat):Int):Int)≤((List.length x0:Nat):Int)))=true then
 if (Aa (Int.toNat ((List.length x0:Nat):Int)) 16)=true then
 Option.bind (Ab IF (x0,List.replicate (Int.toNat ((List.length x0:Nat):Int)) ((0,0):(Int×Int)),0)) fun v7=>
 some v7
 else none
 else none
 else none
def QO (x0:Int) (x1:Int) (x2:List UInt8):Option ((Int×(Int×List UInt8))):=
 some (x0,x1,x2)
def HJ (y:(List (Int×(Int×List UInt8))×(List (Int×(Int×List UInt8))×Int))):Option ((List (Int×(Int×List UInt8))×(List (Int×(Int×List UInt8))×Int))⊕(List (Int×(Int×List UInt8)))):=
 if (decide ((y.2.2:Int) < ((List.length y.1:Nat):Int)))=true then
  if (decide ((0:Int)≤y.2.2))=true then
  Option.bind (y.1[Int.toNat y.2.2]?) fun r1=>
  Option.bind (QO r1.1 r1.2.1 r1.2.2) fun c2=>
  if (decide ((0:Int)≤y.2.2))=true then
  if (decide ((y.2.2:Int) < ((List.length y.2.1:Nat):Int)))=true then
  Option.bind (y.2.1[0+Int.toNat y.2.2]?) fun r3=>
  Option.bind (y.2.1[0+Int.toNat y.2.2]?) fun r4=>
  Option.bind ((y.2.1.set (0+Int.toNat y.2.2) (c2.1,r4.2))[0+Int.toNat y.2.2]?) fun r5=>
  Option.bind ((y.2.1.set (0+Int.toNat y.2.2) (c2.1,r4.2))[0+Int.toNat y.2.2]?) fun r6=>
  Option.bind (((y.2.1.set (0+Int.toNat y.2.2) (c2.1,r4.2)).set (0+Int.toNat y.2.2) (r6.1,(c2.2.1,r6.2.2)))[0+Int.toNat y.2.2]?) fun r7=>
  Option.bind (((y.2.1.set (0+Int.toNat y.2.2) (c2.1,r4.2)).set (0+Int.toNat y.2.2) (r6.1,(c2.2.1,r6.2.2)))[0+Int.toNat y.2.2]?) fun r8=>
  some (.inl (y.1,((y.2.1.set (0+Int.toNat y.2.2) (c2.1,r4.2)).set (0+Int.toNat y.2.2) (r6.1,(c2.2.1,r6.2.2))).set (0+Int.toNat y.2.2) (r8.1,(r8.2.1,c2.2.2)),IntKind.wrap .i64 (y.2.2+1)))
  else none
  else none
  else none
 else
  some (.inr y.2.1)
def KY (x0:List (Int×(Int×List UInt8))):Option (List (Int×(Int×List UInt8))):=
 if (decide ((0:Int)≤((List.length x0:Nat):Int)))=true then
 if (decide ((((List.length x0:Nat):Int):Int)≤((List.length x0:Nat):Int)))=true then
 if (Aa (Int.toNat ((List.length x0:Nat):Int)) 32)=true then
 Option.bind (Ab HJ (x0,List.replicate (Int.toNat ((List.length x0:Nat):Int)) ((0,(0,[])):(Int×(Int×List UInt8))),0)) fun v9=>
 some v9
 else none
 else none
 else none
def JG (x0:List (Int×(Int×List UInt8))):Option (List (Int×(Int×List UInt8))):=
 Option.bind (KY x0) fun c1=>
 some c1
def Gn (y:(List (List (Int×(Int×List UInt8)))×(List (List (Int×(Int×List UInt8)))×Int))):Option ((List (List (Int×(Int×List UInt8)))×(List (List (Int×(Int×List UInt8)))×Int))⊕(List (List (Int×(Int×List UInt8))))):=
 if (decide ((y.2.2:Int) < ((List.length y.1:Nat):Int)))=true then
  if (decide ((0:Int)≤y.2.2))=true then
  Option.bind (y.1[Int.toNat y.2.2]?) fun r1=>
  Option.bind (JG r1) fun c2=>
  if (decide ((0:Int)≤y.2.2))=true then
  if (decide ((y.2.2:Int) < ((List.length y.2.1:Nat):Int)))=true then
  Option.bind (y.2.1[0+Int.toNat y.2.2]?) fun r3=>
  Option.bind (y.2.1[0+Int.toNat y.2.2]?) fun r4=>
  some (.inl (y.1,y.2.1.set (0+Int.toNat y.2.2) c2,IntKind.wrap .i64 (y.2.2+1)))
  else none
  else none
  else none
 else
  some (.inr y.2.1)
def IR (x0:List (List (Int×(Int×List UInt8)))):Option (List (List (Int×(Int×List UInt8)))):=
 if (decide ((0:Int)≤((List.length x0:Nat):Int)))=true then
 if (decide ((((List.length x0:Nat):Int):Int)≤((List.length x0:Nat):Int)))=true then
 if (Aa (Int.toNat ((List.length x0:Nat):Int)) 24)=true then
 Option.bind (Ab Gn (x0,List.replicate (Int.toNat ((List.length x0:Nat):Int)) ([]:List (Int×(Int×List UInt8))),0)) fun v5=>
 some v5
 else none
 else none
 else none
def Dz (x0:Int) (x1:List UInt8) (x2:List (Int×Int)) (x3:List (List (Int×(Int×List UInt8)))):Option ((Int×(List UInt8×(List (Int×Int)×List (List (Int×(Int×List UInt8))))))):=
 Option.bind (MC x2) fun c1=>
 Option.bind (IR x3) fun c2=>
 some (x0,x1,c1,c2)
def Da (x0:Int) (x1:Int) (x2:Int):Option (Bool):=
 Option.bind (α:=Bool) (
  if (decide ((x1:Int)≤x0))=true then
   some (decide ((x0:Int)≤x2))
  else
  some false) fun v1=>
 some v1
def Nq (y:(List (List Int)×(Int×Int))):Option ((List (List Int)×(Int×Int))⊕(Unit⊕Bool)):=
 if (decide ((y.2.2:Int) < y.2.1))=true then
  if (decide ((0:Int)≤y.2.2))=true then
  Option.bind (y.1[Int.toNat y.2.2]?) fun r5=>
  if (decide (¬ (((List.length r5:Nat):Int):Int)=128))=true then
   some (.inr (.inr false))
  else
   some (.inl (y.1,y.2.1,IntKind.wrap .i64 (y.2.2+1)))
  else none
 else
  some (.inr (.inl ()))
def Ju (x0:List (List Int)) (x1:Int) (x2:Bool) (x3:Int):Option (Bool):=
 Option.bind (α:=(Bool×(List (List Int)×(Int×(Bool×Int))))) (
   Option.bind (Da ((List.length x0:Nat):Int) 40 160) fun c1=>
   if (!c1)=true then
    some (true,x0,x1,x2,x3)
   else
    Option.bind (Da x1 0 1000000000) fun c2=>
    if (!c2)=true then
     some (true,x0,x1,x2,x3)
    else
     Option.bind (Da x3 (-1) 1000000) fun c3=>
     some ((!c3),x0,x1,x2,x3)) fun v4=>
 if v4.1=true then
  some false
 else
  Option.bind (Ab Nq (v4.2.1,((List.length v4.2.1:Nat):Int),0)) fun v6=>
  match v6 with
  | .inl y7=>
   some true
  | .inr s8=>
   some s8
def Nt (y:(List (Int×Int)×(Int×(Int×(Int×(List (Int×Int)×(Int×Int))))))):Option ((List (Int×Int)×(Int×(Int×(Int×(List (Int×Int)×(Int×Int))))))⊕((Int×Int)⊕Bool)):=
 if (decide ((y.2.2.2.2.2.2:Int) < y.2.2.2.2.2.1))=true then
  if (decide ((0:Int)≤y.2.2.2.2.2.2))=true then
  Option.bind (y.2.2.2.2.1[Int.toNat y.2.2.2.2.2.2]?) fun r4=>
  Option.bind (α:=(List (Int×Int)×(Int×(Int×(Int×(List (Int×Int)×(Int×(Int×(Bool×(Int×Int)))))))))) (
    Option.bind (Da r4.1 0 y.2.2.1) fun c5=>
    if (!c5)=true then
     some (y.1,y.2.1,y.2.2.1,y.2.2.2.1,y.2.2.2.2.1,y.2.2.2.2.2.1,y.2.2.2.2.2.2,true,r4.1,r4.2)
    else
     Option.bind (Da r4.2 1 (IntKind.wrap .i64 (y.2.1 - y.2.2.2.1))) fun c6=>
     if (!c6)=true then
      some (y.1,y.2.1,y.2.2.1,y.2.2.2.1,y.2.2.2.2.1,y.2.2.2.2.2.1,y.2.2.2.2.2.2,true,r4.1,r4.2)
     else
     if (decide ((0:Int) < y.2.2.2.2.2.2))=true then
      if (decide ((0:Int)≤IntKind.wrap .i64 (y.2.2.2.2.2.2 - 1)))=true then
      Option.bind (y.1[Int.toNat (IntKind.wrap .i64 (y.2.2.2.2.2.2 - 1))]?) fun r7=>
      some (y.1,y.2.1,y.2.2.1,y.2.2.2.1,y.2.2.2.2.1,y.2.2.2.2.2.1,y.2.2.2.2.2.2,decide ((r7.1:Int)=r4.1),r4.1,r4.2)
      else none
     else
     some (y.1,y.2.1,y.2.2.1,y.2.2.2.1,y.2.2.2.2.1,y.2.2.2.2.2.1,y.2.2.2.2.2.2,false,r4.1,r4.2)) fun v8=>
  if v8.2.2.2.2.2.2.2.1=true then
   some (.inr (.inr false))
  else
   some (.inl (v8.1,v8.2.1,v8.2.2.1,IntKind.wrap .i64 (v8.2.2.2.1+v8.2.2.2.2.2.2.2.2.2),v8.2.2.2.2.1,v8.2.2.2.2.2.1,IntKind.wrap .i64 (v8.2.2.2.2.2.2.1+1)))
  else none
 else
  some (.inr (.inl (y.2.1,y.2.2.2.1)))
def Jw (x0:List (Int×Int)) (x1:Int) (x2:Int):Option (Bool):=
 Option.bind (α:=(List (Int×Int)×(Int×(Int×Bool)))) (
   Option.bind (Da x1 0 120) fun c1=>
   if (!c1)=true then
    some (x0,x1,x2,true)
   else
    Option.bind (Da x2 0 60) fun c2=>
    some (x0,x1,x2,(!c2))) fun v3=>
 if v3.2.2.2=true then
  some false
 else
  Option.bind (Ab Nt (v3.1,v3.2.1,v3.2.2.1,0,v3.1,((List.length v3.1:Nat):Int),0)) fun v9=>
  match v9 with
  | .inl y10=>
   some (decide ((y10.2:Int)=y10.1))
  | .inr s11=>
   some s11
def Ky (x0:Int) (x1:Int) (x2:List UInt8):Option (Int):=
 Option.bind (α:=(Bool×(Int×(Int×List UInt8)))) (
   if (decide ((0:Int) < x0))=true then
    if (decide ((x1:Int)=0))=true then
     some (((x2:List UInt8) == ([]:List UInt8)),x0,x1,x2)
    else
    some (false,x0,x1,x2)
   else
   some (false,x0,x1,x2)) fun v1=>
 if v1.1=true then
  some 1
 else
  Option.bind (α:=(Bool×(Int×(Int×List UInt8)))) (
    if (decide ((v1.2.1:Int)=0))=true then
     if (decide ((0:Int) < v1.2.2.1))=true then
      some (((v1.2.2.2:List UInt8) == ([]:List UInt8)),v1.2.1,v1.2.2.1,v1.2.2.2)
     else
     some (false,v1.2.1,v1.2.2.1,v1.2.2.2)
    else
    some (false,v1.2.1,v1.2.2.1,v1.2.2.2)) fun v2=>
  if v2.1=true then
   some 2
  else
   Option.bind (α:=Bool) (
     if (decide ((v2.2.1:Int)=0))=true then
      if (decide ((v2.2.2.1:Int)=0))=true then
       some (!((v2.2.2.2:List UInt8) == ([]:List UInt8)))
      else
      some false
     else
     some false) fun v3=>
   if v3=true then
    some 3
   else
    some 0
def K9 (y:(List (Int×(Int×List UInt8))×(Int×(Int×(List (Int×(Int×List UInt8))×(Int×Int)))))):Option ((List (Int×(Int×List UInt8))×(Int×(Int×(List (Int×(Int×List UInt8))×(Int×Int)))))⊕(Unit⊕Bool)):=
 if (decide ((y.2.2.2.2.2:Int) < y.2.2.2.2.1))=true then
  if (decide ((0:Int)≤y.2.2.2.2.2))=true then
  Option.bind (y.2.2.2.1[Int.toNat y.2.2.2.2.2]?) fun r1=>
  Option.bind (Ky r1.1 r1.2.1 r1.2.2) fun c2=>
  Option.bind (α:=(List (Int×(Int×List UInt8))×(Int×(Int×(List (Int×(Int×List UInt8))×(Int×(Int×(Bool×(Int×(Int×List UInt8)))))))))) (
    if (decide ((c2:Int)=0))=true then
     some (y.1,y.2.1,y.2.2.1,y.2.2.2.1,y.2.2.2.2.1,y.2.2.2.2.2,true,r1.1,r1.2.1,r1.2.2)
    else
    if (decide ((0:Int) < y.2.2.2.2.2))=true then
     if (decide ((0:Int)≤IntKind.wrap .i64 (y.2.2.2.2.2 - 1)))=true then
     Option.bind (y.1[Int.toNat (IntKind.wrap .i64 (y.2.2.2.2.2 - 1))]?) fun r3=>
     Option.bind (Ky r3.1 r3.2.1 r3.2.2) fun c4=>
     if (decide ((c4:Int)=c2))=true then
      some (y.1,y.2.1,y.2.2.1,y.2.2.2.1,y.2.2.2.2.1,y.2.2.2.2.2,true,r1.1,r1.2.1,r1.2.2)
     else
     if (decide ((120:Int) < r1.1))=true then
      some (y.1,y.2.1,y.2.2.1,y.2.2.2.1,y.2.2.2.2.1,y.2.2.2.2.2,true,r1.1,r1.2.1,r1.2.2)
     else
     if (decide ((120:Int) < r1.2.1))=true then
      some (y.1,y.2.1,y.2.2.1,y.2.2.2.1,y.2.2.2.2.1,y.2.2.2.2.2,true,r1.1,r1.2.1,r1.2.2)
     else
     some (y.1,y.2.1,y.2.2.1,y.2.2.2.1,y.2.2.2.2.1,y.2.2.2.2.2,decide ((120:Int) < ((List.length r1.2.2:Nat):Int)),r1.1,r1.2.1,r1.2.2)
     else none
    else
    if (decide ((120:Int) < r1.1))=true then
     some (y.1,y.2.1,y.2.2.1,y.2.2.2.1,y.2.2.2.2.1,y.2.2.2.2.2,true,r1.1,r1.2.1,r1.2.2)
    else
    if (decide ((120:Int) < r1.2.1))=true then
     some (y.1,y.2.1,y.2.2.1,y.2.2.2.1,y.2.2.2.2.1,y.2.2.2.2.2,true,r1.1,r1.2.1,r1.2.2)
    else
    some (y.1,y.2.1,y.2.2.1,y.2.2.2.1,y.2.2.2.2.1,y.2.2.2.2.2,decide ((120:Int) < ((List.length r1.2.2:Nat):Int)),r1.1,r1.2.1,r1.2.2)) fun v5=>
  if v5.2.2.2.2.2.2.1=true then
   some (.inr (.inr false))
  else
   Option.bind (α:=(List (Int×(Int×List UInt8))×(Int×(Int×(List (Int×(Int×List UInt8))×(Int×(Int×Bool))))))) (
     if (decide ((120:Int) < (IntKind.wrap .i64 (v5.2.1+(IntKind.wrap .i64 (v5.2.2.2.2.2.2.2.1+v5.2.2.2.2.2.2.2.2.1))))))=true then
      some (v5.1,IntKind.wrap .i64 (v5.2.1+(IntKind.wrap .i64 (v5.2.2.2.2.2.2.2.1+v5.2.2.2.2.2.2.2.2.1))),IntKind.wrap .i64 (v5.2.2.1+(IntKind.wrap .i64 (v5.2.2.2.2.2.2.2.1+((List.length v5.2.2.2.2.2.2.2.2.2:Nat):Int)))),v5.2.2.2.1,v5.2.2.2.2.1,v5.2.2.2.2.2.1,true)
     else
     some (v5.1,IntKind.wrap .i64 (v5.2.1+(IntKind.wrap .i64 (v5.2.2.2.2.2.2.2.1+v5.2.2.2.2.2.2.2.2.1))),IntKind.wrap .i64 (v5.2.2.1+(IntKind.wrap .i64 (v5.2.2.2.2.2.2.2.1+((List.length v5.2.2.2.2.2.2.2.2.2:Nat):Int)))),v5.2.2.2.1,v5.2.2.2.2.1,v5.2.2.2.2.2.1,decide ((120:Int) < (IntKind.wrap .i64 (v5.2.2.1+(IntKind.wrap .i64 (v5.2.2.2.2.2.2.2.1+((List.length v5.2.2.2.2.2.2.2.2.2:Nat):Int)))))))) fun v6=>
   if v6.2.2.2.2.2.2=true then
    some (.inr (.inr false))
   else
    some (.inl (v6.1,v6.2.1,v6.2.2.1,v6.2.2.2.1,v6.2.2.2.2.1,IntKind.wrap .i64 (v6.2.2.2.2.2.1+1)))
  else none
 else
  some (.inr (.inl ()))
def HS (x0:List (Int×(Int×List UInt8))):Option (Bool):=
 Option.bind (Ab K9 (x0,0,0,x0,((List.length x0:Nat):Int),0)) fun v7=>
 match v7 with
 | .inl y8=>
  some true
 | .inr s9=>
  some s9
def E7 (y:(Int×(List (Int×(Int×List UInt8))×(Int×Int)))):Option ((Int×(List (Int×(Int×List UInt8))×(Int×Int)))⊕Int):=
 if (decide ((y.2.2.2:Int) < y.2.2.1))=true then
  if (decide ((0:Int)≤y.2.2.2))=true then
  Option.bind (y.2.1[Int.toNat y.2.2.2]?) fun r1=>
  some (.inl (IntKind.wrap .i64 (y.1+(IntKind.wrap .i64 (r1.1+r1.2.1))),y.2.1,y.2.2.1,IntKind.wrap .i64 (y.2.2.2+1)))
  else none
 else
  some (.inr y.1)
def JB (x0:List (Int×(Int×List UInt8))):Option (Int):=
 Option.bind (Ab E7 (0,x0,((List.length x0:Nat):Int),0)) fun v2=>
 some v2
def E6 (y:(Int×(List (Int×(Int×List UInt8))×(Int×Int)))):Option ((Int×(List (Int×(Int×List UInt8))×(Int×Int)))⊕Int):=
 if (decide ((y.2.2.2:Int) < y.2.2.1))=true then
  if (decide ((0:Int)≤y.2.2.2))=true then
  Option.bind (y.2.1[Int.toNat y.2.2.2]?) fun r1=>
  some (.inl (IntKind.wrap .i64 (y.1+(IntKind.wrap .i64 (r1.1+((List.length r1.2.2:Nat):Int)))),y.2.1,y.2.2.1,IntKind.wrap .i64 (y.2.2.2+1)))
  else none
 else
  some (.inr y.1)
def Jr (x0:List (Int×(Int×List UInt8))):Option (Int):=
 Option.bind (Ab E6 (0,x0,((List.length x0:Nat):Int),0)) fun v2=>
 some v2
def Ke (y:(Int×(List (List (Int×(Int×List UInt8)))×(Int×Int)))):Option ((Int×(List (List (Int×(Int×List UInt8)))×(Int×Int)))⊕(Unit⊕Bool)):=
 if (decide ((y.2.2.2:Int) < y.2.2.1))=true then
  if (decide ((0:Int)≤y.2.2.2))=true then
  Option.bind (y.2.1[Int.toNat y.2.2.2]?) fun r4=>
  Option.bind (α:=(List (List (Int×(Int×List UInt8)))×(Int×(Int×(Bool×List (Int×(Int×List UInt8))))))) (
    Option.bind (HS r4) fun c5=>
    if (!c5)=true then
     some (y.2.1,y.2.2.1,y.2.2.2,true,r4)
    else
     Option.bind (JB r4) fun c6=>
     some (y.2.1,y.2.2.1,y.2.2.2,decide (¬ (c6:Int)=y.1),r4)) fun v7=>
  if v7.2.2.2.1=true then
   some (.inr (.inr false))
  else
   Option.bind (Jr v7.2.2.2.2) fun c8=>
   some (.inl (c8,v7.1,v7.2.1,IntKind.wrap .i64 (v7.2.2.1+1)))
  else none
 else
  some (.inr (.inl ()))
def GY (x0:Int) (x1:List UInt8) (x2:List (Int×Int)) (x3:List (List (Int×(Int×List UInt8)))):Option (Bool):=
 Option.bind (α:=(Bool×(Int×(List UInt8×(List (Int×Int)×List (List (Int×(Int×List UInt8)))))))) (
   Option.bind (Da x0 0 60) fun c1=>
   if (!c1)=true then
    some (true,x0,x1,x2,x3)
   else
   if (decide ((120:Int) < ((List.length x1:Nat):Int)))=true then
    some (true,x0,x1,x2,x3)
   else
    Option.bind (Jw x2 ((List.length x1:Nat):Int) x0) fun c2=>
    if (!c2)=true then
     some (true,x0,x1,x2,x3)
    else
    some (decide ((IntKind.wrap .i64 (60 - x0):Int) < ((List.length x3:Nat):Int)),x0,x1,x2,x3)) fun v3=>
 if v3.1=true then
  some false
 else
  Option.bind (Ab Ke (((List.length v3.2.2.1:Nat):Int),v3.2.2.2.2,((List.length v3.2.2.2.2:Nat):Int),0)) fun v9=>
  match v9 with
  | .inl y10=>
   some true
  | .inr s11=>
   some s11
def R9 (y:(List (List Int)×(List (List Int)×(Int×(Int×(List (List Int)×(Int×(Bool×(Int×(Int×(Bool×Int))))))))))):Option ((List (List Int)×(List (List Int)×(Int×(Int×(List (List Int)×(Int×(Bool×(Int×(Int×(Bool×Int))))))))))⊕(List (List Int)×(List (List Int)×(Int×(Bool×(Int×(Int×(Bool×Int)))))))):=
 if (decide ((y.2.2.2.1:Int) < y.2.2.1))=true then
  if (decide ((0:Int)≤y.2.2.2.1))=true then
  Option.bind (y.2.1[Int.toNat y.2.2.2.1]?) fun r2=>
  if (Aa (List.length ([]:List Int)+List.length r2) 1)=true then
  if (Aa (List.length y.1+List.length ([([]:List Int)++r2]:List (List Int))) 24)=true then
  some (.inl (y.1++([([]:List Int)++r2]:List (List Int)),y.2.1,y.2.2.1,IntKind.wrap .i64 (y.2.2.2.1+1),y.2.2.2.2.1,y.2.2.2.2.2.1,y.2.2.2.2.2.2.1,y.2.2.2.2.2.2.2.1,y.2.2.2.2.2.2.2.2.1,y.2.2.2.2.2.2.2.2.2.1,y.2.2.2.2.2.2.2.2.2.2))
  else none
  else none
  else none
 else
  some (.inr (y.1,y.2.2.2.2.1,y.2.2.2.2.2.1,y.2.2.2.2.2.2.1,y.2.2.2.2.2.2.2.1,y.2.2.2.2.2.2.2.2.1,y.2.2.2.2.2.2.2.2.2.1,y.2.2.2.2.2.2.2.2.2.2))
def Iv (x0:List (List Int)) (x1:Int) (x2:Bool) (x3:Int):Option ((List (List Int)×(Int×(Bool×Int)))):=
 Option.bind (Ab R9 ([],x0,((List.length x0:Nat):Int),0,x0,x1,x2,x3,0,false,0)) fun v3=>
 some (v3.1,v3.2.2.1,v3.2.2.2.1,v3.2.2.2.2.1)
def OF (y:(Int×(Int×(Bool×(Int×(List (List Int)×(Int×(Bool×Int)))))))):Option ((Int×(Int×(Bool×(Int×(List (List Int)×(Int×(Bool×Int)))))))⊕(Int×(Bool×(Int×(List (List Int)×(Int×(Bool×Int))))))):=
 if (decide ((0:Int) < y.1))=true then
  if (decide ((0:Int)≤128))=true then
  if (decide ((128:Int)≤128))=true then
  if (Aa (Int.toNat 128) 1)=true then
  if (Aa (List.length y.2.2.2.2.1+List.length ([List.replicate (Int.toNat 128) (0:Int)]:List (List Int))) 24)=true then
  some (.inl (IntKind.wrap .i64 (y.1 - 1),y.2.1,y.2.2.1,y.2.2.2.1,y.2.2.2.2.1++([List.replicate (Int.toNat 128) (0:Int)]:List (List Int)),y.2.2.2.2.2.1,y.2.2.2.2.2.2.1,y.2.2.2.2.2.2.2))
  else none
  else none
  else none
  else none
 else
  some (.inr (y.2.1,y.2.2.1,y.2.2.2.1,y.2.2.2.2.1,y.2.2.2.2.2.1,y.2.2.2.2.2.2.1,y.2.2.2.2.2.2.2))
def Ll (x0:Int):Option ((Bool×(List (List Int)×(Int×(Bool×Int))))):=
 Option.bind (Da x0 40 160) fun c1=>
 if (!c1)=true then
  some (false,[],0,false,0)
 else
  Option.bind (Ab OF (x0,0,false,0,[],0,true,(-1))) fun v2=>
  some (true,v2.2.2.2.1,v2.2.2.2.2.1,v2.2.2.2.2.2.1,v2.2.2.2.2.2.2)
def EH (x0:List Int) (x1:Int) (x2:Bool):Option (List Int):=
 Option.bind (α:=List Int) (
  if x2=true then
   if (decide (¬ (8:Int)=0))=true then
   if (decide ((0:Int)≤IntKind.wrap .i64 (Int.tdiv x1 8)))=true then
   if (decide ((IntKind.wrap .i64 (Int.tdiv x1 8):Int) < ((List.length x0:Nat):Int)))=true then
   Option.bind (x0[0+Int.toNat (IntKind.wrap .i64 (Int.tdiv x1 8))]?) fun r1=>
   if (decide (¬ (8:Int)=0))=true then
   if (decide ((0:Int)≤IntKind.wrap .u64 (Int.tmod x1 8)))=true then
   if (decide ((0:Int)≤IntKind.wrap .i64 (Int.tdiv x1 8)))=true then
   if (decide ((IntKind.wrap .i64 (Int.tdiv x1 8):Int) < ((List.length x0:Nat):Int)))=true then
   Option.bind (x0[0+Int.toNat (IntKind.wrap .i64 (Int.tdiv x1 8))]?) fun r2=>
   Option.bind (x0[0+Int.toNat (IntKind.wrap .i64 (Int.tdiv x1 8))]?) fun r3=>
   some (x0.set (0+Int.toNat (IntKind.wrap .i64 (Int.tdiv x1 8))) (IntKind.wrap .u8 (((BitVec.ofInt (IntKind.bits .u8) r1 ||| BitVec.ofInt (IntKind.bits .u8) (IntKind.wrap .u8 (1 * 2 ^ (min (Int.toNat (IntKind.wrap .u64 (Int.tmod x1 8))) (IntKind.bits .u8))))).toNat:Int))))
   else none
   else none
   else none
   else none
   else none
   else none
   else none
  else
  if (decide (¬ (8:Int)=0))=true then
  if (decide ((0:Int)≤IntKind.wrap .i64 (Int.tdiv x1 8)))=true then
  if (decide ((IntKind.wrap .i64 (Int.tdiv x1 8):Int) < ((List.length x0:Nat):Int)))=true then
  Option.bind (x0[0+Int.toNat (IntKind.wrap .i64 (Int.tdiv x1 8))]?) fun r4=>
  if (decide (¬ (8:Int)=0))=true then
  if (decide ((0:Int)≤IntKind.wrap .u64 (Int.tmod x1 8)))=true then
  if (decide ((0:Int)≤IntKind.wrap .i64 (Int.tdiv x1 8)))=true then
  if (decide ((IntKind.wrap .i64 (Int.tdiv x1 8):Int) < ((List.length x0:Nat):Int)))=true then
  Option.bind (x0[0+Int.toNat (IntKind.wrap .i64 (Int.tdiv x1 8))]?) fun r5=>
  Option.bind (x0[0+Int.toNat (IntKind.wrap .i64 (Int.tdiv x1 8))]?) fun r6=>
  some (x0.set (0+Int.toNat (IntKind.wrap .i64 (Int.tdiv x1 8))) (IntKind.wrap .u8 (((BitVec.ofInt (IntKind.bits .u8) r4 &&& ~~~ BitVec.ofInt (IntKind.bits .u8) (IntKind.wrap .u8 (1 * 2 ^ (min (Int.toNat (IntKind.wrap .u64 (Int.tmod x1 8))) (IntKind.bits .u8))))).toNat:Int))))
  else none
  else none
  else none
  else none
  else none
  else none
  else none) fun v7=>
 some v7
def FZ (y:(Int×(List (List Int)×List Int))):Option ((Int×(List (List Int)×List Int))⊕(List (List Int)×List Int)):=
 if (decide ((y.1:Int) < 33))=true then
  Option.bind (EH y.2.2 y.1 true) fun c2=>
  some (.inl (IntKind.wrap .i64 (y.1+1),y.2.1,c2))
 else
  some (.inr (y.2.1,y.2.2))
def KW (x0:Int):Option ((List (List Int)×List Int)):=
 Option.bind (Ll x0) fun c1=>
 if (decide ((0:Int)≤20))=true then
 if (decide ((20:Int)≤20))=true then
 if (Aa (Int.toNat 20) 1)=true then
 Option.bind (Ab FZ (0,c1.2.1,List.replicate (Int.toNat 20) (0:Int))) fun v3=>
 some (v3.1,v3.2)
 else none
 else none
 else none
def FX (y:(List Int×(List (Int×Int)×(Int×Int)))):Option ((List Int×(List (Int×Int)×(Int×Int)))⊕(List Int)):=
 if (decide ((y.2.2.2:Int) < y.2.2.1))=true then
  if (decide ((0:Int)≤y.2.2.2))=true then
  Option.bind (y.2.1[Int.toNat y.2.2.2]?) fun r2=>
  if (Aa (List.length y.1+List.length ([IntKind.wrap .u8 r2.1,IntKind.wrap .u8 r2.2]:List Int)) 1)=true then
  some (.inl (y.1++([IntKind.wrap .u8 r2.1,IntKind.wrap .u8 r2.2]:List Int),y.2.1,y.2.2.1,IntKind.wrap .i64 (y.2.2.2+1)))
  else none
  else none
 else
  some (.inr y.1)
def Lv (x0:List (Int×Int)):Option (List Int):=
 Option.bind (Ab FX ([],x0,((List.length x0:Nat):Int),0)) fun v3=>
 some v3
def Hh (x0:List Int) (x1:Int):Option (Bool):=
 if (decide (¬ (8:Int)=0))=true then
 if (decide ((0:Int)≤IntKind.wrap .i64 (Int.tdiv x1 8)))=true then
 Option.bind (x0[Int.toNat (IntKind.wrap .i64 (Int.tdiv x1 8))]?) fun r1=>
 if (decide (¬ (8:Int)=0))=true then
 if (decide ((0:Int)≤IntKind.wrap .u64 (Int.tmod x1 8)))=true then
 some (decide ((IntKind.wrap .u8 (((BitVec.ofInt (IntKind.bits .u8) (Int.fdiv r1 (2 ^ (min (Int.toNat (IntKind.wrap .u64 (Int.tmod x1 8))) (IntKind.bits .u8)))) &&& BitVec.ofInt (IntKind.bits .u8) 1).toNat:Int)):Int)=1))
 else none
 else none
 else none
 else none
def GR (y:(Int×(Int×(Int×(List (List Int)×(List Int×(List Int×List Int))))))):Option ((Int×(Int×(Int×(List (List Int)×(List Int×(List Int×List Int))))))⊕Int):=
 if (decide ((y.2.2.1:Int) < y.2.1))=true then
  Option.bind (Hh y.2.2.2.2.1 y.2.2.1) fun c1=>
  Option.bind (α:=(Int×(Int×(Int×(List (List Int)×(List Int×(List Int×List Int))))))) (
   if (!c1)=true then
    some (IntKind.wrap .i64 (y.1+1),y.2.1,y.2.2.1,y.2.2.2.1,y.2.2.2.2.1,y.2.2.2.2.2.1,y.2.2.2.2.2.2)
   else
    some (y.1,y.2.1,y.2.2.1,y.2.2.2.1,y.2.2.2.2.1,y.2.2.2.2.2.1,y.2.2.2.2.2.2)) fun v2=>
  some (.inl (v2.1,v2.2.1,IntKind.wrap .i64 (v2.2.2.1+1),v2.2.2.2.1,v2.2.2.2.2.1,v2.2.2.2.2.2.1,v2.2.2.2.2.2.2))
 else
  some (.inr y.1)
def MI (x0:List (List Int)) (x1:List Int) (x2:List Int) (x3:List Int):Option (Int):=
 Option.bind (Ab GR (0,((List.length x0:Nat):Int),0,x0,x1,x2,x3)) fun v3=>
 some v3
def RF (y:(Int×(List Int×(Int×Int)))):Option ((Int×(List Int×(Int×Int)))⊕(Unit⊕Bool)):=
 if (decide ((y.2.2.2:Int) < y.2.2.1))=true then
  if (decide ((0:Int)≤y.2.2.2))=true then
  Option.bind (y.2.1[Int.toNat y.2.2.2]?) fun r1=>
  if (decide ((r1:Int)=y.1))=true then
   some (.inr (.inr true))
  else
   some (.inl (y.1,y.2.1,y.2.2.1,IntKind.wrap .i64 (y.2.2.2+1)))
  else none
 else
  some (.inr (.inl ()))
def JT (x0:List Int) (x1:Int):Option (Bool):=
 Option.bind (Ab RF (x1,x0,((List.length x0:Nat):Int),0)) fun v2=>
 match v2 with
 | .inl y3=>
  some false
 | .inr s4=>
  some s4
def Ip (x0:List (List Int)) (x1:List Int) (x2:List Int) (x3:List Int) (x4:Int):Option (Bool):=
 Option.bind (α:=Bool) (
  Option.bind (Da x4 33 (IntKind.wrap .i64 (((List.length x0:Nat):Int) - 1))) fun c1=>
  if c1=true then
   Option.bind (Hh x1 x4) fun c2=>
   if c2=true then
    Option.bind (JT x2 x4) fun c3=>
    some (!c3)
   else
   some false
  else
  some false) fun v4=>
 some v4
def Qd (y:(List Int×(Int×Int))):Option ((List Int×(Int×Int))⊕(Unit⊕Bool)):=
 if (decide ((y.2.2:Int) < y.2.1))=true then
  if (decide ((0:Int)≤y.2.2))=true then
  Option.bind (y.1[Int.toNat y.2.2]?) fun r1=>
  if (decide (¬ (r1:Int)=0))=true then
   some (.inr (.inr false))
  else
   some (.inl (y.1,y.2.1,IntKind.wrap .i64 (y.2.2+1)))
  else none
 else
  some (.inr (.inl ()))
def Hr (x0:List Int) (x1:Int):Option (Bool):=
 if (decide ((0:Int)≤x1))=true then
 if (decide ((x1:Int)≤((List.length x0:Nat):Int)))=true then
 if (decide ((((List.length x0:Nat):Int):Int)≤((List.length x0:Nat):Int)))=true then
 if (decide ((((List.length x0:Nat):Int):Int)≤((List.length x0:Nat):Int)))=true then
 Option.bind (Ab Qd ((List.drop (Int.toNat x1) x0).take (Int.toNat ((List.length x0:Nat):Int) - Int.toNat x1),((List.length ((List.drop (Int.toNat x1) x0).take (Int.toNat ((List.length x0:Nat):Int) - Int.toNat x1)):Nat):Int),0)) fun v2=>
 match v2 with
 | .inl y3=>
  some true
 | .inr s4=>
  some s4
 else none
 else none
 else none
 else none
def DV (y:(List Int×(Int×(List Int×(Int×(List (List Int)×(List Int×(List Int×List Int)))))))):Option ((List Int×(Int×(List Int×(Int×(List (List Int)×(List Int×(List Int×List Int)))))))⊕((List Int×(Int×List Int))⊕Bool)):=
 if (decide ((y.2.2.2.1:Int) < y.2.1))=true then
  if (decide ((0:Int)≤IntKind.wrap .i64 (2+(IntKind.wrap .i64 (2 * y.2.2.2.1)))))=true then
  Option.bind (y.1[Int.toNat (IntKind.wrap .i64 (2+(IntKind.wrap .i64 (2 * y.2.2.2.1))))]?) fun r24=>
  if (decide ((0:Int)≤IntKind.wrap .i64 (3+(IntKind.wrap .i64 (2 * y.2.2.2.1)))))=true then
  Option.bind (y.1[Int.toNat (IntKind.wrap .i64 (3+(IntKind.wrap .i64 (2 * y.2.2.2.1))))]?) fun r25=>
  Option.bind (α:=(List Int×(Int×(List Int×(Int×(Int×(Bool×(List (List Int)×(List Int×(List Int×List Int)))))))))) (
    Option.bind (Ip y.2.2.2.2.1 y.2.2.2.2.2.1 y.2.2.2.2.2.2.1 y.2.2.2.2.2.2.2 (IntKind.wrap .i64 ((IntKind.wrap .i64 ((IntKind.wrap .i64 r24) * 256))+(IntKind.wrap .i64 r25)))) fun c26=>
    if (!c26)=true then
     some (y.1,y.2.1,y.2.2.1,y.2.2.2.1,IntKind.wrap .i64 ((IntKind.wrap .i64 ((IntKind.wrap .i64 r24) * 256))+(IntKind.wrap .i64 r25)),true,y.2.2.2.2.1,y.2.2.2.2.2.1,y.2.2.2.2.2.2.1,y.2.2.2.2.2.2.2)
    else
     Option.bind (JT y.2.2.1 (IntKind.wrap .i64 ((IntKind.wrap .i64 ((IntKind.wrap .i64 r24) * 256))+(IntKind.wrap .i64 r25)))) fun c27=>
     some (y.1,y.2.1,y.2.2.1,y.2.2.2.1,IntKind.wrap .i64 ((IntKind.wrap .i64 ((IntKind.wrap .i64 r24) * 256))+(IntKind.wrap .i64 r25)),c27,y.2.2.2.2.1,y.2.2.2.2.2.1,y.2.2.2.2.2.2.1,y.2.2.2.2.2.2.2)) fun v28=>
  if v28.2.2.2.2.2.1=true then
   some (.inr (.inr false))
  else
  if (decide ((0:Int)≤v28.2.2.2.2.1))=true then
  Option.bind (v28.2.2.2.2.2.2.1[Int.toNat v28.2.2.2.2.1]?) fun r29=>
  if (decide ((0:Int)≤2))=true then
  Option.bind (r29[Int.toNat 2]?) fun r30=>
  Option.bind (α:=(List Int×(Int×(List Int×(Int×(Int×(Bool×(List (List Int)×(List Int×(List Int×List Int)))))))))) (
    if (decide ((0:Int)≤0))=true then
    Option.bind (r29[Int.toNat 0]?) fun r31=>
    if (decide (¬ (r31:Int)=83))=true then
     some (v28.1,v28.2.1,v28.2.2.1,v28.2.2.2.1,v28.2.2.2.2.1,true,v28.2.2.2.2.2.2.1,v28.2.2.2.2.2.2.2.1,v28.2.2.2.2.2.2.2.2.1,v28.2.2.2.2.2.2.2.2.2)
    else
    if (decide ((0:Int)≤1))=true then
    Option.bind (r29[Int.toNat 1]?) fun r32=>
    Option.bind (Da (IntKind.wrap .i64 r32) 1 250) fun c33=>
    if (!c33)=true then
     some (v28.1,v28.2.1,v28.2.2.1,v28.2.2.2.1,v28.2.2.2.2.1,true,v28.2.2.2.2.2.2.1,v28.2.2.2.2.2.2.2.1,v28.2.2.2.2.2.2.2.2.1,v28.2.2.2.2.2.2.2.2.2)
    else
     Option.bind (Da (IntKind.wrap .i64 r30) 1 40) fun c34=>
     if (!c34)=true then
      some (v28.1,v28.2.1,v28.2.2.1,v28.2.2.2.1,v28.2.2.2.2.1,true,v28.2.2.2.2.2.2.1,v28.2.2.2.2.2.2.2.1,v28.2.2.2.2.2.2.2.2.1,v28.2.2.2.2.2.2.2.2.2)
     else
     if (decide ((v28.2.2.2.1:Int) < (IntKind.wrap .i64 (v28.2.1 - 1))))=true then
      if (decide (¬ (IntKind.wrap .i64 r30:Int)=40))=true then
       some (v28.1,v28.2.1,v28.2.2.1,v28.2.2.2.1,v28.2.2.2.2.1,true,v28.2.2.2.2.2.2.1,v28.2.2.2.2.2.2.2.1,v28.2.2.2.2.2.2.2.2.1,v28.2.2.2.2.2.2.2.2.2)
      else
       Option.bind (Hr r29 (IntKind.wrap .i64 (3+(IntKind.wrap .i64 r30)))) fun c35=>
       some (v28.1,v28.2.1,v28.2.2.1,v28.2.2.2.1,v28.2.2.2.2.1,(!c35),v28.2.2.2.2.2.2.1,v28.2.2.2.2.2.2.2.1,v28.2.2.2.2.2.2.2.2.1,v28.2.2.2.2.2.2.2.2.2)
     else
     Option.bind (Hr r29 (IntKind.wrap .i64 (3+(IntKind.wrap .i64 r30)))) fun c37=>
     some (v28.1,v28.2.1,v28.2.2.1,v28.2.2.2.1,v28.2.2.2.2.1,(!c37),v28.2.2.2.2.2.2.1,v28.2.2.2.2.2.2.2.1,v28.2.2.2.2.2.2.2.2.1,v28.2.2.2.2.2.2.2.2.2)
    else none
    else none) fun v38=>
  if v38.2.2.2.2.2.1=true then
   some (.inr (.inr false))
  else
  if (Aa (List.length v38.2.2.1+List.length ([v38.2.2.2.2.1]:List Int)) 8)=true then
  some (.inl (v38.1,v38.2.1,v38.2.2.1++([v38.2.2.2.2.1]:List Int),IntKind.wrap .i64 (v38.2.2.2.1+1),v38.2.2.2.2.2.2.1,v38.2.2.2.2.2.2.2.1,v38.2.2.2.2.2.2.2.2.1,v38.2.2.2.2.2.2.2.2.2))
  else none
  else none
  else none
  else none
  else none
 else
  some (.inr (.inl (y.1,y.2.1,y.2.2.1)))
def Js (x0:List (List Int)) (x1:List Int) (x2:List Int) (x3:List Int) (x4:Int):Option ((List Int×Bool)):=
 Option.bind (α:=(Int×(Bool×(List (List Int)×(List Int×(List Int×List Int)))))) (
   Option.bind (Ip x0 x1 x2 x3 x4) fun c1=>
   if (!c1)=true then
    some (x4,true,x0,x1,x2,x3)
   else
   if (decide ((0:Int)≤x4))=true then
   Option.bind (x0[Int.toNat x4]?) fun r2=>
   if (decide ((0:Int)≤0))=true then
   Option.bind (r2[Int.toNat 0]?) fun r3=>
   if (decide (¬ (r3:Int)=84))=true then
    some (x4,true,x0,x1,x2,x3)
   else
   if (decide ((0:Int)≤x4))=true then
   Option.bind (x0[Int.toNat x4]?) fun r4=>
   if (decide ((0:Int)≤1))=true then
   Option.bind (r4[Int.toNat 1]?) fun r5=>
   some (x4,decide ((3:Int) < r5),x0,x1,x2,x3)
   else none
   else none
   else none
   else none) fun v6=>
 if v6.2.1=true then
  some ([],false)
 else
 if (decide ((0:Int)≤v6.1))=true then
 Option.bind (v6.2.2.1[Int.toNat v6.1]?) fun r7=>
 if (decide ((0:Int)≤1))=true then
 Option.bind (r7[Int.toNat 1]?) fun r8=>
 Option.bind (Ab DV (r7,IntKind.wrap .i64 r8,[],0,v6.2.2.1,v6.2.2.2.1,v6.2.2.2.2.1,v6.2.2.2.2.2)) fun v39=>
 match v39 with
 | .inl y40=>
  Option.bind (Hr y40.1 (IntKind.wrap .i64 (2+(IntKind.wrap .i64 (2 * y40.2.1))))) fun c42=>
  some (y40.2.2,c42)
 | .inr s41=>
  some ([],s41)
 else none
 else none
def Ge (y:(List UInt8×List (List UInt8))):Option ((List UInt8×List (List UInt8))⊕(List UInt8×List (List UInt8))):=
 if (decide ((40:Int) < ((List.length y.1:Nat):Int)))=true then
  if (decide ((0:Int)≤0))=true then
  if (decide ((0:Int)≤40))=true then
  if (decide ((40:Int)≤((List.length y.1:Nat):Int)))=true then
  if (decide ((((List.length y.1:Nat):Int):Int)≤((List.length y.1:Nat):Int)))=true then
  if (Aa (List.length y.2+List.length ([((y.1:List UInt8).drop (Int.toNat 0)).take (Int.toNat 40 - Int.toNat 0)]:List (List UInt8))) 16)=true then
  if (decide ((0:Int)≤40))=true then
  if (decide ((40:Int)≤((List.length y.1:Nat):Int)))=true then
  if (decide ((((List.length y.1:Nat):Int):Int)≤((List.length y.1:Nat):Int)))=true then
  if (decide ((((List.length y.1:Nat):Int):Int)≤((List.length y.1:Nat):Int)))=true then
  some (.inl (((y.1:List UInt8).drop (Int.toNat 40)).take (Int.toNat ((List.length y.1:Nat):Int) - Int.toNat 40),y.2++([((y.1:List UInt8).drop (Int.toNat 0)).take (Int.toNat 40 - Int.toNat 0)]:List (List UInt8))))
  else none
  else none
  else none
  else none
  else none
  else none
  else none
  else none
  else none
 else
  some (.inr (y.1,y.2))
def LZ (x0:List UInt8):Option (List (List UInt8)):=
 Option.bind (Ab Ge (x0,[])) fun v1=>
 Option.bind (α:=List (List UInt8)) (
  if (!((v1.1:List UInt8) == ([]:List UInt8)))=true then
   if (Aa (List.length v1.2+List.length ([v1.1]:List (List UInt8))) 16)=true then
   some (v1.2++([v1.1]:List (List UInt8)))
   else none
  else
   some v1.2) fun v2=>
 some v2
def KM (x0:List (List Int)) (x1:List Int) (x2:List Int) (x3:List Int) (x4:Int):Option (List UInt8):=
 if (decide ((0:Int)≤x4))=true then
 Option.bind (x0[Int.toNat x4]?) fun r1=>
 if (decide ((0:Int)≤x4))=true then
 Option.bind (x0[Int.toNat x4]?) fun r2=>
 if (decide ((0:Int)≤2))=true then
 Option.bind (r2[Int.toNat 2]?) fun r3=>
 if (decide ((0:Int)≤3))=true then
 if (decide ((3:Int)≤IntKind.wrap .i64 (3+(IntKind.wrap .i64 r3))))=true then
 if (decide ((IntKind.wrap .i64 (3+(IntKind.wrap .i64 r3)):Int)≤((List.length r1:Nat):Int)))=true then
 if (decide ((((List.length r1:Nat):Int):Int)≤((List.length r1:Nat):Int)))=true then
 some (Bu ((List.drop (Int.toNat 3) r1).take (Int.toNat (IntKind.wrap .i64 (3+(IntKind.wrap .i64 r3))) - Int.toNat 3)))
 else none
 else none
 else none
 else none
 else none
 else none
 else none
def Fe (y:(List Int×(List Int×(List (List UInt8)×(Int×(Int×(List (List Int)×(List Int×(List Int×List Int))))))))):Option ((List Int×(List Int×(List (List UInt8)×(Int×(Int×(List (List Int)×(List Int×(List Int×List Int))))))))⊕(List Int)):=
 if (decide ((y.2.2.2.2.1:Int) < y.2.2.2.1))=true then
  if (decide ((0:Int)≤y.2.2.2.2.1))=true then
  if (decide ((y.2.2.2.2.1:Int) < ((List.length y.2.2.1:Nat):Int)))=true then
  Option.bind (y.2.2.1[0+Int.toNat y.2.2.2.2.1]?) fun r13=>
  Option.bind (α:=(List Int×(List Int×(Int×(Int×(List (List UInt8)×(Int×(Int×(Bool×(List (List Int)×(List Int×(List Int×List Int)))))))))))) (
   if (decide ((y.2.2.2.2.1:Int) < ((List.length y.1:Nat):Int)))=true then
    if (decide ((0:Int)≤y.2.2.2.2.1))=true then
    if (decide ((y.2.2.2.2.1:Int) < ((List.length y.1:Nat):Int)))=true then
    Option.bind (y.1[0+Int.toNat y.2.2.2.2.1]?) fun r14=>
    Option.bind (KM y.2.2.2.2.2.1 y.2.2.2.2.2.2.1 y.2.2.2.2.2.2.2.1 y.2.2.2.2.2.2.2.2 r14) fun c15=>
    if ((c15:List UInt8) == r13)=true then
     if (decide ((0:Int)≤y.2.2.2.2.1))=true then
     if (decide ((y.2.2.2.2.1:Int) < ((List.length y.1:Nat):Int)))=true then
     Option.bind (y.1[0+Int.toNat y.2.2.2.2.1]?) fun r16=>
     if (decide ((0:Int)≤r16))=true then
     Option.bind (y.2.2.2.2.2.1[Int.toNat r16]?) fun r17=>
     if (decide ((0:Int)≤1))=true then
     Option.bind (r17[Int.toNat 1]?) fun r18=>
     some (y.1,y.2.1,y.2.2.2.2.1,0,y.2.2.1,y.2.2.2.1,y.2.2.2.2.1,decide ((r18:Int) < 250),y.2.2.2.2.2.1,y.2.2.2.2.2.2.1,y.2.2.2.2.2.2.2.1,y.2.2.2.2.2.2.2.2)
     else none
     else none
     else none
     else none
    else
    some (y.1,y.2.1,y.2.2.2.2.1,0,y.2.2.1,y.2.2.2.1,y.2.2.2.2.1,false,y.2.2.2.2.2.1,y.2.2.2.2.2.2.1,y.2.2.2.2.2.2.2.1,y.2.2.2.2.2.2.2.2)
    else none
    else none
   else
   some (y.1,y.2.1,y.2.2.2.2.1,0,y.2.2.1,y.2.2.2.1,y.2.2.2.2.1,false,y.2.2.2.2.2.1,y.2.2.2.2.2.2.1,y.2.2.2.2.2.2.2.1,y.2.2.2.2.2.2.2.2)) fun v19=>
  Option.bind (α:=(List Int×(List Int×(Int×(List (List UInt8)×(Int×(Int×(List (List Int)×(List Int×(List Int×List Int)))))))))) (
   if v19.2.2.2.2.2.2.2.1=true then
    if (decide ((0:Int)≤v19.2.2.1))=true then
    if (decide ((v19.2.2.1:Int) < ((List.length v19.1:Nat):Int)))=true then
    Option.bind (v19.1[0+Int.toNat v19.2.2.1]?) fun r20=>
    some (v19.1,v19.2.1,r20,v19.2.2.2.2.1,v19.2.2.2.2.2.1,v19.2.2.2.2.2.2.1,v19.2.2.2.2.2.2.2.2.1,v19.2.2.2.2.2.2.2.2.2.1,v19.2.2.2.2.2.2.2.2.2.2.1,v19.2.2.2.2.2.2.2.2.2.2.2)
    else none
    else none
   else
    some (v19.1,v19.2.1,v19.2.2.2.1,v19.2.2.2.2.1,v19.2.2.2.2.2.1,v19.2.2.2.2.2.2.1,v19.2.2.2.2.2.2.2.2.1,v19.2.2.2.2.2.2.2.2.2.1,v19.2.2.2.2.2.2.2.2.2.2.1,v19.2.2.2.2.2.2.2.2.2.2.2)) fun v21=>
  if (Aa (List.length v21.2.1+List.length ([v21.2.2.1]:List Int)) 8)=true then
  some (.inl (v21.1,v21.2.1++([v21.2.2.1]:List Int),v21.2.2.2.1,v21.2.2.2.2.1,IntKind.wrap .i64 (v21.2.2.2.2.2.1+1),v21.2.2.2.2.2.2.1,v21.2.2.2.2.2.2.2.1,v21.2.2.2.2.2.2.2.2.1,v21.2.2.2.2.2.2.2.2.2))
  else none
  else none
  else none
 else
  some (.inr y.2.1)
def H6 (x0:List (List Int)) (x1:List Int) (x2:List Int) (x3:List Int) (x4:List UInt8) (x5:Int):Option (List Int):=
 Option.bind (α:=(List UInt8×(List Int×(List (List Int)×(List Int×(List Int×List Int)))))) (
  if (decide (¬ (x5:Int)=0))=true then
   Option.bind (Js x0 x1 x2 x3 x5) fun c1=>
   some (x4,c1.1,x0,x1,x2,x3)
  else
   some (x4,[],x0,x1,x2,x3)) fun v2=>
 Option.bind (LZ v2.1) fun c3=>
 Option.bind (Ab Fe (v2.2.1,[],c3,((List.length c3:Nat):Int),0,v2.2.2.1,v2.2.2.2.1,v2.2.2.2.2.1,v2.2.2.2.2.2)) fun v22=>
 some v22
def D0 (y:(Int×(List Int×(Int×Int)))):Option ((Int×(List Int×(Int×Int)))⊕Int):=
 if (decide ((y.2.2.2:Int) < y.2.2.1))=true then
  if (decide ((0:Int)≤y.2.2.2))=true then
  if (decide ((y.2.2.2:Int) < ((List.length y.2.1:Nat):Int)))=true then
  Option.bind (y.2.1[0+Int.toNat y.2.2.2]?) fun r2=>
  Option.bind (α:=(Int×(List Int×(Int×Int)))) (
   if (decide ((r2:Int)=0))=true then
    some (IntKind.wrap .i64 (y.1+1),y.2.1,y.2.2.1,y.2.2.2)
   else
    some (y.1,y.2.1,y.2.2.1,y.2.2.2)) fun v3=>
  some (.inl (v3.1,v3.2.1,v3.2.2.1,IntKind.wrap .i64 (v3.2.2.2+1)))
  else none
  else none
 else
  some (.inr y.1)
def HU (x0:List (List Int)) (x1:List Int) (x2:List Int) (x3:List Int) (x4:List UInt8) (x5:Int):Option (Int):=
 Option.bind (H6 x0 x1 x2 x3 x4 x5) fun c1=>
 Option.bind (Ab D0 (1,c1,((List.length c1:Nat):Int),0)) fun v4=>
 some v4
def Km (x0:Int):Option (Int):=
 if (decide ((x0:Int)=0))=true then
  some 1
 else
 if (decide (¬ (124:Int)=0))=true then
 some (IntKind.wrap .i64 (Int.tdiv (IntKind.wrap .i64 ((IntKind.wrap .i64 (x0+124)) - 1)) 124))
 else none
def Nf (y:(List Int×(Int×Int))):Option ((List Int×(Int×Int))⊕(List Int×(Int×Int))):=
 Option.bind (α:=(List Int×(Int×(Int×Bool)))) (
   if (decide ((y.2.2:Int) < ((List.length y.1:Nat):Int)))=true then
    if (decide ((0:Int)≤y.2.2))=true then
    if (decide ((y.2.2:Int) < ((List.length y.1:Nat):Int)))=true then
    Option.bind (y.1[0+Int.toNat y.2.2]?) fun r1=>
    some (y.1,y.2.1,y.2.2,decide ((r1:Int) < y.2.1))
    else none
    else none
   else
   some (y.1,y.2.1,y.2.2,false)) fun v2=>
 if v2.2.2.2=true then
  some (.inl (v2.1,v2.2.1,IntKind.wrap .i64 (v2.2.2.1+1)))
 else
  some (.inr (v2.1,v2.2.1,v2.2.2.1))
def CZ (x0:List Int) (x1:Int):Option (List Int):=
 Option.bind (Ab Nf (x0,x1,0)) fun v3=>
 Option.bind (α:=(List Int×(Int×(Int×Bool)))) (
   if (decide ((v3.2.2:Int) < ((List.length v3.1:Nat):Int)))=true then
    if (decide ((0:Int)≤v3.2.2))=true then
    if (decide ((v3.2.2:Int) < ((List.length v3.1:Nat):Int)))=true then
    Option.bind (v3.1[0+Int.toNat v3.2.2]?) fun r4=>
    some (v3.1,v3.2.1,v3.2.2,decide ((r4:Int)=v3.2.1))
    else none
    else none
   else
   some (v3.1,v3.2.1,v3.2.2,false)) fun v5=>
 if v5.2.2.2=true then
  some v5.1
 else
 if (decide ((0:Int)≤0))=true then
 if (decide ((0:Int)≤v5.2.2.1))=true then
 if (decide ((v5.2.2.1:Int)≤((List.length v5.1:Nat):Int)))=true then
 if (decide ((((List.length v5.1:Nat):Int):Int)≤((List.length v5.1:Nat):Int)))=true then
 if (Aa (List.length ([]:List Int)+List.length ((v5.1.drop (Int.toNat 0)).take (Int.toNat v5.2.2.1 - Int.toNat 0))) 8)=true then
 if (Aa (List.length (([]:List Int)++((v5.1.drop (Int.toNat 0)).take (Int.toNat v5.2.2.1 - Int.toNat 0)))+List.length ([v5.2.1]:List Int)) 8)=true then
 if (decide ((0:Int)≤v5.2.2.1))=true then
 if (decide ((v5.2.2.1:Int)≤((List.length v5.1:Nat):Int)))=true then
 if (decide ((((List.length v5.1:Nat):Int):Int)≤((List.length v5.1:Nat):Int)))=true then
 if (decide ((((List.length v5.1:Nat):Int):Int)≤((List.length v5.1:Nat):Int)))=true then
 if (Aa (List.length ((([]:List Int)++((v5.1.drop (Int.toNat 0)).take (Int.toNat v5.2.2.1 - Int.toNat 0)))++([v5.2.1]:List Int))+List.length ((v5.1.drop (Int.toNat v5.2.2.1)).take (Int.toNat ((List.length v5.1:Nat):Int) - Int.toNat v5.2.2.1))) 8)=true then
 some (((([]:List Int)++((v5.1.drop (Int.toNat 0)).take (Int.toNat v5.2.2.1 - Int.toNat 0)))++([v5.2.1]:List Int))++((v5.1.drop (Int.toNat v5.2.2.1)).take (Int.toNat ((List.length v5.1:Nat):Int) - Int.toNat v5.2.2.1)))
 else none
 else none
 else none
 else none
 else none
 else none
 else none
 else none
 else none
 else none
 else none
def CT (y:(Int×(List (List Int)×(List Int×(List Int×List Int))))):Option ((Int×(List (List Int)×(List Int×(List Int×List Int))))⊕((List (List Int)×(List Int×(List Int×List Int)))⊕(Int×(List (List Int)×(List Int×(List Int×List Int)))))):=
 if (decide ((y.1:Int) < ((List.length y.2.1:Nat):Int)))=true then
  Option.bind (Hh y.2.2.1 y.1) fun c1=>
  if (!c1)=true then
   Option.bind (EH y.2.2.1 y.1 true) fun c2=>
   if (decide ((0:Int)≤128))=true then
   if (decide ((128:Int)≤128))=true then
   if (Aa (Int.toNat 128) 1)=true then
   if (decide ((0:Int)≤y.1))=true then
   if (decide ((y.1:Int) < ((List.length y.2.1:Nat):Int)))=true then
   Option.bind (y.2.1[0+Int.toNat y.1]?) fun r3=>
   Option.bind (y.2.1[0+Int.toNat y.1]?) fun r4=>
   Option.bind (CZ y.2.2.2.2 y.1) fun c5=>
   some (.inr (.inr (y.1,y.2.1.set (0+Int.toNat y.1) (List.replicate (Int.toNat 128) (0:Int)),c2,y.2.2.2.1,c5)))
   else none
   else none
   else none
   else none
   else none
  else
   some (.inl (IntKind.wrap .i64 (y.1+1),y.2.1,y.2.2.1,y.2.2.2.1,y.2.2.2.2))
 else
  some (.inr (.inl (y.2.1,y.2.2.1,y.2.2.2.1,y.2.2.2.2)))
def Bh (x0:List (List Int)) (x1:List Int) (x2:List Int) (x3:List Int):Option ((Int×(List (List Int)×(List Int×(List Int×List Int))))):=
 Option.bind (Ab CT (33,x0,x1,x2,x3)) fun v6=>
 match v6 with
 | .inl y7=>
  some (0,y7.1,y7.2.1,y7.2.2.1,y7.2.2.2)
 | .inr s8=>
  some (s8.1,s8.2.1,s8.2.2.1,s8.2.2.2.1,s8.2.2.2.2)
def B8 (x0:Int) (x1:List Int) (x2:List (List Int)) (x3:List Int) (x4:List Int) (x5:List Int):Option ((List (List Int)×(List Int×(List Int×List Int)))):=
 if (decide ((0:Int)≤128))=true then
 if (decide ((128:Int)≤128))=true then
 if (Aa (Int.toNat 128) 1)=true then
 if (decide ((0:Int)≤x0))=true then
 if (decide ((x0:Int) < ((List.length x2:Nat):Int)))=true then
 Option.bind (x2[0+Int.toNat x0]?) fun r1=>
 Option.bind (x2[0+Int.toNat x0]?) fun r2=>
 Option.bind (CZ x5 x0) fun c3=>
 some (x2.set (0+Int.toNat x0) ((x1).take (List.length (List.replicate (Int.toNat 128) (0:Int)))++List.drop (List.length x1) (List.replicate (Int.toNat 128) (0:Int))),x3,x4,c3)
 else none
 else none
 else none
 else none
 else none
def Bp (y:(List Int×(List Int×(List (List UInt8)×(Int×(Int×(List (List Int)×(List Int×(List Int×List Int))))))))):Option ((List Int×(List Int×(List (List UInt8)×(Int×(Int×(List (List Int)×(List Int×(List Int×List Int))))))))⊕(List Int×(List (List Int)×(List Int×(List Int×List Int))))):=
 if (decide ((y.2.2.2.2.1:Int) < y.2.2.2.1))=true then
  if (decide ((0:Int)≤y.2.2.2.2.1))=true then
  if (decide ((y.2.2.2.2.1:Int) < ((List.length y.2.2.1:Nat):Int)))=true then
  Option.bind (y.2.2.1[0+Int.toNat y.2.2.2.2.1]?) fun r3=>
  if (decide ((0:Int)≤y.2.2.2.2.1))=true then
  if (decide ((y.2.2.2.2.1:Int) < ((List.length y.1:Nat):Int)))=true then
  Option.bind (y.1[0+Int.toNat y.2.2.2.2.1]?) fun r4=>
  Option.bind (α:=(List Int×(List Int×(Int×(List (List UInt8)×(Int×(Int×(List (List Int)×(List Int×(List Int×List Int)))))))))) (
   if (decide ((r4:Int)=0))=true then
    Option.bind (Bh y.2.2.2.2.2.1 y.2.2.2.2.2.2.1 y.2.2.2.2.2.2.2.1 y.2.2.2.2.2.2.2.2) fun c5=>
    if (Aa (List.length ([83,1,IntKind.wrap .u8 ((List.length r3:Nat):Int)]:List Int)+List.length (AR r3)) 1)=true then
    Option.bind (B8 c5.1 (([83,1,IntKind.wrap .u8 ((List.length r3:Nat):Int)]:List Int)++(AR r3)) c5.2.1 c5.2.2.1 c5.2.2.2.1 c5.2.2.2.2) fun c6=>
    some (y.1,y.2.1,c5.1,y.2.2.1,y.2.2.2.1,y.2.2.2.2.1,c6.1,c6.2.1,c6.2.2.1,c6.2.2.2)
    else none
   else
   if (decide ((0:Int)≤r4))=true then
   if (decide ((r4:Int) < ((List.length y.2.2.2.2.2.1:Nat):Int)))=true then
   Option.bind (y.2.2.2.2.2.1[0+Int.toNat r4]?) fun r7=>
   Option.bind (y.2.2.2.2.2.1[0+Int.toNat r4]?) fun r8=>
   if (Aa (List.length ([]:List Int)+List.length r8) 1)=true then
   if (decide ((0:Int)≤1))=true then
   if (decide ((1:Int) < ((List.length (([]:List Int)++r8):Nat):Int)))=true then
   Option.bind ((([]:List Int)++r8)[0+Int.toNat 1]?) fun r9=>
   if (decide ((0:Int)≤1))=true then
   if (decide ((1:Int) < ((List.length (([]:List Int)++r8):Nat):Int)))=true then
   Option.bind ((([]:List Int)++r8)[0+Int.toNat 1]?) fun r10=>
   Option.bind ((([]:List Int)++r8)[0+Int.toNat 1]?) fun r11=>
   Option.bind (B8 r4 ((([]:List Int)++r8).set (0+Int.toNat 1) (IntKind.wrap .u8 (r9+1))) y.2.2.2.2.2.1 y.2.2.2.2.2.2.1 y.2.2.2.2.2.2.2.1 y.2.2.2.2.2.2.2.2) fun c12=>
   some (y.1,y.2.1,r4,y.2.2.1,y.2.2.2.1,y.2.2.2.2.1,c12.1,c12.2.1,c12.2.2.1,c12.2.2.2)
   else none
   else none
   else none
   else none
   else none
   else none
   else none) fun v13=>
  if (decide (¬ (256:Int)=0))=true then
  if (Aa (List.length v13.2.1+List.length ([IntKind.wrap .u8 (IntKind.wrap .i64 (Int.tdiv v13.2.2.1 256)),IntKind.wrap .u8 v13.2.2.1]:List Int)) 1)=true then
  some (.inl (v13.1,v13.2.1++([IntKind.wrap .u8 (IntKind.wrap .i64 (Int.tdiv v13.2.2.1 256)),IntKind.wrap .u8 v13.2.2.1]:List Int),v13.2.2.2.1,v13.2.2.2.2.1,IntKind.wrap .i64 (v13.2.2.2.2.2.1+1),v13.2.2.2.2.2.2.1,v13.2.2.2.2.2.2.2.1,v13.2.2.2.2.2.2.2.2.1,v13.2.2.2.2.2.2.2.2.2))
  else none
  else none
  else none
  else none
  else none
  else none
 else
  some (.inr (y.2.1,y.2.2.2.2.2.1,y.2.2.2.2.2.2.1,y.2.2.2.2.2.2.2.1,y.2.2.2.2.2.2.2.2))
def DG (x0:List UInt8) (x1:Int) (x2:List (List Int)) (x3:List Int) (x4:List Int) (x5:List Int):Option ((Int×(List (List Int)×(List Int×(List Int×List Int))))):=
 Option.bind (H6 x2 x3 x4 x5 x0 x1) fun c1=>
 Option.bind (LZ x0) fun c2=>
 Option.bind (Ab Bp (c1,[84,IntKind.wrap .u8 ((List.length c1:Nat):Int)],c2,((List.length c2:Nat):Int),0,x2,x3,x4,x5)) fun v14=>
 Option.bind (Bh v14.2.1 v14.2.2.1 v14.2.2.2.1 v14.2.2.2.2) fun c15=>
 Option.bind (B8 c15.1 v14.1 c15.2.1 c15.2.2.1 c15.2.2.2.1 c15.2.2.2.2) fun c16=>
 some (c15.1,c16.1,c16.2.1,c16.2.2.1,c16.2.2.2)
def Df (y:(List Int×(List Int×(Int×(List (List Int)×(List Int×(List Int×List Int))))))):Option ((List Int×(List Int×(Int×(List (List Int)×(List Int×(List Int×List Int))))))⊕(List Int×(List Int×(List (List Int)×(List Int×(List Int×List Int)))))):=
 if (decide ((0:Int) < y.2.2.1))=true then
  Option.bind (Bh y.2.2.2.1 y.2.2.2.2.1 y.2.2.2.2.2.1 y.2.2.2.2.2.2) fun c3=>
  if (Aa (List.length y.2.1+List.length ([c3.1]:List Int)) 8)=true then
  some (.inl (y.1,y.2.1++([c3.1]:List Int),IntKind.wrap .i64 (y.2.2.1 - 1),c3.2.1,c3.2.2.1,c3.2.2.2.1,c3.2.2.2.2))
  else none
 else
  some (.inr (y.1,y.2.1,y.2.2.2.1,y.2.2.2.2.1,y.2.2.2.2.2.1,y.2.2.2.2.2.2))
def DY (y:(List Int×(List Int×(Int×(Int×(List (List Int)×(List Int×(List Int×List Int)))))))):Option ((List Int×(List Int×(Int×(Int×(List (List Int)×(List Int×(List Int×List Int)))))))⊕(List Int×(List (List Int)×(List Int×(List Int×List Int))))):=
 if (decide ((y.2.2.2.1:Int) < y.2.2.1))=true then
  if (decide ((0:Int)≤y.2.2.2.1))=true then
  if (decide ((y.2.2.2.1:Int) < ((List.length y.2.1:Nat):Int)))=true then
  Option.bind (y.2.1[0+Int.toNat y.2.2.2.1]?) fun r5=>
  Option.bind (α:=(List Int×(List Int×(Int×(Int×(Int×(Int×(Int×(List (List Int)×(List Int×(List Int×List Int))))))))))) (
   if (decide ((IntKind.wrap .i64 (y.2.2.2.1+1):Int) < ((List.length y.2.1:Nat):Int)))=true then
    if (decide ((0:Int)≤IntKind.wrap .i64 (y.2.2.2.1+1)))=true then
    if (decide ((IntKind.wrap .i64 (y.2.2.2.1+1):Int) < ((List.length y.2.1:Nat):Int)))=true then
    Option.bind (y.2.1[0+Int.toNat (IntKind.wrap .i64 (y.2.2.2.1+1))]?) fun r6=>
    some (y.1,y.2.1,y.2.2.2.1,r5,r6,y.2.2.1,y.2.2.2.1,y.2.2.2.2.1,y.2.2.2.2.2.1,y.2.2.2.2.2.2.1,y.2.2.2.2.2.2.2)
    else none
    else none
   else
    some (y.1,y.2.1,y.2.2.2.1,r5,0,y.2.2.1,y.2.2.2.1,y.2.2.2.2.1,y.2.2.2.2.2.1,y.2.2.2.2.2.2.1,y.2.2.2.2.2.2.2)) fun v7=>
  if (decide ((0:Int)≤IntKind.wrap .i64 (v7.2.2.1 * 124)))=true then
  if (decide ((IntKind.wrap .i64 (v7.2.2.1 * 124):Int)≤((List.length v7.1:Nat):Int)))=true then
  if (decide ((((List.length v7.1:Nat):Int):Int)≤((List.length v7.1:Nat):Int)))=true then
  if (decide ((((List.length v7.1:Nat):Int):Int)≤((List.length v7.1:Nat):Int)))=true then
  Option.bind (α:=(List Int×(List Int×(Int×(Int×(List Int×(Int×(Int×(List (List Int)×(List Int×(List Int×List Int))))))))))) (
   if (decide ((124:Int) < ((List.length ((List.drop (Int.toNat (IntKind.wrap .i64 (v7.2.2.1 * 124))) v7.1).take (Int.toNat ((List.length v7.1:Nat):Int) - Int.toNat (IntKind.wrap .i64 (v7.2.2.1 * 124)))):Nat):Int)))=true then
    if (decide ((0:Int)≤0))=true then
    if (decide ((0:Int)≤124))=true then
    if (decide ((124:Int)≤((List.length ((List.drop (Int.toNat (IntKind.wrap .i64 (v7.2.2.1 * 124))) v7.1).take (Int.toNat ((List.length v7.1:Nat):Int) - Int.toNat (IntKind.wrap .i64 (v7.2.2.1 * 124)))):Nat):Int)))=true then
    if (decide ((((List.length ((List.drop (Int.toNat (IntKind.wrap .i64 (v7.2.2.1 * 124))) v7.1).take (Int.toNat ((List.length v7.1:Nat):Int) - Int.toNat (IntKind.wrap .i64 (v7.2.2.1 * 124)))):Nat):Int):Int)≤((List.length ((List.drop (Int.toNat (IntKind.wrap .i64 (v7.2.2.1 * 124))) v7.1).take (Int.toNat ((List.length v7.1:Nat):Int) - Int.toNat (IntKind.wrap .i64 (v7.2.2.1 * 124)))):Nat):Int)))=true then
    some (v7.1,v7.2.1,v7.2.2.2.1,v7.2.2.2.2.1,(List.drop (Int.toNat 0) ((List.drop (Int.toNat (IntKind.wrap .i64 (v7.2.2.1 * 124))) v7.1).take (Int.toNat ((List.length v7.1:Nat):Int) - Int.toNat (IntKind.wrap .i64 (v7.2.2.1 * 124))))).take (Int.toNat 124 - Int.toNat 0),v7.2.2.2.2.2.1,v7.2.2.2.2.2.2.1,v7.2.2.2.2.2.2.2.1,v7.2.2.2.2.2.2.2.2.1,v7.2.2.2.2.2.2.2.2.2.1,v7.2.2.2.2.2.2.2.2.2.2)
    else none
    else none
    else none
    else none
   else
    some (v7.1,v7.2.1,v7.2.2.2.1,v7.2.2.2.2.1,(List.drop (Int.toNat (IntKind.wrap .i64 (v7.2.2.1 * 124))) v7.1).take (Int.toNat ((List.length v7.1:Nat):Int) - Int.toNat (IntKind.wrap .i64 (v7.2.2.1 * 124))),v7.2.2.2.2.2.1,v7.2.2.2.2.2.2.1,v7.2.2.2.2.2.2.2.1,v7.2.2.2.2.2.2.2.2.1,v7.2.2.2.2.2.2.2.2.2.1,v7.2.2.2.2.2.2.2.2.2.2)) fun v8=>
  if (decide (¬ (256:Int)=0))=true then
  if (Aa (List.length ([82,IntKind.wrap .u8 (IntKind.wrap .i64 (Int.tdiv v8.2.2.2.1 256)),IntKind.wrap .u8 v8.2.2.2.1,IntKind.wrap .u8 ((List.length v8.2.2.2.2.1:Nat):Int)]:List Int)+List.length v8.2.2.2.2.1) 1)=true then
  Option.bind (B8 v8.2.2.1 (([82,IntKind.wrap .u8 (IntKind.wrap .i64 (Int.tdiv v8.2.2.2.1 256)),IntKind.wrap .u8 v8.2.2.2.1,IntKind.wrap .u8 ((List.length v8.2.2.2.2.1:Nat):Int)]:List Int)++v8.2.2.2.2.1) v8.2.2.2.2.2.2.2.1 v8.2.2.2.2.2.2.2.2.1 v8.2.2.2.2.2.2.2.2.2.1 v8.2.2.2.2.2.2.2.2.2.2) fun c9=>
  some (.inl (v8.1,v8.2.1,v8.2.2.2.2.2.1,IntKind.wrap .i64 (v8.2.2.2.2.2.2.1+1),c9.1,c9.2.1,c9.2.2.1,c9.2.2.2))
  else none
  else none
  else none
  else none
  else none
  else none
  else none
  else none
 else
  some (.inr (y.2.1,y.2.2.2.2.1,y.2.2.2.2.2.1,y.2.2.2.2.2.2.1,y.2.2.2.2.2.2.2))
def FY (x0:List Int) (x1:List (List Int)) (x2:List Int) (x3:List Int) (x4:List Int):Option ((Int×(List (List Int)×(List Int×(List Int×List Int))))):=
 Option.bind (Km ((List.length x0:Nat):Int)) fun c1=>
 Option.bind (Ab Df (x0,[],c1,x1,x2,x3,x4)) fun v4=>
 Option.bind (Ab DY (v4.1,v4.2.1,((List.length v4.2.1:Nat):Int),0,v4.2.2.1,v4.2.2.2.1,v4.2.2.2.2.1,v4.2.2.2.2.2)) fun v10=>
 if (decide ((0:Int)≤0))=true then
 if (decide ((0:Int) < ((List.length v10.1:Nat):Int)))=true then
 Option.bind (v10.1[0+Int.toNat 0]?) fun r11=>
 some (r11,v10.2.1,v10.2.2.1,v10.2.2.2.1,v10.2.2.2.2)
 else none
 else none
def DC (y:(Int×(List Int×(Int×(List (List Int)×(List Int×(List Int×List Int))))))):Option ((Int×(List Int×(Int×(List (List Int)×(List Int×(List Int×List Int))))))⊕(Int×(List Int×(List (List Int)×(List Int×(List Int×List Int)))))):=
 if (decide ((y.2.2.1:Int) < 32))=true then
  if (decide ((0:Int)≤y.1))=true then
  Option.bind (y.2.2.2.1[Int.toNat y.1]?) fun r9=>
  if (decide ((0:Int)≤IntKind.wrap .i64 (1+(IntKind.wrap .i64 (2 * y.2.2.1)))))=true then
  Option.bind (r9[Int.toNat (IntKind.wrap .i64 (1+(IntKind.wrap .i64 (2 * y.2.2.1))))]?) fun r10=>
  if (decide ((0:Int)≤y.1))=true then
  Option.bind (y.2.2.2.1[Int.toNat y.1]?) fun r11=>
  if (decide ((0:Int)≤IntKind.wrap .i64 (2+(IntKind.wrap .i64 (2 * y.2.2.1)))))=true then
  Option.bind (r11[Int.toNat (IntKind.wrap .i64 (2+(IntKind.wrap .i64 (2 * y.2.2.1))))]?) fun r12=>
  if (Aa (List.length y.2.1+List.length ([IntKind.wrap .i64 ((IntKind.wrap .i64 ((IntKind.wrap .i64 r10) * 256))+(IntKind.wrap .i64 r12))]:List Int)) 8)=true then
  some (.inl (y.1,y.2.1++([IntKind.wrap .i64 ((IntKind.wrap .i64 ((IntKind.wrap .i64 r10) * 256))+(IntKind.wrap .i64 r12))]:List Int),IntKind.wrap .i64 (y.2.2.1+1),y.2.2.2.1,y.2.2.2.2.1,y.2.2.2.2.2.1,y.2.2.2.2.2.2))
  else none
  else none
  else none
  else none
  else none
 else
  some (.inr (y.1,y.2.1,y.2.2.2.1,y.2.2.2.2.1,y.2.2.2.2.2.1,y.2.2.2.2.2.2))
def CX (y:(List Int×(List Int×(Int×Int)))):Option ((List Int×(List Int×(Int×Int)))⊕(List Int⊕Bool)):=
 if (decide ((y.2.2.2:Int) < y.2.2.1))=true then
  if (decide ((0:Int)≤y.2.2.2))=true then
  Option.bind (y.2.1[Int.toNat y.2.2.2]?) fun r15=>
  if (decide (¬ (r15:Int)=0))=true then
   some (.inr (.inr false))
  else
   some (.inl (y.1,y.2.1,y.2.2.1,IntKind.wrap .i64 (y.2.2.2+1)))
  else none
 else
  some (.inr (.inl y.1))
def GQ (x0:List (List Int)) (x1:List Int) (x2:List Int) (x3:List Int) (x4:Int) (x5:Int):Option ((List Int×Bool)):=
 Option.bind (α:=(Int×(Bool×(List (List Int)×(List Int×(List Int×List Int)))))) (
   Option.bind (Ip x0 x1 x2 x3 x4) fun c1=>
   if (!c1)=true then
    some (x4,true,x0,x1,x2,x3)
   else
   if (decide ((0:Int)≤x4))=true then
   Option.bind (x0[Int.toNat x4]?) fun r2=>
   if (decide ((0:Int)≤0))=true then
   Option.bind (r2[Int.toNat 0]?) fun r3=>
   some (x4,decide (¬ (r3:Int)=x5),x0,x1,x2,x3)
   else none
   else none) fun v4=>
 if v4.2.1=true then
  some ([],false)
 else
  Option.bind (Ab DC (v4.1,[],0,v4.2.2.1,v4.2.2.2.1,v4.2.2.2.2.1,v4.2.2.2.2.2)) fun v13=>
  if (decide ((0:Int)≤v13.1))=true then
  Option.bind (v13.2.2.1[Int.toNat v13.1]?) fun r14=>
  if (decide ((0:Int)≤65))=true then
  if (decide ((65:Int)≤((List.length r14:Nat):Int)))=true then
  if (decide ((((List.length r14:Nat):Int):Int)≤((List.length r14:Nat):Int)))=true then
  if (decide ((((List.length r14:Nat):Int):Int)≤((List.length r14:Nat):Int)))=true then
  Option.bind (Ab CX (v13.2.1,(List.drop (Int.toNat 65) r14).take (Int.toNat ((List.length r14:Nat):Int) - Int.toNat 65),((List.length ((List.drop (Int.toNat 65) r14).take (Int.toNat ((List.length r14:Nat):Int) - Int.toNat 65)):Nat):Int),0)) fun v16=>
  match v16 with
  | .inl y17=>
   some (y17,true)
  | .inr s18=>
   some ([],s18)
  else none
  else none
  else none
  else none
  else none
def F8 (y:(List Int×(Int×Int))):Option ((List Int×(Int×Int))⊕(Unit⊕Bool)):=
 if (decide ((y.2.2:Int) < y.2.1))=true then
  if (decide ((0:Int)≤y.2.2))=true then
  Option.bind (y.1[Int.toNat y.2.2]?) fun r1=>
  if (decide (¬ (r1:Int)=0))=true then
   some (.inr (.inr true))
  else
   some (.inl (y.1,y.2.1,IntKind.wrap .i64 (y.2.2+1)))
  else none
 else
  some (.inr (.inl ()))
def Ij (x0:List Int):Option (Bool):=
 Option.bind (Ab F8 (x0,((List.length x0:Nat):Int),0)) fun v2=>
 match v2 with
 | .inl y3=>
  some false
 | .inr s4=>
  some s4
def La (x0:List (List Int)) (x1:List Int) (x2:List Int) (x3:List Int) (x4:Int):Option (Bool):=
 Option.bind (α:=Bool) (
  Option.bind (Da x4 33 (IntKind.wrap .i64 (((List.length x0:Nat):Int) - 1))) fun c1=>
  if c1=true then
   Option.bind (Hh x1 x4) fun c2=>
   some c2
  else
  some false) fun v3=>
 some v3
def GL (y:(List (List Int)×(List Int×(Int×(Int×(Int×(Int×(Int×(Int×(Int×(Int×(List (List Int)×(List Int×(List Int×List Int)))))))))))))):Option ((List (List Int)×(List Int×(Int×(Int×(Int×(Int×(Int×(Int×(Int×(Int×(List (List Int)×(List Int×(List Int×List Int)))))))))))))⊕((List (List Int)×(List Int×(Int×(Int×(Int×(Int×(List (List Int)×(List Int×(List Int×List Int)))))))))⊕Bool)):=
 if (decide ((y.2.2.2.2.2.2.2.2.2.1:Int) < y.2.2.2.2.2.2.2.2.1))=true then
  if (decide ((0:Int)≤y.2.2.2.2.2.2.2.2.2.1))=true then
  if (decide ((y.2.2.2.2.2.2.2.2.2.1:Int) < ((List.length ((y.2.1.drop (Int.toNat y.2.2.2.2.2.2.1)).take (Int.toNat y.2.2.2.2.2.2.2.1)):Nat):Int)))=true then
  Option.bind (y.2.1[(Int.toNat y.2.2.2.2.2.2.1)+Int.toNat y.2.2.2.2.2.2.2.2.2.1]?) fun r5=>
  if (decide ((r5:Int)=y.2.2.2.1))=true then
   some (.inr (.inr false))
  else
   some (.inl (y.1,y.2.1,y.2.2.1,y.2.2.2.1,y.2.2.2.2.1,y.2.2.2.2.2.1,(((Int.toNat y.2.2.2.2.2.2.1):Nat):Int),(((Int.toNat y.2.2.2.2.2.2.2.1):Nat):Int),y.2.2.2.2.2.2.2.2.1,IntKind.wrap .i64 (y.2.2.2.2.2.2.2.2.2.1+1),y.2.2.2.2.2.2.2.2.2.2.1,y.2.2.2.2.2.2.2.2.2.2.2.1,y.2.2.2.2.2.2.2.2.2.2.2.2.1,y.2.2.2.2.2.2.2.2.2.2.2.2.2))
  else none
  else none
 else
  some (.inr (.inl (y.1,y.2.1,y.2.2.1,y.2.2.2.1,y.2.2.2.2.1,y.2.2.2.2.2.1,y.2.2.2.2.2.2.2.2.2.2.1,y.2.2.2.2.2.2.2.2.2.2.2.1,y.2.2.2.2.2.2.2.2.2.2.2.2.1,y.2.2.2.2.2.2.2.2.2.2.2.2.2)))
def GI (y:(List (List Int)×(List Int×(Int×(List Int×(Int×(Int×(Int×(Int×(List (List Int)×(List Int×(List Int×List Int)))))))))))):Option ((List (List Int)×(List Int×(Int×(List Int×(Int×(Int×(Int×(Int×(List (List Int)×(List Int×(List Int×List Int)))))))))))⊕((List (List Int)×(List Int×(Int×(List Int×(Int×(Int×(List (List Int)×(List Int×(List Int×List Int)))))))))⊕Bool)):=
 if (decide ((y.2.2.2.2.2.2.2.1:Int) < y.2.2.2.2.2.2.1))=true then
  if (decide ((0:Int)≤y.2.2.2.2.2.2.2.1))=true then
  if (decide ((y.2.2.2.2.2.2.2.1:Int) < ((List.length y.2.2.2.1:Nat):Int)))=true then
  Option.bind (y.2.2.2.1[0+Int.toNat y.2.2.2.2.2.2.2.1]?) fun r12=>
  Option.bind (α:=(List (List Int)×(List Int×(Int×(List Int×(Int×(Int×(Int×(Int×(Bool×(List (List Int)×(List Int×(List Int×List Int))))))))))))) (
    if (decide (¬ (r12:Int)=0))=true then
     Option.bind (La y.2.2.2.2.2.2.2.2.1 y.2.2.2.2.2.2.2.2.2.1 y.2.2.2.2.2.2.2.2.2.2.1 y.2.2.2.2.2.2.2.2.2.2.2 r12) fun c13=>
     some (y.1,y.2.1,y.2.2.1,y.2.2.2.1,y.2.2.2.2.1,y.2.2.2.2.2.1,y.2.2.2.2.2.2.1,y.2.2.2.2.2.2.2.1,(!c13),y.2.2.2.2.2.2.2.2.1,y.2.2.2.2.2.2.2.2.2.1,y.2.2.2.2.2.2.2.2.2.2.1,y.2.2.2.2.2.2.2.2.2.2.2)
    else
    some (y.1,y.2.1,y.2.2.1,y.2.2.2.1,y.2.2.2.2.1,y.2.2.2.2.2.1,y.2.2.2.2.2.2.1,y.2.2.2.2.2.2.2.1,false,y.2.2.2.2.2.2.2.2.1,y.2.2.2.2.2.2.2.2.2.1,y.2.2.2.2.2.2.2.2.2.2.1,y.2.2.2.2.2.2.2.2.2.2.2)) fun v14=>
  if v14.2.2.2.2.2.2.2.2.1=true then
   some (.inr (.inr false))
  else
   some (.inl (v14.1,v14.2.1,v14.2.2.1,v14.2.2.2.1,v14.2.2.2.2.1,v14.2.2.2.2.2.1,v14.2.2.2.2.2.2.1,IntKind.wrap .i64 (v14.2.2.2.2.2.2.2.1+1),v14.2.2.2.2.2.2.2.2.2.1,v14.2.2.2.2.2.2.2.2.2.2.1,v14.2.2.2.2.2.2.2.2.2.2.2.1,v14.2.2.2.2.2.2.2.2.2.2.2.2))
  else none
  else none
 else
  some (.inr (.inl (y.1,y.2.1,y.2.2.1,y.2.2.2.1,y.2.2.2.2.1,y.2.2.2.2.2.1,y.2.2.2.2.2.2.2.2.1,y.2.2.2.2.2.2.2.2.2.1,y.2.2.2.2.2.2.2.2.2.2.1,y.2.2.2.2.2.2.2.2.2.2.2)))
def Ej (y:(List (List Int)×(List Int×(Int×(Int×(List (List Int)×(List Int×(List Int×List Int)))))))):Option ((List (List Int)×(List Int×(Int×(Int×(List (List Int)×(List Int×(List Int×List Int)))))))⊕((List (List Int)×List Int)⊕Bool)):=
 if (decide ((y.2.2.2.1:Int) < y.2.2.1))=true then
  Option.bind (α:=(List (List Int)×(List Int×(Int×(Int×(List (List Int)×(List Int×(List Int×List Int)))))))⊕Bool) (
    if (decide ((0:Int)≤y.2.2.2.1))=true then
    if (decide ((y.2.2.2.1:Int) < ((List.length y.2.1:Nat):Int)))=true then
    Option.bind (y.2.1[0+Int.toNat y.2.2.2.1]?) fun r4=>
    if (decide ((r4:Int)=0))=true then
     some (.inl (y.1,y.2.1,y.2.2.1,y.2.2.2.1,y.2.2.2.2.1,y.2.2.2.2.2.1,y.2.2.2.2.2.2.1,y.2.2.2.2.2.2.2))
    else
    if (decide ((0:Int)≤0))=true then
    if (decide ((0:Int)≤y.2.2.2.1))=true then
    if (decide ((y.2.2.2.1:Int)≤((List.length y.2.1:Nat):Int)))=true then
    if (decide ((((List.length y.2.1:Nat):Int):Int)≤((List.length y.2.1:Nat):Int)))=true then
    Option.bind (Ab GL (y.1,y.2.1,y.2.2.2.1,r4,y.2.2.1,y.2.2.2.1,(((Int.toNat 0):Nat):Int),(((Int.toNat y.2.2.2.1 - Int.toNat 0):Nat):Int),((List.length ((y.2.1.drop (Int.toNat 0)).take (Int.toNat y.2.2.2.1 - Int.toNat 0)):Nat):Int),0,y.2.2.2.2.1,y.2.2.2.2.2.1,y.2.2.2.2.2.2.1,y.2.2.2.2.2.2.2)) fun v6=>
    match v6 with
    | .inl y7=>
     Option.bind (GQ y7.2.2.2.2.2.2.1 y7.2.2.2.2.2.2.2.1 y7.2.2.2.2.2.2.2.2.1 y7.2.2.2.2.2.2.2.2.2 y7.2.2.2.1 81) fun c9=>
     Option.bind (α:=(List (List Int)×(List Int×(Int×(List Int×(Int×(Int×(Bool×(List (List Int)×(List Int×(List Int×List Int))))))))))) (
       if (!c9.2)=true then
        some (y7.1,y7.2.1,y7.2.2.1,c9.1,y7.2.2.2.2.1,y7.2.2.2.2.2.1,true,y7.2.2.2.2.2.2.1,y7.2.2.2.2.2.2.2.1,y7.2.2.2.2.2.2.2.2.1,y7.2.2.2.2.2.2.2.2.2)
       else
        Option.bind (Ij c9.1) fun c10=>
        some (y7.1,y7.2.1,y7.2.2.1,c9.1,y7.2.2.2.2.1,y7.2.2.2.2.2.1,(!c10),y7.2.2.2.2.2.2.1,y7.2.2.2.2.2.2.2.1,y7.2.2.2.2.2.2.2.2.1,y7.2.2.2.2.2.2.2.2.2)) fun v11=>
     if v11.2.2.2.2.2.2.1=true then
      some (.inr false)
     else
      Option.bind (Ab GI (v11.1,v11.2.1,v11.2.2.1,v11.2.2.2.1,v11.2.2.2.2.1,v11.2.2.2.2.2.1,((List.length v11.2.2.2.1:Nat):Int),0,v11.2.2.2.2.2.2.2.1,v11.2.2.2.2.2.2.2.2.1,v11.2.2.2.2.2.2.2.2.2.1,v11.2.2.2.2.2.2.2.2.2.2)) fun v15=>
      match v15 with
      | .inl y16=>
       if (decide ((0:Int)≤y16.2.2.1))=true then
       if (decide ((y16.2.2.1:Int) < ((List.length y16.1:Nat):Int)))=true then
       Option.bind (y16.1[0+Int.toNat y16.2.2.1]?) fun r18=>
       Option.bind (y16.1[0+Int.toNat y16.2.2.1]?) fun r19=>
       some (.inl (y16.1.set (0+Int.toNat y16.2.2.1) y16.2.2.2.1,y16.2.1,y16.2.2.2.2.1,y16.2.2.2.2.2.1,y16.2.2.2.2.2.2.1,y16.2.2.2.2.2.2.2.1,y16.2.2.2.2.2.2.2.2.1,y16.2.2.2.2.2.2.2.2.2))
       else none
       else none
      | .inr s17=>
       some (.inr s17)
    | .inr s8=>
     some (.inr s8)
    else none
    else none
    else none
    else none
    else none
    else none) fun v20=>
  match v20 with
  | .inl y21=>
   some (.inl (y21.1,y21.2.1,y21.2.2.1,IntKind.wrap .i64 (y21.2.2.2.1+1),y21.2.2.2.2.1,y21.2.2.2.2.2.1,y21.2.2.2.2.2.2.1,y21.2.2.2.2.2.2.2))
  | .inr s22=>
   some (.inr (.inr s22))
 else
  some (.inr (.inl (y.1,y.2.1)))
def Kz (x0:List (List Int)) (x1:List Int) (x2:List Int) (x3:List Int) (x4:Int):Option ((List (List Int)×(List Int×Bool))):=
 if (decide ((0:Int)≤32))=true then
 if (decide ((32:Int)≤32))=true then
 if (Aa (Int.toNat 32) 24)=true then
 if (decide ((0:Int)≤32))=true then
 if (decide ((32:Int)≤32))=true then
 if (Aa (Int.toNat 32) 8)=true then
 if (decide ((x4:Int)=0))=true then
  some (List.replicate (Int.toNat 32) ([]:List Int),List.replicate (Int.toNat 32) (0:Int),true)
 else
  Option.bind (GQ x0 x1 x2 x3 x4 80) fun c1=>
  Option.bind (α:=(List (List Int)×(List Int×(Bool×(List (List Int)×(List Int×(List Int×List Int))))))) (
    if (!c1.2)=true then
     some (List.replicate (Int.toNat 32) ([]:List Int),c1.1,true,x0,x1,x2,x3)
    else
     Option.bind (Ij c1.1) fun c2=>
     some (List.replicate (Int.toNat 32) ([]:List Int),c1.1,(!c2),x0,x1,x2,x3)) fun v3=>
  if v3.2.2.1=true then
   some ([],[],false)
  else
   Option.bind (Ab Ej (v3.1,v3.2.1,((List.length v3.2.1:Nat):Int),0,v3.2.2.2.1,v3.2.2.2.2.1,v3.2.2.2.2.2.1,v3.2.2.2.2.2.2)) fun v23=>
   match v23 with
   | .inl y24=>
    some (y24.1,y24.2,true)
   | .inr s25=>
    some ([],[],s25)
 else none
 else none
 else none
 else none
 else none
 else none
def Ev (y:(List (List Int)×(List Bool×(List (Int×Int)×(Int×Int))))):Option ((List (List Int)×(List Bool×(List (Int×Int)×(Int×Int))))⊕(List (List Int)×List Bool)):=
 if (decide ((y.2.2.2.2:Int) < y.2.2.2.1))=true then
  if (decide ((0:Int)≤y.2.2.2.2))=true then
  Option.bind (y.2.2.1[Int.toNat y.2.2.2.2]?) fun r2=>
  if (decide (¬ (32:Int)=0))=true then
  if (decide ((0:Int)≤IntKind.wrap .i64 (Int.tdiv r2.1 32)))=true then
  if (decide ((IntKind.wrap .i64 (Int.tdiv r2.1 32):Int) < ((List.length y.2.1:Nat):Int)))=true then
  Option.bind (y.2.1[0+Int.toNat (IntKind.wrap .i64 (Int.tdiv r2.1 32))]?) fun r3=>
  Option.bind (y.2.1[0+Int.toNat (IntKind.wrap .i64 (Int.tdiv r2.1 32))]?) fun r4=>
  if (decide ((0:Int)≤IntKind.wrap .i64 (Int.tdiv r2.1 32)))=true then
  if (decide ((IntKind.wrap .i64 (Int.tdiv r2.1 32):Int) < ((List.length y.1:Nat):Int)))=true then
  Option.bind (y.1[0+Int.toNat (IntKind.wrap .i64 (Int.tdiv r2.1 32))]?) fun r5=>
  Option.bind (y.1[0+Int.toNat (IntKind.wrap .i64 (Int.tdiv r2.1 32))]?) fun r6=>
  Option.bind (α:=(List (List Int)×(List Bool×(Int×(List (Int×Int)×(Int×(Int×(Int×Int)))))))) (
   if (decide ((((List.length r6:Nat):Int):Int)=0))=true then
    if (decide ((0:Int)≤32))=true then
    if (decide ((32:Int)≤32))=true then
    if (Aa (Int.toNat 32) 8)=true then
    if (decide ((0:Int)≤IntKind.wrap .i64 (Int.tdiv r2.1 32)))=true then
    if (decide ((IntKind.wrap .i64 (Int.tdiv r2.1 32):Int) < ((List.length y.1:Nat):Int)))=true then
    Option.bind (y.1[0+Int.toNat (IntKind.wrap .i64 (Int.tdiv r2.1 32))]?) fun r7=>
    Option.bind (y.1[0+Int.toNat (IntKind.wrap .i64 (Int.tdiv r2.1 32))]?) fun r8=>
    some (y.1.set (0+Int.toNat (IntKind.wrap .i64 (Int.tdiv r2.1 32))) (List.replicate (Int.toNat 32) (0:Int)),y.2.1.set (0+Int.toNat (IntKind.wrap .i64 (Int.tdiv r2.1 32))) true,IntKind.wrap .i64 (Int.tdiv r2.1 32),y.2.2.1,y.2.2.2.1,y.2.2.2.2,r2.1,r2.2)
    else none
    else none
    else none
    else none
    else none
   else
    some (y.1,y.2.1.set (0+Int.toNat (IntKind.wrap .i64 (Int.tdiv r2.1 32))) true,IntKind.wrap .i64 (Int.tdiv r2.1 32),y.2.2.1,y.2.2.2.1,y.2.2.2.2,r2.1,r2.2)) fun v9=>
  if (decide ((0:Int)≤v9.2.2.1))=true then
  if (decide ((v9.2.2.1:Int) < ((List.length v9.1:Nat):Int)))=true then
  Option.bind (v9.1[0+Int.toNat v9.2.2.1]?) fun r10=>
  if (decide (¬ (32:Int)=0))=true then
  if (decide ((0:Int)≤Int.tmod v9.2.2.2.2.2.2.1 32))=true then
  Option.bind (v9.1[0+Int.toNat v9.2.2.1]?) fun r11=>
  if (decide ((Int.tmod v9.2.2.2.2.2.2.1 32:Int) < ((List.length r11:Nat):Int)))=true then
  Option.bind (v9.1[0+Int.toNat v9.2.2.1]?) fun r12=>
  Option.bind (r12[0+Int.toNat (Int.tmod v9.2.2.2.2.2.2.1 32)]?) fun r13=>
  Option.bind (v9.1[0+Int.toNat v9.2.2.1]?) fun r14=>
  Option.bind (r14[0+Int.toNat (Int.tmod v9.2.2.2.2.2.2.1 32)]?) fun r15=>
  some (.inl (v9.1.set (0+Int.toNat v9.2.2.1) (r14.set (0+Int.toNat (Int.tmod v9.2.2.2.2.2.2.1 32)) v9.2.2.2.2.2.2.2),v9.2.1,v9.2.2.2.1,v9.2.2.2.2.1,IntKind.wrap .i64 (v9.2.2.2.2.2.1+1)))
  else none
  else none
  else none
  else none
  else none
  else none
  else none
  else none
  else none
  else none
  else none
 else
  some (.inr (y.1,y.2.1))
def Ld (x0:List (List Int)) (x1:List Int) (x2:List Int) (x3:List Int) (x4:Int) (x5:List (Int×Int)):Option ((List (List Int)×List Bool)):=
 Option.bind (Kz x0 x1 x2 x3 x4) fun c1=>
 if (decide ((0:Int)≤32))=true then
 if (decide ((32:Int)≤32))=true then
 if (Aa (Int.toNat 32) 1)=true then
 Option.bind (Ab Ev (c1.1,List.replicate (Int.toNat 32) (false:Bool),x5,((List.length x5:Nat):Int),0)) fun v16=>
 some (v16.1,v16.2)
 else none
 else none
 else none
def DI (y:(Int×(List Int×(List Int×(Int×(Int×(List (List Int)×(List Int×(List Int×List Int))))))))):Option ((Int×(List Int×(List Int×(Int×(Int×(List (List Int)×(List Int×(List Int×List Int))))))))⊕(Int×(List Int×(List (List Int)×(List Int×(List Int×List Int)))))):=
 if (decide ((y.2.2.2.2.1:Int) < y.2.2.2.1))=true then
  if (decide ((0:Int)≤y.2.2.2.2.1))=true then
  Option.bind (y.2.2.1[Int.toNat y.2.2.2.2.1]?) fun r1=>
  if (decide (¬ (256:Int)=0))=true then
  if (Aa (List.length y.2.1+List.length ([IntKind.wrap .u8 (IntKind.wrap .i64 (Int.tdiv r1 256)),IntKind.wrap .u8 r1]:List Int)) 1)=true then
  some (.inl (y.1,y.2.1++([IntKind.wrap .u8 (IntKind.wrap .i64 (Int.tdiv r1 256)),IntKind.wrap .u8 r1]:List Int),y.2.2.1,y.2.2.2.1,IntKind.wrap .i64 (y.2.2.2.2.1+1),y.2.2.2.2.2.1,y.2.2.2.2.2.2.1,y.2.2.2.2.2.2.2.1,y.2.2.2.2.2.2.2.2))
  else none
  else none
  else none
 else
  some (.inr (y.1,y.2.1,y.2.2.2.2.2.1,y.2.2.2.2.2.2.1,y.2.2.2.2.2.2.2.1,y.2.2.2.2.2.2.2.2))
def DU (x0:Int) (x1:Int) (x2:List Int) (x3:List (List Int)) (x4:List Int) (x5:List Int) (x6:List Int):Option ((List (List Int)×(List Int×(List Int×List Int)))):=
 Option.bind (Ab DI (x0,[x1],x2,((List.length x2:Nat):Int),0,x3,x4,x5,x6)) fun v2=>
 Option.bind (B8 v2.1 v2.2.1 v2.2.2.1 v2.2.2.2.1 v2.2.2.2.2.1 v2.2.2.2.2.2) fun c3=>
 some (c3.1,c3.2.1,c3.2.2.1,c3.2.2.2)
def Bi (y:(List Int×(List Bool×(List Int×(List Int×(List (List Int)×(Int×(Int×(List (List Int)×(List Int×(List Int×List Int))))))))))):Option ((List Int×(List Bool×(List Int×(List Int×(List (List Int)×(Int×(Int×(List (List Int)×(List Int×(List Int×List Int))))))))))⊕(List Int×(List Int×(List (List Int)×(List Int×(List Int×List Int)))))):=
 if (decide ((y.2.2.2.2.2.2.1:Int) < y.2.2.2.2.2.1))=true then
  Option.bind (α:=(List Int×(List Bool×(List Int×(List Int×(List (List Int)×(Int×(Int×(List (List Int)×(List Int×(List Int×List Int))))))))))) (
   if (decide ((0:Int)≤y.2.2.2.2.2.2.1))=true then
   if (decide ((y.2.2.2.2.2.2.1:Int) < ((List.length y.2.2.2.2.1:Nat):Int)))=true then
   Option.bind (y.2.2.2.2.1[0+Int.toNat y.2.2.2.2.2.2.1]?) fun r4=>
   if (decide ((0:Int)≤y.2.2.2.2.2.2.1))=true then
   if (decide ((y.2.2.2.2.2.2.1:Int) < ((List.length y.2.1:Nat):Int)))=true then
   Option.bind (y.2.1[0+Int.toNat y.2.2.2.2.2.2.1]?) fun r5=>
   if (!r5)=true then
    some (y.1,y.2.1,y.2.2.1,y.2.2.2.1,y.2.2.2.2.1,y.2.2.2.2.2.1,y.2.2.2.2.2.2.1,y.2.2.2.2.2.2.2.1,y.2.2.2.2.2.2.2.2.1,y.2.2.2.2.2.2.2.2.2.1,y.2.2.2.2.2.2.2.2.2.2)
   else
   if (decide ((0:Int)≤y.2.2.2.2.2.2.1))=true then
   if (decide ((y.2.2.2.2.2.2.1:Int) < ((List.length y.1:Nat):Int)))=true then
   Option.bind (y.1[0+Int.toNat y.2.2.2.2.2.2.1]?) fun r6=>
   Option.bind (α:=(List Int×(List Bool×(List Int×(List Int×(Int×(List (List Int)×(Int×(Int×(Int×(List (List Int)×(List Int×(List Int×List Int))))))))))))) (
     if (decide (¬ (r6:Int)=0))=true then
      if (decide ((0:Int)≤y.2.2.2.2.2.2.1))=true then
      if (decide ((y.2.2.2.2.2.2.1:Int) < ((List.length y.1:Nat):Int)))=true then
      Option.bind (y.1[0+Int.toNat y.2.2.2.2.2.2.1]?) fun r7=>
      if (Aa (List.length y.2.2.1+List.length ([r7]:List Int)) 8)=true then
      some (y.1,y.2.1,y.2.2.1++([r7]:List Int),y.2.2.2.1,y.2.2.2.2.2.2.1,y.2.2.2.2.1,((0+Int.toNat y.2.2.2.2.2.2.1:Nat):Int),y.2.2.2.2.2.1,y.2.2.2.2.2.2.1,y.2.2.2.2.2.2.2.1,y.2.2.2.2.2.2.2.2.1,y.2.2.2.2.2.2.2.2.2.1,y.2.2.2.2.2.2.2.2.2.2)
      else none
      else none
      else none
     else
      some (y.1,y.2.1,y.2.2.1,y.2.2.2.1,y.2.2.2.2.2.2.1,y.2.2.2.2.1,((0+Int.toNat y.2.2.2.2.2.2.1:Nat):Int),y.2.2.2.2.2.1,y.2.2.2.2.2.2.1,y.2.2.2.2.2.2.2.1,y.2.2.2.2.2.2.2.2.1,y.2.2.2.2.2.2.2.2.2.1,y.2.2.2.2.2.2.2.2.2.2)) fun v8=>
   if (decide ((0:Int)≤v8.2.2.2.2.1))=true then
   if (decide ((v8.2.2.2.2.1:Int) < ((List.length v8.2.2.2.1:Nat):Int)))=true then
   Option.bind (v8.2.2.2.1[0+Int.toNat v8.2.2.2.2.1]?) fun r9=>
   Option.bind (v8.2.2.2.1[0+Int.toNat v8.2.2.2.2.1]?) fun r10=>
   Option.bind (v8.2.2.2.2.2.1[Int.toNat v8.2.2.2.2.2.2.1]?) fun r11=>
   Option.bind (Ij r11) fun c12=>
   Option.bind (α:=(List Int×(List Bool×(List Int×(List Int×(List (List Int)×(Int×(Int×(List (List Int)×(List Int×(List Int×List Int))))))))))) (
     if c12=true then
      Option.bind (Bh v8.2.2.2.2.2.2.2.2.2.1 v8.2.2.2.2.2.2.2.2.2.2.1 v8.2.2.2.2.2.2.2.2.2.2.2.1 v8.2.2.2.2.2.2.2.2.2.2.2.2) fun c13=>
      if (decide ((0:Int)≤v8.2.2.2.2.1))=true then
      if (decide ((v8.2.2.2.2.1:Int) < ((List.length (v8.2.2.2.1.set (0+Int.toNat v8.2.2.2.2.1) 0):Nat):Int)))=true then
      Option.bind ((v8.2.2.2.1.set (0+Int.toNat v8.2.2.2.2.1) 0)[0+Int.toNat v8.2.2.2.2.1]?) fun r14=>
      Option.bind ((v8.2.2.2.1.set (0+Int.toNat v8.2.2.2.2.1) 0)[0+Int.toNat v8.2.2.2.2.1]?) fun r15=>
      if (decide ((0:Int)≤v8.2.2.2.2.1))=true then
      if (decide ((v8.2.2.2.2.1:Int) < ((List.length ((v8.2.2.2.1.set (0+Int.toNat v8.2.2.2.2.1) 0).set (0+Int.toNat v8.2.2.2.2.1) c13.1):Nat):Int)))=true then
      Option.bind (((v8.2.2.2.1.set (0+Int.toNat v8.2.2.2.2.1) 0).set (0+Int.toNat v8.2.2.2.2.1) c13.1)[0+Int.toNat v8.2.2.2.2.1]?) fun r16=>
      Option.bind (v8.2.2.2.2.2.1[Int.toNat v8.2.2.2.2.2.2.1]?) fun r17=>
      Option.bind (DU r16 81 r17 c13.2.1 c13.2.2.1 c13.2.2.2.1 c13.2.2.2.2) fun c18=>
      some (v8.1,v8.2.1,v8.2.2.1,(v8.2.2.2.1.set (0+Int.toNat v8.2.2.2.2.1) 0).set (0+Int.toNat v8.2.2.2.2.1) c13.1,v8.2.2.2.2.2.1,v8.2.2.2.2.2.2.2.1,v8.2.2.2.2.2.2.2.2.1,c18.1,c18.2.1,c18.2.2.1,c18.2.2.2)
      else none
      else none
      else none
      else none
     else
      some (v8.1,v8.2.1,v8.2.2.1,v8.2.2.2.1.set (0+Int.toNat v8.2.2.2.2.1) 0,v8.2.2.2.2.2.1,v8.2.2.2.2.2.2.2.1,v8.2.2.2.2.2.2.2.2.1,v8.2.2.2.2.2.2.2.2.2.1,v8.2.2.2.2.2.2.2.2.2.2.1,v8.2.2.2.2.2.2.2.2.2.2.2.1,v8.2.2.2.2.2.2.2.2.2.2.2.2)) fun v19=>
   some (v19.1,v19.2.1,v19.2.2.1,v19.2.2.2.1,v19.2.2.2.2.1,v19.2.2.2.2.2.1,v19.2.2.2.2.2.2.1,v19.2.2.2.2.2.2.2.1,v19.2.2.2.2.2.2.2.2.1,v19.2.2.2.2.2.2.2.2.2.1,v19.2.2.2.2.2.2.2.2.2.2)
   else none
   else none
   else none
   else none
   else none
   else none
   else none
   else none) fun v20=>
  some (.inl (v20.1,v20.2.1,v20.2.2.1,v20.2.2.2.1,v20.2.2.2.2.1,v20.2.2.2.2.2.1,IntKind.wrap .i64 (v20.2.2.2.2.2.2.1+1),v20.2.2.2.2.2.2.2.1,v20.2.2.2.2.2.2.2.2.1,v20.2.2.2.2.2.2.2.2.2.1,v20.2.2.2.2.2.2.2.2.2.2))
 else
  some (.inr (y.2.2.1,y.2.2.2.1,y.2.2.2.2.2.2.2.1,y.2.2.2.2.2.2.2.2.1,y.2.2.2.2.2.2.2.2.2.1,y.2.2.2.2.2.2.2.2.2.2))
def DZ (y:(Int×(List Int×(Int×(Int×(List (List Int)×(List Int×(List Int×List Int)))))))):Option ((Int×(List Int×(Int×(Int×(List (List Int)×(List Int×(List Int×List Int)))))))⊕(Int×(List (List Int)×(List Int×(List Int×List Int))))):=
 if (decide ((y.2.2.2.1:Int) < y.2.2.1))=true then
  if (decide ((0:Int)≤y.2.2.2.1))=true then
  if (decide ((y.2.2.2.1:Int) < ((List.length y.2.1:Nat):Int)))=true then
  Option.bind (y.2.1[0+Int.toNat y.2.2.2.1]?) fun r26=>
  Option.bind (CZ y.2.2.2.2.2.2.1 r26) fun c27=>
  some (.inl (y.1,y.2.1,y.2.2.1,IntKind.wrap .i64 (y.2.2.2.1+1),y.2.2.2.2.1,y.2.2.2.2.2.1,c27,y.2.2.2.2.2.2.2))
  else none
  else none
 else
  some (.inr (y.1,y.2.2.2.2.1,y.2.2.2.2.2.1,y.2.2.2.2.2.2.1,y.2.2.2.2.2.2.2))
def ED (x0:Int) (x1:List (Int×Int)) (x2:List (List Int)) (x3:List Int) (x4:List Int) (x5:List Int):Option ((Int×(List (List Int)×(List Int×(List Int×List Int))))):=
 if (decide ((((List.length x1:Nat):Int):Int)=0))=true then
  some (x0,x2,x3,x4,x5)
 else
  Option.bind (Kz x2 x3 x4 x5 x0) fun c1=>
  Option.bind (Ld x2 x3 x4 x5 x0 x1) fun c2=>
  Option.bind (α:=(List Int×(List (List Int)×(List Bool×(List Int×(List (List Int)×(List Int×(List Int×List Int)))))))) (
   if (decide (¬ (x0:Int)=0))=true then
    if (Aa (List.length ([]:List Int)+List.length ([x0]:List Int)) 8)=true then
    some (c1.2.1,c2.1,c2.2,([]:List Int)++([x0]:List Int),x2,x3,x4,x5)
    else none
   else
    some (c1.2.1,c2.1,c2.2,[],x2,x3,x4,x5)) fun v3=>
  if (Aa (List.length ([]:List Int)+List.length v3.1) 8)=true then
  Option.bind (Ab Bi (v3.1,v3.2.2.1,v3.2.2.2.1,([]:List Int)++v3.1,v3.2.1,((List.length v3.2.1:Nat):Int),0,v3.2.2.2.2.1,v3.2.2.2.2.2.1,v3.2.2.2.2.2.2.1,v3.2.2.2.2.2.2.2)) fun v21=>
  Option.bind (Ij v21.2.1) fun c22=>
  Option.bind (α:=(List Int×(Int×(List (List Int)×(List Int×(List Int×List Int)))))) (
   if c22=true then
    Option.bind (Bh v21.2.2.1 v21.2.2.2.1 v21.2.2.2.2.1 v21.2.2.2.2.2) fun c23=>
    Option.bind (DU c23.1 80 v21.2.1 c23.2.1 c23.2.2.1 c23.2.2.2.1 c23.2.2.2.2) fun c24=>
    some (v21.1,c23.1,c24.1,c24.2.1,c24.2.2.1,c24.2.2.2)
   else
    some (v21.1,0,v21.2.2.1,v21.2.2.2.1,v21.2.2.2.2.1,v21.2.2.2.2.2)) fun v25=>
  Option.bind (Ab DZ (v25.2.1,v25.1,((List.length v25.1:Nat):Int),0,v25.2.2.1,v25.2.2.2.1,v25.2.2.2.2.1,v25.2.2.2.2.2)) fun v28=>
  some (v28.1,v28.2.1,v28.2.2.1,v28.2.2.2.1,v28.2.2.2.2)
  else none
def E8 (y:(Int×(List Int×(Int×Int)))):Option ((Int×(List Int×(Int×Int)))⊕Int):=
 if (decide ((y.2.2.2:Int) < y.2.2.1))=true then
  if (decide ((0:Int)≤y.2.2.2))=true then
  Option.bind (y.2.1[Int.toNat y.2.2.2]?) fun r1=>
  if (decide (¬ (4294967296:Int)=0))=true then
  some (.inl (Int.tmod (IntKind.wrap .u64 ((IntKind.wrap .u64 (((BitVec.ofInt (IntKind.bits .u64) y.1 ^^^ BitVec.ofInt (IntKind.bits .u64) (IntKind.wrap .u64 r1)).toNat:Int))) * 16777619)) 4294967296,y.2.1,y.2.2.1,IntKind.wrap .i64 (y.2.2.2+1)))
  else none
  else none
 else
  some (.inr y.1)
def Ic (x0:List Int):Option (Int):=
 Option.bind (Ab E8 (2166136261,x0,((List.length x0:Nat):Int),0)) fun v2=>
 some (IntKind.wrap .u32 v2)
def JE (x0:Int) (x1:Int) (x2:Int) (x3:Int) (x4:Int):Option (List Int):=
 if (decide (¬ (256:Int)=0))=true then
 if (decide (¬ (256:Int)=0))=true then
 if (decide ((0:Int)≤IntKind.wrap .i64 (124 - ((List.length [83,84,82,49,IntKind.wrap .u8 x0,IntKind.wrap .u8 x1,IntKind.wrap .u8 x2,0,IntKind.wrap .u8 (IntKind.wrap .i64 (Int.tdiv x3 256)),IntKind.wrap .u8 x3,IntKind.wrap .u8 (IntKind.wrap .i64 (Int.tdiv x4 256)),IntKind.wrap .u8 x4]:Nat):Int))))=true then
 if (Aa (List.length ([83,84,82,49,IntKind.wrap .u8 x0,IntKind.wrap .u8 x1,IntKind.wrap .u8 x2,0,IntKind.wrap .u8 (IntKind.wrap .i64 (Int.tdiv x3 256)),IntKind.wrap .u8 x3,IntKind.wrap .u8 (IntKind.wrap .i64 (Int.tdiv x4 256)),IntKind.wrap .u8 x4]:List Int)+List.length (List.replicate (Int.toNat (IntKind.wrap .i64 (124 - ((List.length [83,84,82,49,IntKind.wrap .u8 x0,IntKind.wrap .u8 x1,IntKind.wrap .u8 x2,0,IntKind.wrap .u8 (IntKind.wrap .i64 (Int.tdiv x3 256)),IntKind.wrap .u8 x3,IntKind.wrap .u8 (IntKind.wrap .i64 (Int.tdiv x4 256)),IntKind.wrap .u8 x4]:Nat):Int)))) (0:Int))) 1)=true then
 Option.bind (Ic (([83,84,82,49,IntKind.wrap .u8 x0,IntKind.wrap .u8 x1,IntKind.wrap .u8 x2,0,IntKind.wrap .u8 (IntKind.wrap .i64 (Int.tdiv x3 256)),IntKind.wrap .u8 x3,IntKind.wrap .u8 (IntKind.wrap .i64 (Int.tdiv x4 256)),IntKind.wrap .u8 x4]:List Int)++(List.replicate (Int.toNat (IntKind.wrap .i64 (124 - ((List.length [83,84,82,49,IntKind.wrap .u8 x0,IntKind.wrap .u8 x1,IntKind.wrap .u8 x2,0,IntKind.wrap .u8 (IntKind.wrap .i64 (Int.tdiv x3 256)),IntKind.wrap .u8 x3,IntKind.wrap .u8 (IntKind.wrap .i64 (Int.tdiv x4 256)),IntKind.wrap .u8 x4]:Nat):Int)))) (0:Int)))) fun c1=>
 if (decide ((0:Int)≤24))=true then
 if (decide ((0:Int)≤16))=true then
 if (decide ((0:Int)≤8))=true then
 if (Aa (List.length (([83,84,82,49,IntKind.wrap .u8 x0,IntKind.wrap .u8 x1,IntKind.wrap .u8 x2,0,IntKind.wrap .u8 (IntKind.wrap .i64 (Int.tdiv x3 256)),IntKind.wrap .u8 x3,IntKind.wrap .u8 (IntKind.wrap .i64 (Int.tdiv x4 256)),IntKind.wrap .u8 x4]:List Int)++(List.replicate (Int.toNat (IntKind.wrap .i64 (124 - ((List.length [83,84,82,49,IntKind.wrap .u8 x0,IntKind.wrap .u8 x1,IntKind.wrap .u8 x2,0,IntKind.wrap .u8 (IntKind.wrap .i64 (Int.tdiv x3 256)),IntKind.wrap .u8 x3,IntKind.wrap .u8 (IntKind.wrap .i64 (Int.tdiv x4 256)),IntKind.wrap .u8 x4]:Nat):Int)))) (0:Int)))+List.length ([IntKind.wrap .u8 (Int.fdiv c1 (2 ^ (min (Int.toNat 24) (IntKind.bits .u32)))),IntKind.wrap .u8 (Int.fdiv c1 (2 ^ (min (Int.toNat 16) (IntKind.bits .u32)))),IntKind.wrap .u8 (Int.fdiv c1 (2 ^ (min (Int.toNat 8) (IntKind.bits .u32)))),IntKind.wrap .u8 c1]:List Int)) 1)=true then
 some ((([83,84,82,49,IntKind.wrap .u8 x0,IntKind.wrap .u8 x1,IntKind.wrap .u8 x2,0,IntKind.wrap .u8 (IntKind.wrap .i64 (Int.tdiv x3 256)),IntKind.wrap .u8 x3,IntKind.wrap .u8 (IntKind.wrap .i64 (Int.tdiv x4 256)),IntKind.wrap .u8 x4]:List Int)++(List.replicate (Int.toNat (IntKind.wrap .i64 (124 - ((List.length [83,84,82,49,IntKind.wrap .u8 x0,IntKind.wrap .u8 x1,IntKind.wrap .u8 x2,0,IntKind.wrap .u8 (IntKind.wrap .i64 (Int.tdiv x3 256)),IntKind.wrap .u8 x3,IntKind.wrap .u8 (IntKind.wrap .i64 (Int.tdiv x4 256)),IntKind.wrap .u8 x4]:Nat):Int)))) (0:Int)))++([IntKind.wrap .u8 (Int.fdiv c1 (2 ^ (min (Int.toNat 24) (IntKind.bits .u32)))),IntKind.wrap .u8 (Int.fdiv c1 (2 ^ (min (Int.toNat 16) (IntKind.bits .u32)))),IntKind.wrap .u8 (Int.fdiv c1 (2 ^ (min (Int.toNat 8) (IntKind.bits .u32)))),IntKind.wrap .u8 c1]:List Int))
 else none
 else none
 else none
 else none
 else none
 else none
 else none
 else none
def FN (y:(List Int×(List Int×(List Int×(Int×(Int×(List (List Int)×(List Int×(List Int×List Int))))))))):Option ((List Int×(List Int×(List Int×(Int×(Int×(List (List Int)×(List Int×(List Int×List Int))))))))⊕(List Int×(List Int×(List (List Int)×(List Int×(List Int×List Int)))))):=
 if (decide ((y.2.2.2.2.1:Int) < y.2.2.2.1))=true then
  if (decide ((0:Int)≤y.2.2.2.2.1))=true then
  Option.bind (y.2.2.1[Int.toNat y.2.2.2.2.1]?) fun r1=>
  Option.bind (EH y.2.1 r1 false) fun c2=>
  some (.inl (y.1,c2,y.2.2.1,y.2.2.2.1,IntKind.wrap .i64 (y.2.2.2.2.1+1),y.2.2.2.2.2.1,y.2.2.2.2.2.2.1,y.2.2.2.2.2.2.2.1,y.2.2.2.2.2.2.2.2))
  else none
 else
  some (.inr (y.1,y.2.1,y.2.2.2.2.2.1,y.2.2.2.2.2.2.1,y.2.2.2.2.2.2.2.1,y.2.2.2.2.2.2.2.2))
def FU (y:(List (Int×List Int)×(List Int×(Int×(Int×(List (List Int)×(List Int×(List Int×List Int)))))))):Option ((List (Int×List Int)×(List Int×(Int×(Int×(List (List Int)×(List Int×(List Int×List Int)))))))⊕(List (Int×List Int))):=
 if (decide ((y.2.2.2.1:Int) < y.2.2.1))=true then
  if (decide ((0:Int)≤y.2.2.2.1))=true then
  Option.bind (y.2.1[Int.toNat y.2.2.2.1]?) fun r4=>
  Option.bind (JT y.2.2.2.2.2.2.1 r4) fun c5=>
  Option.bind (α:=(List (Int×List Int)×(List Int×(Int×(Int×(List (List Int)×(List Int×(List Int×List Int)))))))) (
   if (!c5)=true then
    if (decide ((0:Int)≤r4))=true then
    Option.bind (y.2.2.2.2.1[Int.toNat r4]?) fun r6=>
    if (Aa (List.length ([]:List Int)+List.length r6) 1)=true then
    if (Aa (List.length y.1+List.length ([(r4,([]:List Int)++r6)]:List (Int×List Int))) 32)=true then
    some (y.1++([(r4,([]:List Int)++r6)]:List (Int×List Int)),y.2.1,y.2.2.1,y.2.2.2.1,y.2.2.2.2.1,y.2.2.2.2.2.1,y.2.2.2.2.2.2.1,y.2.2.2.2.2.2.2)
    else none
    else none
    else none
   else
    some (y.1,y.2.1,y.2.2.1,y.2.2.2.1,y.2.2.2.2.1,y.2.2.2.2.2.1,y.2.2.2.2.2.2.1,y.2.2.2.2.2.2.2)) fun v7=>
  some (.inl (v7.1,v7.2.1,v7.2.2.1,IntKind.wrap .i64 (v7.2.2.2.1+1),v7.2.2.2.2.1,v7.2.2.2.2.2.1,v7.2.2.2.2.2.2.1,v7.2.2.2.2.2.2.2))
  else none
 else
  some (.inr y.1)
def K4 (x0:List (List Int)) (x1:List Int) (x2:List Int) (x3:List Int) (x4:List Int):Option (List (Int×List Int)):=
 if (decide ((0:Int)≤128))=true then
 if (decide ((128:Int)≤128))=true then
 if (Aa (Int.toNat 128) 1)=true then
 Option.bind (Ab FN (x4,(x1).take (List.length (List.replicate (Int.toNat 128) (0:Int)))++List.drop (List.length x1) (List.replicate (Int.toNat 128) (0:Int)),x2,((List.length x2:Nat):Int),0,x0,x1,x2,x3)) fun v3=>
 if (Aa (List.length ([]:List Int)+List.length v3.1) 1)=true then
 Option.bind (Ab FU ([(0,([]:List Int)++v3.1),(1,v3.2.1)],v3.2.2.2.2.2,((List.length v3.2.2.2.2.2:Nat):Int),0,v3.2.2.1,v3.2.2.2.1,v3.2.2.2.2.1,v3.2.2.2.2.2)) fun v8=>
 some v8
 else none
 else none
 else none
 else none
def Fc (y:(List (Int×List Int)×(List Int×(List (Int×List Int)×(Int×Int))))):Option ((List (Int×List Int)×(List Int×(List (Int×List Int)×(Int×Int))))⊕(List (Int×List Int)×List Int)):=
 if (decide ((y.2.2.2.2:Int) < y.2.2.2.1))=true then
  if (decide ((0:Int)≤y.2.2.2.2))=true then
  Option.bind (y.2.2.1[Int.toNat y.2.2.2.2]?) fun r1=>
  if (decide (¬ (256:Int)=0))=true then
  if (Aa (List.length y.2.1+List.length ([IntKind.wrap .u8 (IntKind.wrap .i64 (Int.tdiv r1.1 256)),IntKind.wrap .u8 r1.1]:List Int)) 1)=true then
  some (.inl (y.1,y.2.1++([IntKind.wrap .u8 (IntKind.wrap .i64 (Int.tdiv r1.1 256)),IntKind.wrap .u8 r1.1]:List Int),y.2.2.1,y.2.2.2.1,IntKind.wrap .i64 (y.2.2.2.2+1)))
  else none
  else none
  else none
 else
  some (.inr (y.1,y.2.1))
def E9 (y:(List Int×(List Int×(List (Int×List Int)×(Int×Int))))):Option ((List Int×(List Int×(List (Int×List Int)×(Int×Int))))⊕(List Int×List Int)):=
 if (decide ((y.2.2.2.2:Int) < y.2.2.2.1))=true then
  if (decide ((0:Int)≤y.2.2.2.2))=true then
  Option.bind (y.2.2.1[Int.toNat y.2.2.2.2]?) fun r3=>
  if (Aa (List.length y.2.1+List.length r3.2) 1)=true then
  some (.inl (y.1,y.2.1++r3.2,y.2.2.1,y.2.2.2.1,IntKind.wrap .i64 (y.2.2.2.2+1)))
  else none
  else none
 else
  some (.inr (y.1,y.2.1))
def Jy (x0:List (Int×List Int)):Option (List Int):=
 Option.bind (Ab Fc (x0,[76,79,71,49,IntKind.wrap .u8 ((List.length x0:Nat):Int)],x0,((List.length x0:Nat):Int),0)) fun v2=>
 if (decide ((0:Int)≤IntKind.wrap .i64 (124 - ((List.length v2.2:Nat):Int))))=true then
 if (Aa (List.length v2.2+List.length (List.replicate (Int.toNat (IntKind.wrap .i64 (124 - ((List.length v2.2:Nat):Int)))) (0:Int))) 1)=true then
 if (Aa (List.length ([]:List Int)+List.length (v2.2++(List.replicate (Int.toNat (IntKind.wrap .i64 (124 - ((List.length v2.2:Nat):Int)))) (0:Int)))) 1)=true then
 Option.bind (Ab E9 (v2.2++(List.replicate (Int.toNat (IntKind.wrap .i64 (124 - ((List.length v2.2:Nat):Int)))) (0:Int)),([]:List Int)++(v2.2++(List.replicate (Int.toNat (IntKind.wrap .i64 (124 - ((List.length v2.2:Nat):Int)))) (0:Int))),v2.1,((List.length v2.1:Nat):Int),0)) fun v4=>
 Option.bind (Ic v4.2) fun c5=>
 if (decide ((0:Int)≤24))=true then
 if (decide ((0:Int)≤16))=true then
 if (decide ((0:Int)≤8))=true then
 if (Aa (List.length v4.1+List.length ([IntKind.wrap .u8 (Int.fdiv c5 (2 ^ (min (Int.toNat 24) (IntKind.bits .u32)))),IntKind.wrap .u8 (Int.fdiv c5 (2 ^ (min (Int.toNat 16) (IntKind.bits .u32)))),IntKind.wrap .u8 (Int.fdiv c5 (2 ^ (min (Int.toNat 8) (IntKind.bits .u32)))),IntKind.wrap .u8 c5]:List Int)) 1)=true then
 some (v4.1++([IntKind.wrap .u8 (Int.fdiv c5 (2 ^ (min (Int.toNat 24) (IntKind.bits .u32)))),IntKind.wrap .u8 (Int.fdiv c5 (2 ^ (min (Int.toNat 16) (IntKind.bits .u32)))),IntKind.wrap .u8 (Int.fdiv c5 (2 ^ (min (Int.toNat 8) (IntKind.bits .u32)))),IntKind.wrap .u8 c5]:List Int))
 else none
 else none
 else none
 else none
 else none
 else none
 else none
def GD (y:(List (Int×List Int)×(List (Int×List Int)×(List (Int×List Int)×(Int×Int))))):Option ((List (Int×List Int)×(List (Int×List Int)×(List (Int×List Int)×(Int×Int))))⊕(List (Int×List Int)×List (Int×List Int))):=
 if (decide ((y.2.2.2.2:Int) < y.2.2.2.1))=true then
  if (decide ((0:Int)≤y.2.2.2.2))=true then
  Option.bind (y.2.2.1[Int.toNat y.2.2.2.2]?) fun r2=>
  if (Aa (List.length ([]:List Int)+List.length r2.2) 1)=true then
  if (Aa (List.length y.2.1+List.length ([(IntKind.wrap .i64 (3+y.2.2.2.2),([]:List Int)++r2.2)]:List (Int×List Int))) 32)=true then
  some (.inl (y.1,y.2.1++([(IntKind.wrap .i64 (3+y.2.2.2.2),([]:List Int)++r2.2)]:List (Int×List Int)),y.2.2.1,y.2.2.2.1,IntKind.wrap .i64 (y.2.2.2.2+1)))
  else none
  else none
  else none
 else
  some (.inr (y.1,y.2.1))
def GN (y:(List (Int×List Int)×(List (Int×List Int)×(Int×Int)))):Option ((List (Int×List Int)×(List (Int×List Int)×(Int×Int)))⊕(List (Int×List Int))):=
 if (decide ((y.2.2.2:Int) < y.2.2.1))=true then
  if (decide ((0:Int)≤y.2.2.2))=true then
  Option.bind (y.2.1[Int.toNat y.2.2.2]?) fun r5=>
  if (Aa (List.length ([]:List Int)+List.length r5.2) 1)=true then
  if (Aa (List.length y.1+List.length ([(r5.1,([]:List Int)++r5.2)]:List (Int×List Int))) 32)=true then
  some (.inl (y.1++([(r5.1,([]:List Int)++r5.2)]:List (Int×List Int)),y.2.1,y.2.2.1,IntKind.wrap .i64 (y.2.2.2+1)))
  else none
  else none
  else none
 else
  some (.inr y.1)
def MZ (x0:List (Int×List Int)):Option (List (Int×List Int)):=
 Option.bind (Ab GD (x0,[],x0,((List.length x0:Nat):Int),0)) fun v3=>
 Option.bind (Jy v3.1) fun c4=>
 if (Aa (List.length v3.2+List.length ([(2,c4)]:List (Int×List Int))) 32)=true then
 Option.bind (Ab GN (v3.2++([(2,c4)]:List (Int×List Int)),v3.1,((List.length v3.1:Nat):Int),0)) fun v6=>
 if (decide ((0:Int)≤128))=true then
 if (decide ((128:Int)≤128))=true then
 if (Aa (Int.toNat 128) 1)=true then
 if (Aa (List.length v6+List.length ([(2,List.replicate (Int.toNat 128) (0:Int))]:List (Int×List Int))) 32)=true then
 some (v6++([(2,List.replicate (Int.toNat 128) (0:Int))]:List (Int×List Int)))
 else none
 else none
 else none
 else none
 else none
def KN (x0:Int) (x1:List Int) (x2:List (List Int)) (x3:Int) (x4:Bool) (x5:Int):Option ((Bool×(List (List Int)×(Int×(Bool×Int))))):=
 if (!x4)=true then
  some (false,x2,x3,x4,x5)
 else
 if (decide ((x5:Int)=0))=true then
  some (false,x2,x3,false,x5)
 else
  Option.bind (α:=(Int×(List Int×(List (List Int)×(Int×(Bool×Int)))))) (
   if (decide ((0:Int) < x5))=true then
    some (x0,x1,x2,x3,x4,IntKind.wrap .i64 (x5 - 1))
   else
    some (x0,x1,x2,x3,x4,x5)) fun v1=>
  if (Aa (List.length ([]:List Int)+List.length v1.2.1) 1)=true then
  if (decide ((0:Int)≤v1.1))=true then
  if (decide ((v1.1:Int) < ((List.length v1.2.2.1:Nat):Int)))=true then
  Option.bind (v1.2.2.1[0+Int.toNat v1.1]?) fun r2=>
  Option.bind (v1.2.2.1[0+Int.toNat v1.1]?) fun r3=>
  some (true,v1.2.2.1.set (0+Int.toNat v1.1) (([]:List Int)++v1.2.1),IntKind.wrap .i64 (v1.2.2.2.1+1),v1.2.2.2.2.1,v1.2.2.2.2.2)
  else none
  else none
  else none
def De (y:(List (Int×List Int)×(Int×(Int×(List (List Int)×(Int×(Bool×Int))))))):Option ((List (Int×List Int)×(Int×(Int×(List (List Int)×(Int×(Bool×Int))))))⊕((List (List Int)×(Int×(Bool×Int)))⊕(Bool×(List (List Int)×(Int×(Bool×Int)))))):=
 if (decide ((y.2.2.1:Int) < y.2.1))=true then
  if (decide ((0:Int)≤y.2.2.1))=true then
  if (decide ((y.2.2.1:Int) < ((List.length y.1:Nat):Int)))=true then
  Option.bind (y.1[0+Int.toNat y.2.2.1]?) fun r2=>
  Option.bind (y.1[0+Int.toNat y.2.2.1]?) fun r3=>
  Option.bind (y.1[0+Int.toNat y.2.2.1]?) fun r4=>
  Option.bind (KN r2.1 r4.2 y.2.2.2.1 y.2.2.2.2.1 y.2.2.2.2.2.1 y.2.2.2.2.2.2) fun c5=>
  if (!c5.1)=true then
   some (.inr (.inr (false,c5.2.1,c5.2.2.1,c5.2.2.2.1,c5.2.2.2.2)))
  else
   some (.inl (y.1,y.2.1,IntKind.wrap .i64 (y.2.2.1+1),c5.2.1,c5.2.2.1,c5.2.2.2.1,c5.2.2.2.2))
  else none
  else none
 else
  some (.inr (.inl (y.2.2.2.1,y.2.2.2.2.1,y.2.2.2.2.2.1,y.2.2.2.2.2.2)))
def HH (x0:List (Int×List Int)) (x1:List (List Int)) (x2:Int) (x3:Bool) (x4:Int):Option ((Bool×(List (List Int)×(Int×(Bool×Int))))):=
 Option.bind (MZ x0) fun c1=>
 Option.bind (Ab De (c1,((List.length c1:Nat):Int),0,x1,x2,x3,x4)) fun v6=>
 match v6 with
 | .inl y7=>
  some (true,y7.1,y7.2.1,y7.2.2.1,y7.2.2.2)
 | .inr s8=>
  some (s8.1,s8.2.1,s8.2.2.1,s8.2.2.2.1,s8.2.2.2.2)
def Gz (x0:List (List Int)) (x1:Int) (x2:Bool) (x3:Int) (x4:List (List Int)) (x5:List Int) (x6:List Int) (x7:List Int) (x8:Int) (x9:Int) (x10:Int) (x11:Int) (x12:Int):Option ((Int×(List (List Int)×(Int×(Bool×Int))))):=
 Option.bind (JE x8 x9 x10 x11 x12) fun c1=>
 Option.bind (K4 x4 x5 x6 x7 c1) fun c2=>
 Option.bind (Iv x0 x1 x2 x3) fun c3=>
 if (decide ((30:Int) < ((List.length c2:Nat):Int)))=true then
  some (8,c3.1,c3.2.1,c3.2.2.1,c3.2.2.2)
 else
  Option.bind (HH c2 c3.1 c3.2.1 c3.2.2.1 c3.2.2.2) fun c4=>
  if (!c4.1)=true then
   some (2,c4.2.1,c4.2.2.1,c4.2.2.2.1,c4.2.2.2.2)
  else
   some (0,c4.2.1,c4.2.2.1,c4.2.2.2.1,c4.2.2.2.2)
def CB (x0:List (List Int)) (x1:Int) (x2:Bool) (x3:Int) (x4:Int) (x5:Int) (x6:List UInt8) (x7:List (Int×Int)) (x8:List (List (Int×(Int×List UInt8)))):Option ((Int×(List (List Int)×(Int×(Bool×Int))))):=
 Option.bind (α:=(Int×(Bool×(List (List Int)×(Int×(Bool×(Int×(Int×(List UInt8×(List (Int×Int)×(List (List (Int×(Int×List UInt8)))×(Int×(Bool×Int))))))))))))) (
   Option.bind (Ju x0 x1 x2 x3) fun c1=>
   if (!c1)=true then
    some (x4,true,x0,x1,x2,x3,x5,x6,x7,x8,0,false,0)
   else
   if (decide ((999999900:Int) < x1))=true then
    some (x4,true,x0,x1,x2,x3,x5,x6,x7,x8,0,false,0)
   else
    Option.bind (Da x4 1 30) fun c2=>
    if (!c2)=true then
     some (x4,true,x0,x1,x2,x3,x5,x6,x7,x8,0,false,0)
    else
     Option.bind (GY x5 x6 x7 x8) fun c3=>
     if (!c3)=true then
      some (x4,true,x0,x1,x2,x3,x5,x6,x7,x8,0,false,0)
     else
     some (x4,decide ((0:Int) < ((List.length x8:Nat):Int)),x0,x1,x2,x3,x5,x6,x7,x8,0,false,0)) fun v4=>
 if v4.2.1=true then
  some (1,[],0,false,0)
 else
 if (!v4.2.2.2.2.1)=true then
  Option.bind (Iv v4.2.2.1 v4.2.2.2.1 v4.2.2.2.2.1 v4.2.2.2.2.2.1) fun c5=>
  some (2,c5.1,c5.2.1,c5.2.2.1,c5.2.2.2)
 else
  Option.bind (Iv v4.2.2.1 v4.2.2.2.1 v4.2.2.2.2.1 v4.2.2.2.2.2.1) fun c6=>
  Option.bind (KW ((List.length v4.2.2.1:Nat):Int)) fun c7=>
  Option.bind (Lv v4.2.2.2.2.2.2.2.2.1) fun c8=>
  Option.bind (MI c6.1 c7.2 [] []) fun c9=>
  Option.bind (HU c6.1 c7.2 [] [] v4.2.2.2.2.2.2.2.1 0) fun c10=>
  Option.bind (Km ((List.length c8:Nat):Int)) fun c11=>
  if (decide ((c9:Int) < (IntKind.wrap .i64 ((IntKind.wrap .i64 (c10+c11))+2))))=true then
   Option.bind (Iv v4.2.2.1 v4.2.2.2.1 v4.2.2.2.2.1 v4.2.2.2.2.2.1) fun c12=>
   some (7,c12.1,c12.2.1,c12.2.2.1,c12.2.2.2)
  else
   Option.bind (DG v4.2.2.2.2.2.2.2.1 0 c6.1 c7.2 [] []) fun c13=>
   Option.bind (FY c8 c13.2.1 c13.2.2.1 c13.2.2.2.1 c13.2.2.2.2) fun c14=>
   Option.bind (ED 0 [(448,c14.1)] c14.2.1 c14.2.2.1 c14.2.2.2.1 c14.2.2.2.2) fun c15=>
   Option.bind (Gz v4.2.2.1 v4.2.2.2.1 v4.2.2.2.2.1 v4.2.2.2.2.2.1 c15.2.1 c15.2.2.1 c15.2.2.2.1 c15.2.2.2.2 v4.2.2.2.2.2.2.1 v4.2.2.2.2.2.2.1 v4.1 c15.1 c13.1) fun c16=>
   some (c16.1,c16.2.1,c16.2.2.1,c16.2.2.2.1,c16.2.2.2.2)
def BM (x0:Int) (x1:Int) (x2:Int):Option (Bool):=
 Option.bind (α:=Bool) (
  if (decide ((x1:Int)≤x0))=true then
   some (decide ((x0:Int)≤x2))
  else
  some false) fun v1=>
 some v1
def Np (x0:List Int):Option (Bool):=
 some (decide (¬ (((List.length x0:Nat):Int):Int)=128))
def Ci (y:(List (List Int)×(Int×Int))):Option ((List (List Int)×(Int×Int))⊕(Unit⊕Int)):=
 if (decide ((y.2.2:Int) < y.2.1))=true then
  if (decide ((0:Int)≤y.2.2))=true then
  Option.bind (y.1[Int.toNat y.2.2]?) fun r1=>
  Option.bind (Np r1) fun c2=>
  if c2=true then
   some (.inr (.inr y.2.2))
  else
   some (.inl (y.1,y.2.1,IntKind.wrap .i64 (y.2.2+1)))
  else none
 else
  some (.inr (.inl ()))
def A3 (x0:List (List Int)):Option (Int):=
 Option.bind (Ab Ci (x0,((List.length x0:Nat):Int),0)) fun v3=>
 match v3 with
 | .inl y4=>
  some (-1)
 | .inr s5=>
  some s5
def Bo (x0:List (List Int)):Option (Bool):=
 Option.bind (A3 x0) fun c1=>
 some (decide ((0:Int)≤c1))
def II (x0:List (List Int)):Option (Bool):=
 Option.bind (α:=Bool) (
  Option.bind (BM ((List.length x0:Nat):Int) 40 160) fun c1=>
  if c1=true then
   Option.bind (Bo x0) fun c2=>
   some (!c2)
  else
  some false) fun v3=>
 some v3
def Jz (x0:List (List Int)) (x1:Int) (x2:Bool) (x3:Int):Option (Bool):=
 Option.bind (α:=Bool) (
  Option.bind (II x0) fun c1=>
  if c1=true then
   Option.bind (BM x1 0 1000000000) fun c2=>
   if c2=true then
    Option.bind (BM x3 (-1) 1000000) fun c3=>
    some c3
   else
   some false
  else
  some false) fun v4=>
 some v4
def NI (y:(List (Int×Int)×(Int×(Int×(Int×(List (Int×Int)×(Int×Int))))))):Option ((List (Int×Int)×(Int×(Int×(Int×(List (Int×Int)×(Int×Int))))))⊕((Int×Int)⊕Bool)):=
 if (decide ((y.2.2.2.2.2.2:Int) < y.2.2.2.2.2.1))=true then
  if (decide ((0:Int)≤y.2.2.2.2.2.2))=true then
  Option.bind (y.2.2.2.2.1[Int.toNat y.2.2.2.2.2.2]?) fun r4=>
  Option.bind (α:=(List (Int×Int)×(Int×(Int×(Int×(List (Int×Int)×(Int×(Int×(Bool×(Int×Int)))))))))) (
    Option.bind (BM r4.1 0 y.2.2.1) fun c5=>
    if (!c5)=true then
     some (y.1,y.2.1,y.2.2.1,y.2.2.2.1,y.2.2.2.2.1,y.2.2.2.2.2.1,y.2.2.2.2.2.2,true,r4.1,r4.2)
    else
     Option.bind (BM r4.2 1 120) fun c6=>
     if (!c6)=true then
      some (y.1,y.2.1,y.2.2.1,y.2.2.2.1,y.2.2.2.2.1,y.2.2.2.2.2.1,y.2.2.2.2.2.2,true,r4.1,r4.2)
     else
     if (decide ((0:Int) < y.2.2.2.2.2.2))=true then
      if (decide ((0:Int)≤IntKind.wrap .i64 (y.2.2.2.2.2.2 - 1)))=true then
      Option.bind (y.1[Int.toNat (IntKind.wrap .i64 (y.2.2.2.2.2.2 - 1))]?) fun r7=>
      some (y.1,y.2.1,y.2.2.1,y.2.2.2.1,y.2.2.2.2.1,y.2.2.2.2.2.1,y.2.2.2.2.2.2,decide ((r7.1:Int)=r4.1),r4.1,r4.2)
      else none
     else
     some (y.1,y.2.1,y.2.2.1,y.2.2.2.1,y.2.2.2.2.1,y.2.2.2.2.2.1,y.2.2.2.2.2.2,false,r4.1,r4.2)) fun v8=>
  if v8.2.2.2.2.2.2.2.1=true then
   some (.inr (.inr false))
  else
  if (decide ((v8.2.1:Int) < (IntKind.wrap .i64 (v8.2.2.2.1+v8.2.2.2.2.2.2.2.2.2))))=true then
   some (.inr (.inr false))
  else
   some (.inl (v8.1,v8.2.1,v8.2.2.1,IntKind.wrap .i64 (v8.2.2.2.1+v8.2.2.2.2.2.2.2.2.2),v8.2.2.2.2.1,v8.2.2.2.2.2.1,IntKind.wrap .i64 (v8.2.2.2.2.2.2.1+1)))
  else none
 else
  some (.inr (.inl (y.2.1,y.2.2.2.1)))
def JH (x0:List (Int×Int)) (x1:Int) (x2:Int):Option (Bool):=
 Option.bind (α:=(List (Int×Int)×(Int×(Int×Bool)))) (
   Option.bind (BM x1 0 120) fun c1=>
   if (!c1)=true then
    some (x0,x1,x2,true)
   else
    Option.bind (BM x2 0 60) fun c2=>
    some (x0,x1,x2,(!c2))) fun v3=>
 if v3.2.2.2=true then
  some false
 else
  Option.bind (Ab NI (v3.1,v3.2.1,v3.2.2.1,0,v3.1,((List.length v3.1:Nat):Int),0)) fun v9=>
  match v9 with
  | .inl y10=>
   some (decide ((y10.2:Int)=y10.1))
  | .inr s11=>
   some s11
def GC (x0:Int) (x1:Int) (x2:List UInt8):Option (Int):=
 Option.bind (α:=(Bool×(Int×(Int×List UInt8)))) (
   if (decide ((0:Int) < x0))=true then
    if (decide ((x1:Int)=0))=true then
     some (((x2:List UInt8) == ([]:List UInt8)),x0,x1,x2)
    else
    some (false,x0,x1,x2)
   else
   some (false,x0,x1,x2)) fun v1=>
 if v1.1=true then
  some 1
 else
  Option.bind (α:=(Bool×(Int×(Int×List UInt8)))) (
    if (decide ((0:Int) < v1.2.2.1))=true then
     if (decide ((v1.2.1:Int)=0))=true then
      some (((v1.2.2.2:List UInt8) == ([]:List UInt8)),v1.2.1,v1.2.2.1,v1.2.2.2)
     else
     some (false,v1.2.1,v1.2.2.1,v1.2.2.2)
    else
    some (false,v1.2.1,v1.2.2.1,v1.2.2.2)) fun v2=>
  if v2.1=true then
   some 2
  else
   Option.bind (α:=Bool) (
     if (!((v2.2.2.2:List UInt8) == ([]:List UInt8)))=true then
      if (decide ((v2.2.1:Int)=0))=true then
       some (decide ((v2.2.2.1:Int)=0))
      else
      some false
     else
     some false) fun v3=>
   if v3=true then
    some 3
   else
    some 0
def OZ (y:(Int×(Int×(List (Int×(Int×List UInt8))×(Int×Int))))):Option ((Int×(Int×(List (Int×(Int×List UInt8))×(Int×Int))))⊕((Int×Int)⊕(Int×(Int×Bool)))):=
 if (decide ((y.2.2.2.2:Int) < y.2.2.2.1))=true then
  if (decide ((0:Int)≤y.2.2.2.2))=true then
  Option.bind (y.2.2.1[Int.toNat y.2.2.2.2]?) fun r1=>
  Option.bind (α:=(Int×(Int×(List (Int×(Int×List UInt8))×(Int×(Int×(Bool×(Int×(Int×List UInt8))))))))) (
    if (decide ((120:Int) < r1.1))=true then
     some (y.1,y.2.1,y.2.2.1,y.2.2.2.1,y.2.2.2.2,true,r1.1,r1.2.1,r1.2.2)
    else
    some (y.1,y.2.1,y.2.2.1,y.2.2.2.1,y.2.2.2.2,decide ((120:Int) < r1.2.1),r1.1,r1.2.1,r1.2.2)) fun v2=>
  if v2.2.2.2.2.2.1=true then
   some (.inr (.inr (0,0,false)))
  else
   Option.bind (α:=(Int×(Int×(List (Int×(Int×List UInt8))×(Int×(Int×Bool)))))) (
     if (decide ((120:Int) < (IntKind.wrap .i64 (v2.1+(IntKind.wrap .i64 (v2.2.2.2.2.2.2.1+v2.2.2.2.2.2.2.2.1))))))=true then
      some (IntKind.wrap .i64 (v2.1+(IntKind.wrap .i64 (v2.2.2.2.2.2.2.1+v2.2.2.2.2.2.2.2.1))),IntKind.wrap .i64 (v2.2.1+(IntKind.wrap .i64 (v2.2.2.2.2.2.2.1+((List.length v2.2.2.2.2.2.2.2.2:Nat):Int)))),v2.2.2.1,v2.2.2.2.1,v2.2.2.2.2.1,true)
     else
     some (IntKind.wrap .i64 (v2.1+(IntKind.wrap .i64 (v2.2.2.2.2.2.2.1+v2.2.2.2.2.2.2.2.1))),IntKind.wrap .i64 (v2.2.1+(IntKind.wrap .i64 (v2.2.2.2.2.2.2.1+((List.length v2.2.2.2.2.2.2.2.2:Nat):Int)))),v2.2.2.1,v2.2.2.2.1,v2.2.2.2.2.1,decide ((120:Int) < (IntKind.wrap .i64 (v2.2.1+(IntKind.wrap .i64 (v2.2.2.2.2.2.2.1+((List.length v2.2.2.2.2.2.2.2.2:Nat):Int)))))))) fun v3=>
   if v3.2.2.2.2.2=true then
    some (.inr (.inr (0,0,false)))
   else
    some (.inl (v3.1,v3.2.1,v3.2.2.1,v3.2.2.2.1,IntKind.wrap .i64 (v3.2.2.2.2.1+1)))
  else none
 else
  some (.inr (.inl (y.1,y.2.1)))
def Jd (x0:List (Int×(Int×List UInt8))):Option ((Int×(Int×Bool))):=
 Option.bind (Ab OZ (0,0,x0,((List.length x0:Nat):Int),0)) fun v4=>
 match v4 with
 | .inl y5=>
  some (y5.1,y5.2,true)
 | .inr s6=>
  some (s6.1,s6.2.1,s6.2.2)
def HK (y:(List (Int×(Int×List UInt8))×(List (Int×(Int×List UInt8))×(Int×Int)))):Option ((List (Int×(Int×List UInt8))×(List (Int×(Int×List UInt8))×(Int×Int)))⊕(List (Int×(Int×List UInt8))⊕Bool)):=
 if (decide ((y.2.2.2:Int) < y.2.2.1))=true then
  if (decide ((0:Int)≤y.2.2.2))=true then
  Option.bind (y.2.1[Int.toNat y.2.2.2]?) fun r1=>
  Option.bind (GC r1.1 r1.2.1 r1.2.2) fun c2=>
  Option.bind (α:=(List (Int×(Int×List UInt8))×(List (Int×(Int×List UInt8))×(Int×(Int×Bool))))) (
    if (decide ((c2:Int)=0))=true then
     some (y.1,y.2.1,y.2.2.1,y.2.2.2,true)
    else
    if (decide ((0:Int) < y.2.2.2))=true then
     if (decide ((0:Int)≤IntKind.wrap .i64 (y.2.2.2 - 1)))=true then
     Option.bind (y.1[Int.toNat (IntKind.wrap .i64 (y.2.2.2 - 1))]?) fun r3=>
     Option.bind (GC r3.1 r3.2.1 r3.2.2) fun c4=>
     some (y.1,y.2.1,y.2.2.1,y.2.2.2,decide ((c4:Int)=c2))
     else none
    else
    some (y.1,y.2.1,y.2.2.1,y.2.2.2,false)) fun v5=>
  if v5.2.2.2.2=true then
   some (.inr (.inr false))
  else
   some (.inl (v5.1,v5.2.1,v5.2.2.1,IntKind.wrap .i64 (v5.2.2.2.1+1)))
  else none
 else
  some (.inr (.inl y.1))
def HM (x0:List (Int×(Int×List UInt8))):Option (Bool):=
 Option.bind (Ab HK (x0,x0,((List.length x0:Nat):Int),0)) fun v6=>
 match v6 with
 | .inl y7=>
  Option.bind (Jd y7) fun c9=>
  some c9.2.2
 | .inr s8=>
  some s8
def IT (x0:List (Int×(Int×List UInt8))):Option ((Int×(Int×Bool))):=
 Option.bind (HM x0) fun c1=>
 if (!c1)=true then
  some (0,0,false)
 else
  Option.bind (Jd x0) fun c2=>
  some (c2.1,c2.2.1,c2.2.2)
def Ob (y:(Int×(List (List (Int×(Int×List UInt8)))×(Int×Int)))):Option ((Int×(List (List (Int×(Int×List UInt8)))×(Int×Int)))⊕(Unit⊕Bool)):=
 if (decide ((y.2.2.2:Int) < y.2.2.1))=true then
  if (decide ((0:Int)≤y.2.2.2))=true then
  Option.bind (y.2.1[Int.toNat y.2.2.2]?) fun r1=>
  Option.bind (IT r1) fun c2=>
  Option.bind (α:=(Int×(List (List (Int×(Int×List UInt8)))×(Int×(Int×Bool))))) (
    if (!c2.2.2)=true then
     some (c2.2.1,y.2.1,y.2.2.1,y.2.2.2,true)
    else
    some (c2.2.1,y.2.1,y.2.2.1,y.2.2.2,decide (¬ (c2.1:Int)=y.1))) fun v3=>
  if v3.2.2.2.2=true then
   some (.inr (.inr false))
  else
   some (.inl (v3.1,v3.2.1,v3.2.2.1,IntKind.wrap .i64 (v3.2.2.2.1+1)))
  else none
 else
  some (.inr (.inl ()))
def Lo (x0:Int) (x1:List (List (Int×(Int×List UInt8)))):Option (Bool):=
 Option.bind (Ab Ob (x0,x1,((List.length x1:Nat):Int),0)) fun v4=>
 match v4 with
 | .inl y5=>
  some true
 | .inr s6=>
  some s6
def GT (x0:Int) (x1:List UInt8) (x2:List (Int×Int)) (x3:List (List (Int×(Int×List UInt8)))):Option (Bool):=
 Option.bind (α:=Bool) (
  Option.bind (BM x0 0 60) fun c1=>
  if c1=true then
   if (decide ((((List.length x1:Nat):Int):Int)≤120))=true then
    Option.bind (JH x2 ((List.length x1:Nat):Int) x0) fun c2=>
    if c2=true then
     if (decide ((((List.length x3:Nat):Int):Int)≤(IntKind.wrap .i64 (60 - x0))))=true then
      Option.bind (Lo ((List.length x1:Nat):Int) x3) fun c3=>
      some c3
     else
     some false
    else
    some false
   else
   some false
  else
  some false) fun v4=>
 some v4
def Au (x0:List Int):Option (List Int):=
 Option.bind (α:=List Int) (H3 (List.isEmpty x0) (
  some []) (
  if (Aa (List.length ([]:List Int)+List.length x0) 1)=true then
  some (([]:List Int)++x0)
  else none)) fun v1=>
 some v1
def Ln (y:(List (List Int)×(List (List Int)×(Int×Int)))):Option ((List (List Int)×(List (List Int)×(Int×Int)))⊕(List (List Int))):=
 if (decide ((y.2.2.2:Int) < y.2.2.1))=true then
  if (decide ((0:Int)≤y.2.2.2))=true then
  Option.bind (y.2.1[Int.toNat y.2.2.2]?) fun r1=>
  Option.bind (Au r1) fun c2=>
  if (Aa (List.length y.1+List.length ([c2]:List (List Int))) 24)=true then
  some (.inl (y.1++([c2]:List (List Int)),y.2.1,y.2.2.1,IntKind.wrap .i64 (y.2.2.2+1)))
  else none
  else none
 else
  some (.inr y.1)
def FW (x0:List (List Int)):Option (List (List Int)):=
 Option.bind (Ab Ln ([],x0,((List.length x0:Nat):Int),0)) fun v3=>
 some v3
def Dl (x0:List (List Int)) (x1:Int) (x2:Bool) (x3:Int):Option ((List (List Int)×(Int×(Bool×Int)))):=
 Option.bind (FW x0) fun c1=>
 some (c1,x1,x2,x3)
def Gw (y:(List Int×(Int×(Int×Int)))):Option ((List Int×(Int×(Int×Int)))⊕(Unit⊕Int)):=
 if (decide ((y.2.2.2:Int) < y.2.2.1))=true then
  if (decide ((0:Int)≤y.2.2.2))=true then
  Option.bind (y.1[Int.toNat y.2.2.2]?) fun r1=>
  if (decide ((y.2.1:Int)=r1))=true then
   some (.inr (.inr y.2.2.2))
  else
   some (.inl (y.1,y.2.1,y.2.2.1,IntKind.wrap .i64 (y.2.2.2+1)))
  else none
 else
  some (.inr (.inl ()))
def Dv (x0:List Int) (x1:Int):Option (Int):=
 Option.bind (Ab Gw (x0,x1,((List.length x0:Nat):Int),0)) fun v2=>
 match v2 with
 | .inl y3=>
  some (-1)
 | .inr s4=>
  some s4
def Bg (x0:List Int) (x1:Int):Option (Bool):=
 Option.bind (Dv x0 x1) fun c1=>
 some (decide ((0:Int)≤c1))
def Hf (x0:Int):Option (Bool):=
 some (decide (¬ (x0:Int)=0))
def HN (x0:List Int) (x1:Int):Option (Int):=
 if (decide ((0:Int)≤x1))=true then
 Option.bind (x0[Int.toNat x1]?) fun r1=>
 if (decide ((0:Int)≤8))=true then
 if (decide ((0:Int)≤IntKind.wrap .i64 (x1+1)))=true then
 Option.bind (x0[Int.toNat (IntKind.wrap .i64 (x1+1))]?) fun r2=>
 some (IntKind.wrap .i64 (((BitVec.ofInt (IntKind.bits .i64) (IntKind.wrap .i64 ((IntKind.wrap .i64 r1) * 2 ^ (min (Int.toNat 8) (IntKind.bits .i64)))) ||| BitVec.ofInt (IntKind.bits .i64) (IntKind.wrap .i64 r2)).toNat:Int)))
 else none
 else none
 else none
def H9 (x0:Int):Option (Bool):=
 some (decide (¬ (x0:Int)=0))
def Gh (x0:(List (List Int)×(List Int×(List Int×List Int)))) (x1:Int):Option (Bool):=
 if (decide (¬ (8:Int)=0))=true then
 if (decide ((0:Int)≤IntKind.wrap .i64 (Int.tdiv x1 8)))=true then
 Option.bind (x0.2.1[Int.toNat (IntKind.wrap .i64 (Int.tdiv x1 8))]?) fun r1=>
 if (decide (¬ (8:Int)=0))=true then
 if (decide ((0:Int)≤Int.tmod x1 8))=true then
 some (decide ((IntKind.wrap .u8 (((BitVec.ofInt (IntKind.bits .u8) (Int.fdiv r1 (2 ^ (min (Int.toNat (Int.tmod x1 8)) (IntKind.bits .u8)))) &&& BitVec.ofInt (IntKind.bits .u8) 1).toNat:Int)):Int)=1))
 else none
 else none
 else none
 else none
def Dn (x0:(List (List Int)×(List Int×(List Int×List Int)))) (x1:Int):Option (Bool):=
 Option.bind (α:=Bool) (
  Option.bind (BM x1 33 (IntKind.wrap .i64 (((List.length x0.1:Nat):Int) - 1))) fun c1=>
  if c1=true then
   Option.bind (Gh x0 x1) fun c2=>
   some c2
  else
  some false) fun v3=>
 some v3
def CW (x0:(List (List Int)×(List Int×(List Int×List Int)))) (x1:Int):Option (Bool):=
 Option.bind (α:=Bool) (
  Option.bind (Dn x0 x1) fun c1=>
  if c1=true then
   Option.bind (Bg x0.2.2.1 x1) fun c2=>
   some (!c2)
  else
  some false) fun v3=>
 some v3
def AP (y:(List Int×(Int×Int))):Option ((List Int×(Int×Int))⊕(Unit⊕Int)):=
 if (decide ((y.2.2:Int) < y.2.1))=true then
  if (decide ((0:Int)≤y.2.2))=true then
  Option.bind (y.1[Int.toNat y.2.2]?) fun r1=>
  Option.bind (H9 r1) fun c2=>
  if c2=true then
   some (.inr (.inr y.2.2))
  else
   some (.inl (y.1,y.2.1,IntKind.wrap .i64 (y.2.2+1)))
  else none
 else
  some (.inr (.inl ()))
def Bw (x0:List Int):Option (Int):=
 Option.bind (Ab AP (x0,((List.length x0:Nat):Int),0)) fun v3=>
 match v3 with
 | .inl y4=>
  some (-1)
 | .inr s5=>
  some s5
def AQ (x0:List Int):Option (Bool):=
 Option.bind (Bw x0) fun c1=>
 some (decide ((0:Int)≤c1))
def GZ (x0:(List (List Int)×(List Int×(List Int×List Int)))) (x1:Int):Option ((Bool×(Int×(Int×List UInt8)))):=
 Option.bind (α:=((List (List Int)×(List Int×(List Int×List Int)))×(Int×(Bool×(Int×(Int×List UInt8)))))) (
   Option.bind (CW x0 x1) fun c1=>
   if (!c1)=true then
    some (x0,x1,true,0,0,[])
   else
   if (decide ((0:Int)≤x1))=true then
   Option.bind (x0.1[Int.toNat x1]?) fun r2=>
   if (decide ((0:Int)≤0))=true then
   Option.bind (r2[Int.toNat 0]?) fun r3=>
   some (x0,x1,decide (¬ (r3:Int)=83),0,0,[])
   else none
   else none) fun v4=>
 if v4.2.2.1=true then
  some (false,0,0,[])
 else
 if (decide ((0:Int)≤v4.2.1))=true then
 Option.bind (v4.1.1[Int.toNat v4.2.1]?) fun r5=>
 if (decide ((0:Int)≤1))=true then
 Option.bind (r5[Int.toNat 1]?) fun r6=>
 if (decide ((0:Int)≤2))=true then
 Option.bind (r5[Int.toNat 2]?) fun r7=>
 Option.bind (α:=(Int×(List Int×(Int×(Int×(Bool×(Int×(Int×List UInt8)))))))) (
   Option.bind (BM (IntKind.wrap .i64 r6) 1 250) fun c8=>
   if (!c8)=true then
    some (v4.2.1,r5,IntKind.wrap .i64 r6,IntKind.wrap .i64 r7,true,v4.2.2.2.1,v4.2.2.2.2.1,v4.2.2.2.2.2)
   else
    Option.bind (BM (IntKind.wrap .i64 r7) 1 40) fun c9=>
    if (!c9)=true then
     some (v4.2.1,r5,IntKind.wrap .i64 r6,IntKind.wrap .i64 r7,true,v4.2.2.2.1,v4.2.2.2.2.1,v4.2.2.2.2.2)
    else
    if (decide ((0:Int)≤IntKind.wrap .i64 (3+(IntKind.wrap .i64 r7))))=true then
    if (decide ((IntKind.wrap .i64 (3+(IntKind.wrap .i64 r7)):Int)≤((List.length r5:Nat):Int)))=true then
    if (decide ((((List.length r5:Nat):Int):Int)≤((List.length r5:Nat):Int)))=true then
    if (decide ((((List.length r5:Nat):Int):Int)≤((List.length r5:Nat):Int)))=true then
    Option.bind (AQ ((List.drop (Int.toNat (IntKind.wrap .i64 (3+(IntKind.wrap .i64 r7)))) r5).take (Int.toNat ((List.length r5:Nat):Int) - Int.toNat (IntKind.wrap .i64 (3+(IntKind.wrap .i64 r7)))))) fun c10=>
    some (v4.2.1,r5,IntKind.wrap .i64 r6,IntKind.wrap .i64 r7,c10,v4.2.2.2.1,v4.2.2.2.2.1,v4.2.2.2.2.2)
    else none
    else none
    else none
    else none) fun v11=>
 if v11.2.2.2.2.1=true then
  some (false,0,0,[])
 else
 if (decide ((0:Int)≤3))=true then
 if (decide ((3:Int)≤IntKind.wrap .i64 (3+v11.2.2.2.1)))=true then
 if (decide ((IntKind.wrap .i64 (3+v11.2.2.2.1):Int)≤((List.length v11.2.1:Nat):Int)))=true then
 if (decide ((((List.length v11.2.1:Nat):Int):Int)≤((List.length v11.2.1:Nat):Int)))=true then
 some (true,v11.1,v11.2.2.1,Bu ((List.drop (Int.toNat 3) v11.2.1).take (Int.toNat (IntKind.wrap .i64 (3+v11.2.2.2.1)) - Int.toNat 3)))
 else none
 else none
 else none
 else none
 else none
 else none
 else none
def AN (y:(List Int×(Int×Int))):Option ((List Int×(Int×Int))⊕(Unit⊕Int)):=
 if (decide ((y.2.2:Int) < y.2.1))=true then
  if (decide ((0:Int)≤y.2.2))=true then
  Option.bind (y.1[Int.toNat y.2.2]?) fun r1=>
  Option.bind (Hf r1) fun c2=>
  if c2=true then
   some (.inr (.inr y.2.2))
  else
   some (.inl (y.1,y.2.1,IntKind.wrap .i64 (y.2.2+1)))
  else none
 else
  some (.inr (.inl ()))
def Bn (x0:List Int):Option (Int):=
 Option.bind (Ab AN (x0,((List.length x0:Nat):Int),0)) fun v3=>
 match v3 with
 | .inl y4=>
  some (-1)
 | .inr s5=>
  some s5
def AO (x0:List Int):Option (Bool):=
 Option.bind (Bn x0) fun c1=>
 some (decide ((0:Int)≤c1))
def Hl (x0:Int) (x1:Int) (x2:List UInt8) (x3:Int) (x4:Int) (x5:List UInt8):Option ((Bool×(Int×(Int×List UInt8)))):=
 some (decide ((x0:Int)=x3),x3,x4,x5)
def Aj (y:(List (Int×(Int×List UInt8))×(Int×(Int×(Int×(Int×List UInt8)))))):Option ((List (Int×(Int×List UInt8))×(Int×(Int×(Int×(Int×List UInt8)))))⊕((Int×(Int×List UInt8))⊕(Int×(Int×(Int×List UInt8))))):=
 if (decide ((y.2.2.1:Int) < y.2.1))=true then
  if (decide ((0:Int)≤y.2.2.1))=true then
  Option.bind (y.1[Int.toNat y.2.2.1]?) fun r1=>
  Option.bind (Hl r1.1 r1.2.1 r1.2.2 y.2.2.2.1 y.2.2.2.2.1 y.2.2.2.2.2) fun c2=>
  if c2.1=true then
   some (.inr (.inr (y.2.2.1,c2.2.1,c2.2.2.1,c2.2.2.2)))
  else
   some (.inl (y.1,y.2.1,IntKind.wrap .i64 (y.2.2.1+1),c2.2.1,c2.2.2.1,c2.2.2.2))
  else none
 else
  some (.inr (.inl (y.2.2.2.1,y.2.2.2.2.1,y.2.2.2.2.2)))
def Am (x0:List (Int×(Int×List UInt8))) (x1:Int) (x2:Int) (x3:List UInt8):Option ((Int×(Int×(Int×List UInt8)))):=
 Option.bind (Ab Aj (x0,((List.length x0:Nat):Int),0,x1,x2,x3)) fun v3=>
 match v3 with
 | .inl y4=>
  some ((-1),y4.1,y4.2.1,y4.2.2)
 | .inr s5=>
  some (s5.1,s5.2.1,s5.2.2.1,s5.2.2.2)
def Ah (x0:List (Int×(Int×List UInt8))) (x1:Int) (x2:Int) (x3:List UInt8):Option ((Bool×(Int×(Int×List UInt8)))):=
 Option.bind (Am x0 x1 x2 x3) fun c1=>
 some (decide ((0:Int)≤c1.1),c1.2.1,c1.2.2.1,c1.2.2.2)
def CM (y:((List (List Int)×(List Int×(List Int×List Int)))×(List Int×(Int×(List (Int×(Int×List UInt8))×(Int×Int)))))):Option (((List (List Int)×(List Int×(List Int×List Int)))×(List Int×(Int×(List (Int×(Int×List UInt8))×(Int×Int)))))⊕(List (Int×(Int×List UInt8))⊕Bool)):=
 if (decide ((y.2.2.2.2.2:Int) < y.2.2.2.2.1))=true then
  Option.bind (HN y.2.1 (IntKind.wrap .i64 (2+(IntKind.wrap .i64 (2 * y.2.2.2.2.2))))) fun c9=>
  Option.bind (GZ y.1 c9) fun c10=>
  Option.bind (α:=((List (List Int)×(List Int×(List Int×List Int)))×(List Int×(Int×(List (Int×(Int×List UInt8))×(Int×(Int×(Bool×(Int×(Int×List UInt8)))))))))) (
    if (!c10.1)=true then
     some (y.1,y.2.1,y.2.2.1,y.2.2.2.1,y.2.2.2.2.1,y.2.2.2.2.2,true,c10.2.1,c10.2.2.1,c10.2.2.2)
    else
    if (decide ((IntKind.wrap .i64 (y.2.2.2.2.2+1):Int) < y.2.2.1))=true then
     if (decide ((((List.length c10.2.2.2:Nat):Int):Int) < 40))=true then
      some (y.1,y.2.1,y.2.2.1,y.2.2.2.1,y.2.2.2.2.1,y.2.2.2.2.2,true,c10.2.1,c10.2.2.1,c10.2.2.2)
     else
      Option.bind (Ah y.2.2.2.1 c10.2.1 c10.2.2.1 c10.2.2.2) fun c11=>
      some (y.1,y.2.1,y.2.2.1,y.2.2.2.1,y.2.2.2.2.1,y.2.2.2.2.2,c11.1,c11.2.1,c11.2.2.1,c11.2.2.2)
    else
    Option.bind (Ah y.2.2.2.1 c10.2.1 c10.2.2.1 c10.2.2.2) fun c13=>
    some (y.1,y.2.1,y.2.2.1,y.2.2.2.1,y.2.2.2.2.1,y.2.2.2.2.2,c13.1,c13.2.1,c13.2.2.1,c13.2.2.2)) fun v14=>
  if v14.2.2.2.2.2.2.1=true then
   some (.inr (.inr false))
  else
  if (Aa (List.length v14.2.2.2.1+List.length ([(v14.2.2.2.2.2.2.2.1,(v14.2.2.2.2.2.2.2.2.1,v14.2.2.2.2.2.2.2.2.2))]:List (Int×(Int×List UInt8)))) 32)=true then
  some (.inl (v14.1,v14.2.1,v14.2.2.1,v14.2.2.2.1++([(v14.2.2.2.2.2.2.2.1,(v14.2.2.2.2.2.2.2.2.1,v14.2.2.2.2.2.2.2.2.2))]:List (Int×(Int×List UInt8))),v14.2.2.2.2.1,IntKind.wrap .i64 (v14.2.2.2.2.2.1+1)))
  else none
 else
  some (.inr (.inl y.2.2.2.1))
def F6 (x0:(List (List Int)×(List Int×(List Int×List Int)))) (x1:Int):Option ((List (Int×(Int×List UInt8))×Bool)):=
 Option.bind (α:=((List (List Int)×(List Int×(List Int×List Int)))×(Int×Bool))) (
   Option.bind (CW x0 x1) fun c1=>
   if (!c1)=true then
    some (x0,x1,true)
   else
   if (decide ((0:Int)≤x1))=true then
   Option.bind (x0.1[Int.toNat x1]?) fun r2=>
   if (decide ((0:Int)≤0))=true then
   Option.bind (r2[Int.toNat 0]?) fun r3=>
   some (x0,x1,decide (¬ (r3:Int)=84))
   else none
   else none) fun v4=>
 if v4.2.2=true then
  some ([],false)
 else
 if (decide ((0:Int)≤v4.2.1))=true then
 Option.bind (v4.1.1[Int.toNat v4.2.1]?) fun r5=>
 if (decide ((0:Int)≤1))=true then
 Option.bind (r5[Int.toNat 1]?) fun r6=>
 Option.bind (α:=((List (List Int)×(List Int×(List Int×List Int)))×(List Int×(Int×Bool)))) (
   if (decide ((3:Int) < (IntKind.wrap .i64 r6)))=true then
    some (v4.1,r5,IntKind.wrap .i64 r6,true)
   else
   if (decide ((0:Int)≤IntKind.wrap .i64 (2+(IntKind.wrap .i64 (2 * (IntKind.wrap .i64 r6))))))=true then
   if (decide ((IntKind.wrap .i64 (2+(IntKind.wrap .i64 (2 * (IntKind.wrap .i64 r6)))):Int)≤((List.length r5:Nat):Int)))=true then
   if (decide ((((List.length r5:Nat):Int):Int)≤((List.length r5:Nat):Int)))=true then
   if (decide ((((List.length r5:Nat):Int):Int)≤((List.length r5:Nat):Int)))=true then
   Option.bind (AO ((List.drop (Int.toNat (IntKind.wrap .i64 (2+(IntKind.wrap .i64 (2 * (IntKind.wrap .i64 r6)))))) r5).take (Int.toNat ((List.length r5:Nat):Int) - Int.toNat (IntKind.wrap .i64 (2+(IntKind.wrap .i64 (2 * (IntKind.wrap .i64 r6)))))))) fun c7=>
   some (v4.1,r5,IntKind.wrap .i64 r6,c7)
   else none
   else none
   else none
   else none) fun v8=>
 if v8.2.2.2=true then
  some ([],false)
 else
  Option.bind (Ab CM (v8.1,v8.2.1,v8.2.2.1,[],v8.2.2.1,0)) fun v15=>
  match v15 with
  | .inl y16=>
   some (y16,true)
  | .inr s17=>
   some ([],s17)
 else none
 else none
def Iq (y:(List UInt8×List (List UInt8))):Option ((List UInt8×List (List UInt8))⊕(List (List UInt8))):=
 if (!((y.1:List UInt8) == ([]:List UInt8)))=true then
  if (decide ((0:Int)≤0))=true then
  if (decide ((0:Int)≤(if (((List.length y.1:Nat):Int):Int) < 40 then ((List.length y.1:Nat):Int) else 40)))=true then
  if (decide (((if (((List.length y.1:Nat):Int):Int) < 40 then ((List.length y.1:Nat):Int) else 40):Int)≤((List.length y.1:Nat):Int)))=true then
  if (decide ((((List.length y.1:Nat):Int):Int)≤((List.length y.1:Nat):Int)))=true then
  if (Aa (List.length y.2+List.length ([((y.1:List UInt8).drop (Int.toNat 0)).take (Int.toNat (if (((List.length y.1:Nat):Int):Int) < 40 then ((List.length y.1:Nat):Int) else 40) - Int.toNat 0)]:List (List UInt8))) 16)=true then
  if (decide ((0:Int)≤(if (((List.length y.1:Nat):Int):Int) < 40 then ((List.length y.1:Nat):Int) else 40)))=true then
  if (decide (((if (((List.length y.1:Nat):Int):Int) < 40 then ((List.length y.1:Nat):Int) else 40):Int)≤((List.length y.1:Nat):Int)))=true then
  if (decide ((((List.length y.1:Nat):Int):Int)≤((List.length y.1:Nat):Int)))=true then
  if (decide ((((List.length y.1:Nat):Int):Int)≤((List.length y.1:Nat):Int)))=true then
  some (.inl (((y.1:List UInt8).drop (Int.toNat (if (((List.length y.1:Nat):Int):Int) < 40 then ((List.length y.1:Nat):Int) else 40))).take (Int.toNat ((List.length y.1:Nat):Int) - Int.toNat (if (((List.length y.1:Nat):Int):Int) < 40 then ((List.length y.1:Nat):Int) else 40)),y.2++([((y.1:List UInt8).drop (Int.toNat 0)).take (Int.toNat (if (((List.length y.1:Nat):Int):Int) < 40 then ((List.length y.1:Nat):Int) else 40) - Int.toNat 0)]:List (List UInt8))))
  else none
  else none
  else none
  else none
  else none
  else none
  else none
  else none
  else none
 else
  some (.inr y.2)
def Va (x0:List UInt8):Option (List (List UInt8)):=
 Option.bind (Ab Iq (x0,[])) fun v1=>
 some v1
def Do (y:(List (Int×(Int×List UInt8))×(List (Int×(Int×List UInt8))×(List Bool×(List (List UInt8)×(Int×Int)))))):Option ((List (Int×(Int×List UInt8))×(List (Int×(Int×List UInt8))×(List Bool×(List (List UInt8)×(Int×Int)))))⊕(List (Int×(Int×List UInt8))×List Bool)):=
 if (decide ((y.2.2.2.2.2:Int) < y.2.2.2.2.1))=true then
  if (decide ((0:Int)≤y.2.2.2.2.2))=true then
  if (decide ((y.2.2.2.2.2:Int) < ((List.length y.2.2.2.1:Nat):Int)))=true then
  Option.bind (y.2.2.2.1[0+Int.toNat y.2.2.2.2.2]?) fun r6=>
  Option.bind (α:=(List (Int×(Int×List UInt8))×(List (Int×(Int×List UInt8))×(List Bool×(Int×(List UInt8×(List (List UInt8)×(Int×(Int×Bool))))))))) (
   if (decide ((y.2.2.2.2.2:Int) < ((List.length y.1:Nat):Int)))=true then
    if (decide ((0:Int)≤y.2.2.2.2.2))=true then
    if (decide ((y.2.2.2.2.2:Int) < ((List.length y.1:Nat):Int)))=true then
    Option.bind (y.1[0+Int.toNat y.2.2.2.2.2]?) fun r7=>
    if ((r7.2.2:List UInt8) == r6)=true then
     if (decide ((0:Int)≤y.2.2.2.2.2))=true then
     if (decide ((y.2.2.2.2.2:Int) < ((List.length y.1:Nat):Int)))=true then
     Option.bind (y.1[0+Int.toNat y.2.2.2.2.2]?) fun r8=>
     some (y.1,y.2.1,y.2.2.1,y.2.2.2.2.2,r6,y.2.2.2.1,y.2.2.2.2.1,y.2.2.2.2.2,decide ((r8.2.1:Int) < 250))
     else none
     else none
    else
    some (y.1,y.2.1,y.2.2.1,y.2.2.2.2.2,r6,y.2.2.2.1,y.2.2.2.2.1,y.2.2.2.2.2,false)
    else none
    else none
   else
   some (y.1,y.2.1,y.2.2.1,y.2.2.2.2.2,r6,y.2.2.2.1,y.2.2.2.2.1,y.2.2.2.2.2,false)) fun v9=>
  Option.bind (α:=(List (Int×(Int×List UInt8))×(List (Int×(Int×List UInt8))×(List Bool×(List (List UInt8)×(Int×Int)))))) (
   if v9.2.2.2.2.2.2.2.2=true then
    if (decide ((0:Int)≤v9.2.2.2.1))=true then
    if (decide ((v9.2.2.2.1:Int) < ((List.length v9.1:Nat):Int)))=true then
    Option.bind (v9.1[0+Int.toNat v9.2.2.2.1]?) fun r10=>
    Option.bind (v9.1[0+Int.toNat v9.2.2.2.1]?) fun r11=>
    Option.bind (v9.1[0+Int.toNat v9.2.2.2.1]?) fun r12=>
    if (Aa (List.length v9.2.1+List.length ([(r10.1,(r11.2.1,r12.2.2))]:List (Int×(Int×List UInt8)))) 32)=true then
    if (Aa (List.length v9.2.2.1+List.length ([true]:List Bool)) 1)=true then
    some (v9.1,v9.2.1++([(r10.1,(r11.2.1,r12.2.2))]:List (Int×(Int×List UInt8))),v9.2.2.1++([true]:List Bool),v9.2.2.2.2.2.1,v9.2.2.2.2.2.2.1,v9.2.2.2.2.2.2.2.1)
    else none
    else none
    else none
    else none
   else
   if (Aa (List.length v9.2.1+List.length ([(0,(0,v9.2.2.2.2.1))]:List (Int×(Int×List UInt8)))) 32)=true then
   if (Aa (List.length v9.2.2.1+List.length ([false]:List Bool)) 1)=true then
   some (v9.1,v9.2.1++([(0,(0,v9.2.2.2.2.1))]:List (Int×(Int×List UInt8))),v9.2.2.1++([false]:List Bool),v9.2.2.2.2.2.1,v9.2.2.2.2.2.2.1,v9.2.2.2.2.2.2.2.1)
   else none
   else none) fun v13=>
  some (.inl (v13.1,v13.2.1,v13.2.2.1,v13.2.2.2.1,v13.2.2.2.2.1,IntKind.wrap .i64 (v13.2.2.2.2.2+1)))
  else none
  else none
 else
  some (.inr (y.2.1,y.2.2.1))
def EC (x0:(List (List Int)×(List Int×(List Int×List Int)))) (x1:List UInt8) (x2:Int):Option ((List (Int×(Int×List UInt8))×(List Bool×Bool))):=
 Option.bind (α:=(List UInt8×List (Int×(Int×List UInt8)))⊕Bool) (
   if (decide (¬ (x2:Int)=0))=true then
    Option.bind (F6 x0 x2) fun c1=>
    if (!c1.2)=true then
     some (.inr false)
    else
     some (.inl (x1,c1.1))
   else
    some (.inl (x1,[]))) fun v2=>
 match v2 with
 | .inl y3=>
  Option.bind (Va y3.1) fun c5=>
  Option.bind (Ab Do (y3.2,[],[],c5,((List.length c5:Nat):Int),0)) fun v14=>
  some (v14.1,v14.2,true)
 | .inr s4=>
  some ([],[],s4)
def B5 (y:(Int×(List Bool×(Int×Int)))):Option ((Int×(List Bool×(Int×Int)))⊕Int):=
 if (decide ((y.2.2.2:Int) < y.2.2.1))=true then
  if (decide ((0:Int)≤y.2.2.2))=true then
  if (decide ((y.2.2.2:Int) < ((List.length y.2.1:Nat):Int)))=true then
  Option.bind (y.2.1[0+Int.toNat y.2.2.2]?) fun r2=>
  Option.bind (α:=(Int×(List Bool×(Int×Int)))) (
   if (!r2)=true then
    some (IntKind.wrap .i64 (y.1+1),y.2.1,y.2.2.1,y.2.2.2)
   else
    some (y.1,y.2.1,y.2.2.1,y.2.2.2)) fun v3=>
  some (.inl (v3.1,v3.2.1,v3.2.2.1,IntKind.wrap .i64 (v3.2.2.2+1)))
  else none
  else none
 else
  some (.inr y.1)
def E2 (x0:(List (List Int)×(List Int×(List Int×List Int)))) (x1:List UInt8) (x2:Int):Option (Int):=
 Option.bind (EC x0 x1 x2) fun c1=>
 Option.bind (Ab B5 (1,c1.2.1,((List.length c1.2.1:Nat):Int),0)) fun v4=>
 some v4
def Hb (x0:Int):Option (Bool):=
 some (decide (¬ (x0:Int)=x0))
def H8 (x0:Int) (x1:Int):Option (Bool):=
 Option.bind (α:=Bool) (
  Option.bind (Hb x0) fun c1=>
  if c1=true then
   Option.bind (Hb x1) fun c2=>
   if (!c2)=true then
    some true
   else
   some (decide ((x0:Int) < x1))
  else
  some (decide ((x0:Int) < x1))) fun v3=>
 some v3
def E4 (x0:Int):Option (Bool):=
 some (decide (¬ (x0:Int)=x0))
def CI (y:(List Int×(Int×(Int×(Int×Int))))):Option ((List Int×(Int×(Int×(Int×Int))))⊕(List Int×(Int×(Int×Int)))):=
 if (decide ((y.2.2.2.1:Int) < y.2.2.2.2))=true then
  if (decide ((0:Int)≤1))=true then
  if (decide ((0:Int)≤IntKind.wrap .i64 (Int.fdiv (IntKind.wrap .u64 (IntKind.wrap .i64 (y.2.2.2.1+y.2.2.2.2))) (2 ^ (min (Int.toNat 1) (IntKind.bits .u64))))))=true then
  Option.bind (y.1[Int.toNat (IntKind.wrap .i64 (Int.fdiv (IntKind.wrap .u64 (IntKind.wrap .i64 (y.2.2.2.1+y.2.2.2.2))) (2 ^ (min (Int.toNat 1) (IntKind.bits .u64)))))]?) fun r1=>
  Option.bind (H8 r1 y.2.1) fun c2=>
  Option.bind (α:=(List Int×(Int×(Int×(Int×Int))))) (
   if c2=true then
    some (y.1,y.2.1,y.2.2.1,IntKind.wrap .i64 ((IntKind.wrap .i64 (Int.fdiv (IntKind.wrap .u64 (IntKind.wrap .i64 (y.2.2.2.1+y.2.2.2.2))) (2 ^ (min (Int.toNat 1) (IntKind.bits .u64)))))+1),y.2.2.2.2)
   else
    some (y.1,y.2.1,y.2.2.1,y.2.2.2.1,IntKind.wrap .i64 (Int.fdiv (IntKind.wrap .u64 (IntKind.wrap .i64 (y.2.2.2.1+y.2.2.2.2))) (2 ^ (min (Int.toNat 1) (IntKind.bits .u64)))))) fun v3=>
  some (.inl (v3.1,v3.2.1,v3.2.2.1,v3.2.2.2.1,v3.2.2.2.2))
  else none
  else none
 else
  some (.inr (y.1,y.2.1,y.2.2.1,y.2.2.2.1))
def B3 (x0:List Int) (x1:Int):Option ((Int×Bool)):=
 Option.bind (Ab CI (x0,x1,((List.length x0:Nat):Int),0,((List.length x0:Nat):Int))) fun v4=>
 Option.bind (α:=(Int×Bool)) (
  if (decide ((v4.2.2.2:Int) < v4.2.2.1))=true then
   if (decide ((0:Int)≤v4.2.2.2))=true then
   Option.bind (v4.1[Int.toNat v4.2.2.2]?) fun r5=>
   if (decide ((r5:Int)=v4.2.1))=true then
    some (v4.2.2.2,true)
   else
   if (decide ((0:Int)≤v4.2.2.2))=true then
   Option.bind (v4.1[Int.toNat v4.2.2.2]?) fun r6=>
   Option.bind (E4 r6) fun c7=>
   if c7=true then
    Option.bind (E4 v4.2.1) fun c8=>
    some (v4.2.2.2,c8)
   else
   some (v4.2.2.2,false)
   else none
   else none
  else
  some (v4.2.2.2,false)) fun v9=>
 some (v9.1,v9.2)
def EA (x0:List Int) (x1:Int) (x2:List Int):Option (List Int):=
 if 0≤x1∧x1.toNat≤x0.length∧x2≠[]∧(x0.length+x2.length) * 8≤140737488355328 then some (x0.take x1.toNat++(x2++x0.drop x1.toNat)) else none
def ET (x0:List Int) (x1:Int):Option (List Int):=
 Option.bind (B3 x0 x1) fun c1=>
 if c1.2=true then
  some x0
 else
  Option.bind (EA x0 c1.1 [x1]) fun c2=>
  some c2
def AW (x0:Int) (x1:List Int) (x2:List (List Int)) (x3:List Int) (x4:List Int) (x5:List Int):Option ((List (List Int)×(List Int×(List Int×List Int)))):=
 Option.bind (Au x1) fun c1=>
 if (decide ((0:Int)≤x0))=true then
 if (decide ((x0:Int) < ((List.length x2:Nat):Int)))=true then
 Option.bind (x2[0+Int.toNat x0]?) fun r2=>
 Option.bind (x2[0+Int.toNat x0]?) fun r3=>
 Option.bind (ET x5 x0) fun c4=>
 some (x2.set (0+Int.toNat x0) c1,x3,x4,c4)
 else none
 else none
def Eu (x0:Int) (x1:List (List Int)) (x2:List Int) (x3:List Int) (x4:List Int):Option ((Bool×(List (List Int)×(List Int×(List Int×List Int))))):=
 if (decide (¬ (8:Int)=0))=true then
 if (decide ((0:Int)≤IntKind.wrap .i64 (Int.tdiv x0 8)))=true then
 if (decide ((IntKind.wrap .i64 (Int.tdiv x0 8):Int) < ((List.length x2:Nat):Int)))=true then
 Option.bind (x2[0+Int.toNat (IntKind.wrap .i64 (Int.tdiv x0 8))]?) fun r1=>
 if (decide (¬ (8:Int)=0))=true then
 if (decide ((0:Int)≤Int.tmod x0 8))=true then
 some (decide ((IntKind.wrap .u8 (((BitVec.ofInt (IntKind.bits .u8) (Int.fdiv r1 (2 ^ (min (Int.toNat (Int.tmod x0 8)) (IntKind.bits .u8)))) &&& BitVec.ofInt (IntKind.bits .u8) 1).toNat:Int)):Int)=1),x1,x2,x3,x4)
 else none
 else none
 else none
 else none
 else none
def AZ (y:(Int×(Int×(List (List Int)×(List Int×(List Int×List Int)))))):Option ((Int×(Int×(List (List Int)×(List Int×(List Int×List Int)))))⊕((List (List Int)×(List Int×(List Int×List Int)))⊕(Int×(Bool×(List (List Int)×(List Int×(List Int×List Int))))))):=
 if (decide ((y.2.1:Int) < y.1))=true then
  Option.bind (Eu y.2.1 y.2.2.1 y.2.2.2.1 y.2.2.2.2.1 y.2.2.2.2.2) fun c1=>
  if (!c1.1)=true then
   if (decide (¬ (8:Int)=0))=true then
   if (decide ((0:Int)≤IntKind.wrap .i64 (Int.tdiv y.2.1 8)))=true then
   if (decide ((IntKind.wrap .i64 (Int.tdiv y.2.1 8):Int) < ((List.length c1.2.2.1:Nat):Int)))=true then
   Option.bind (c1.2.2.1[0+Int.toNat (IntKind.wrap .i64 (Int.tdiv y.2.1 8))]?) fun r2=>
   if (decide (¬ (8:Int)=0))=true then
   if (decide ((0:Int)≤Int.tmod y.2.1 8))=true then
   if (decide ((0:Int)≤IntKind.wrap .i64 (Int.tdiv y.2.1 8)))=true then
   if (decide ((IntKind.wrap .i64 (Int.tdiv y.2.1 8):Int) < ((List.length c1.2.2.1:Nat):Int)))=true then
   Option.bind (c1.2.2.1[0+Int.toNat (IntKind.wrap .i64 (Int.tdiv y.2.1 8))]?) fun r3=>
   Option.bind (c1.2.2.1[0+Int.toNat (IntKind.wrap .i64 (Int.tdiv y.2.1 8))]?) fun r4=>
   if (decide ((0:Int)≤128))=true then
   if (decide ((128:Int)≤128))=true then
   if (Aa (Int.toNat 128) 1)=true then
   Option.bind (AW y.2.1 (List.replicate (Int.toNat 128) (0:Int)) c1.2.1 (c1.2.2.1.set (0+Int.toNat (IntKind.wrap .i64 (Int.tdiv y.2.1 8))) (IntKind.wrap .u8 (((BitVec.ofInt (IntKind.bits .u8) r2 ||| BitVec.ofInt (IntKind.bits .u8) (IntKind.wrap .u8 (1 * 2 ^ (min (Int.toNat (Int.tmod y.2.1 8)) (IntKind.bits .u8))))).toNat:Int)))) c1.2.2.2.1 c1.2.2.2.2) fun c5=>
   some (.inr (.inr (y.2.1,true,c5.1,c5.2.1,c5.2.2.1,c5.2.2.2)))
   else none
   else none
   else none
   else none
   else none
   else none
   else none
   else none
   else none
   else none
  else
   some (.inl (y.1,IntKind.wrap .i64 (y.2.1+1),c1.2.1,c1.2.2.1,c1.2.2.2.1,c1.2.2.2.2))
 else
  some (.inr (.inl (y.2.2.1,y.2.2.2.1,y.2.2.2.2.1,y.2.2.2.2.2)))
def AE (x0:List (List Int)) (x1:List Int) (x2:List Int) (x3:List Int):Option ((Int×(Bool×(List (List Int)×(List Int×(List Int×List Int)))))):=
 Option.bind (Ab AZ (((List.length x0:Nat):Int),0,x0,x1,x2,x3)) fun v6=>
 match v6 with
 | .inl y7=>
  some (0,false,y7.1,y7.2.1,y7.2.2.1,y7.2.2.2)
 | .inr s8=>
  some (s8.1,s8.2.1,s8.2.2.1,s8.2.2.2.1,s8.2.2.2.2.1,s8.2.2.2.2.2)
def CJ (x0:List Int) (x1:Int):Option (List Int):=
 if (decide ((0:Int)≤IntKind.wrap .i64 (x1 - ((List.length x0:Nat):Int))))=true then
 if (Aa (List.length x0+List.length (List.replicate (Int.toNat (IntKind.wrap .i64 (x1 - ((List.length x0:Nat):Int)))) (0:Int))) 1)=true then
 some (x0++(List.replicate (Int.toNat (IntKind.wrap .i64 (x1 - ((List.length x0:Nat):Int)))) (0:Int)))
 else none
 else none
def Cp (x0:Int) (x1:Int) (x2:List UInt8) (x3:List (List Int)) (x4:List Int) (x5:List Int) (x6:List Int):Option ((List (List Int)×(List Int×(List Int×List Int)))):=
 if (Aa (List.length ([83,IntKind.wrap .u8 x1,IntKind.wrap .u8 ((List.length x2:Nat):Int)]:List Int)+List.length (AR x2)) 1)=true then
 Option.bind (CJ (([83,IntKind.wrap .u8 x1,IntKind.wrap .u8 ((List.length x2:Nat):Int)]:List Int)++(AR x2)) 128) fun c1=>
 Option.bind (AW x0 c1 x3 x4 x5 x6) fun c2=>
 some (c2.1,c2.2.1,c2.2.2.1,c2.2.2.2)
 else none
def F4 (x0:Int):Option (List Int):=
 if (decide ((0:Int)≤8))=true then
 some [IntKind.wrap .u8 (Int.fdiv x0 (2 ^ (min (Int.toNat 8) (IntKind.bits .i64)))),IntKind.wrap .u8 x0]
 else none
def Ax (y:(List Bool×(List Int×(List (Int×(Int×List UInt8))×(Int×(Int×(List (List Int)×(List Int×(List Int×List Int))))))))):Option ((List Bool×(List Int×(List (Int×(Int×List UInt8))×(Int×(Int×(List (List Int)×(List Int×(List Int×List Int))))))))⊕((List Int×(List (List Int)×(List Int×(List Int×List Int))))⊕(Int×(Bool×(List (List Int)×(List Int×(List Int×List Int))))))):=
 if (decide ((y.2.2.2.2.1:Int) < y.2.2.2.1))=true then
  if (decide ((0:Int)≤y.2.2.2.2.1))=true then
  if (decide ((y.2.2.2.2.1:Int) < ((List.length y.2.2.1:Nat):Int)))=true then
  Option.bind (y.2.2.1[0+Int.toNat y.2.2.2.2.1]?) fun r2=>
  Option.bind (y.2.2.1[0+Int.toNat y.2.2.2.2.1]?) fun r3=>
  Option.bind (y.2.2.1[0+Int.toNat y.2.2.2.2.1]?) fun r4=>
  if (decide ((0:Int)≤y.2.2.2.2.1))=true then
  if (decide ((y.2.2.2.2.1:Int) < ((List.length y.1:Nat):Int)))=true then
  Option.bind (y.1[0+Int.toNat y.2.2.2.2.1]?) fun r5=>
  Option.bind (α:=(List Bool×(List Int×(List (Int×(Int×List UInt8))×(Int×(Int×(Int×(Int×(List UInt8×(List (List Int)×(List Int×(List Int×List Int)))))))))))⊕(Int×(Bool×(List (List Int)×(List Int×(List Int×List Int)))))) (
    if (!r5)=true then
     Option.bind (AE y.2.2.2.2.2.1 y.2.2.2.2.2.2.1 y.2.2.2.2.2.2.2.1 y.2.2.2.2.2.2.2.2) fun c6=>
     if (!c6.2.1)=true then
      some (.inr (0,false,c6.2.2.1,c6.2.2.2.1,c6.2.2.2.2.1,c6.2.2.2.2.2))
     else
      some (.inl (y.1,y.2.1,y.2.2.1,y.2.2.2.1,y.2.2.2.2.1,c6.1,r3.2.1,r4.2.2,c6.2.2.1,c6.2.2.2.1,c6.2.2.2.2.1,c6.2.2.2.2.2))
    else
     some (.inl (y.1,y.2.1,y.2.2.1,y.2.2.2.1,y.2.2.2.2.1,r2.1,r3.2.1,r4.2.2,y.2.2.2.2.2.1,y.2.2.2.2.2.2.1,y.2.2.2.2.2.2.2.1,y.2.2.2.2.2.2.2.2))) fun v7=>
  match v7 with
  | .inl y8=>
   Option.bind (Cp y8.2.2.2.2.2.1 (IntKind.wrap .i64 (y8.2.2.2.2.2.2.1+1)) y8.2.2.2.2.2.2.2.1 y8.2.2.2.2.2.2.2.2.1 y8.2.2.2.2.2.2.2.2.2.1 y8.2.2.2.2.2.2.2.2.2.2.1 y8.2.2.2.2.2.2.2.2.2.2.2) fun c10=>
   Option.bind (F4 y8.2.2.2.2.2.1) fun c11=>
   if (Aa (List.length y8.2.1+List.length c11) 1)=true then
   some (.inl (y8.1,y8.2.1++c11,y8.2.2.1,y8.2.2.2.1,IntKind.wrap .i64 (y8.2.2.2.2.1+1),c10.1,c10.2.1,c10.2.2.1,c10.2.2.2))
   else none
  | .inr s9=>
   some (.inr (.inr (s9.1,s9.2.1,s9.2.2.1,s9.2.2.2.1,s9.2.2.2.2.1,s9.2.2.2.2.2)))
  else none
  else none
  else none
  else none
 else
  some (.inr (.inl (y.2.1,y.2.2.2.2.2.1,y.2.2.2.2.2.2.1,y.2.2.2.2.2.2.2.1,y.2.2.2.2.2.2.2.2)))
def BU (x0:List UInt8) (x1:Int) (x2:List (List Int)) (x3:List Int) (x4:List Int) (x5:List Int):Option ((Int×(Bool×(List (List Int)×(List Int×(List Int×List Int)))))):=
 Option.bind (EC (x2,(x3,(x4,x5))) x0 x1) fun c1=>
 Option.bind (Ab Ax (c1.2.1,[84,IntKind.wrap .u8 ((List.length c1.1:Nat):Int)],c1.1,((List.length c1.1:Nat):Int),0,x2,x3,x4,x5)) fun v12=>
 match v12 with
 | .inl y13=>
  Option.bind (AE y13.2.1 y13.2.2.1 y13.2.2.2.1 y13.2.2.2.2) fun c15=>
  if (!c15.2.1)=true then
   some (0,false,c15.2.2.1,c15.2.2.2.1,c15.2.2.2.2.1,c15.2.2.2.2.2)
  else
   Option.bind (CJ y13.1 128) fun c16=>
   Option.bind (AW c15.1 c16 c15.2.2.1 c15.2.2.2.1 c15.2.2.2.2.1 c15.2.2.2.2.2) fun c17=>
   some (c15.1,true,c17.1,c17.2.1,c17.2.2.1,c17.2.2.2)
 | .inr s14=>
  some (s14.1,s14.2.1,s14.2.2.1,s14.2.2.2.1,s14.2.2.2.2.1,s14.2.2.2.2.2)
def CP (x0:List UInt8) (x1:Int) (x2:List (List Int)) (x3:List Int) (x4:List Int) (x5:List Int) (x6:List (Int×Int)) (x7:Bool) (x8:Int) (x9:Bool):Option ((Int×(List (List Int)×(List Int×(List Int×(List Int×(List (Int×Int)×(Bool×(Int×Bool))))))))):=
 Option.bind (E2 (x2,(x3,(x4,x5))) x0 x1) fun c1=>
 if x9=true then
  some (33,x2,x3,x4,x5,x6,x7,IntKind.wrap .i64 (x8+c1),x9)
 else
 if x7=true then
  some (0,x2,x3,x4,x5,x6,x7,IntKind.wrap .i64 (x8+c1),x9)
 else
  Option.bind (BU x0 x1 x2 x3 x4 x5) fun c2=>
  some (c2.1,c2.2.2.1,c2.2.2.2.1,c2.2.2.2.2.1,c2.2.2.2.2.2,x6,(!c2.2.1),IntKind.wrap .i64 (x8+c1),x9)
def Ey (y:(List Int×(List (Int×Int)×(Int×Int)))):Option ((List Int×(List (Int×Int)×(Int×Int)))⊕(List Int)):=
 if (decide ((y.2.2.2:Int) < y.2.2.1))=true then
  if (decide ((0:Int)≤y.2.2.2))=true then
  Option.bind (y.2.1[Int.toNat y.2.2.2]?) fun r1=>
  if (Aa (List.length y.1+List.length ([IntKind.wrap .u8 r1.1,IntKind.wrap .u8 r1.2]:List Int)) 1)=true then
  some (.inl (y.1++([IntKind.wrap .u8 r1.1,IntKind.wrap .u8 r1.2]:List Int),y.2.1,y.2.2.1,IntKind.wrap .i64 (y.2.2.2+1)))
  else none
  else none
 else
  some (.inr y.1)
def IL (x0:List (Int×Int)):Option (List Int):=
 Option.bind (Ab Ey ([],x0,((List.length x0:Nat):Int),0)) fun v2=>
 some v2
def Ft (x0:Int):Option (Int):=
 if (decide (¬ (124:Int)=0))=true then
 some (if (IntKind.wrap .i64 (Int.tdiv (IntKind.wrap .i64 ((IntKind.wrap .i64 (x0+124)) - 1)) 124):Int) < 1 then 1 else IntKind.wrap .i64 (Int.tdiv (IntKind.wrap .i64 ((IntKind.wrap .i64 (x0+124)) - 1)) 124))
 else none
def Bc (y:(List Int×(Int×(Int×(List (List Int)×(List Int×(List Int×List Int))))))):Option ((List Int×(Int×(Int×(List (List Int)×(List Int×(List Int×List Int))))))⊕((List Int×(List (List Int)×(List Int×(List Int×List Int))))⊕(Bool×(List (List Int)×(List Int×(List Int×List Int)))))):=
 if (decide ((y.2.2.1:Int) < y.2.1))=true then
  Option.bind (AE y.2.2.2.1 y.2.2.2.2.1 y.2.2.2.2.2.1 y.2.2.2.2.2.2) fun c1=>
  if (!c1.2.1)=true then
   some (.inr (.inr (false,c1.2.2.1,c1.2.2.2.1,c1.2.2.2.2.1,c1.2.2.2.2.2)))
  else
  if (Aa (List.length y.1+List.length ([c1.1]:List Int)) 8)=true then
  some (.inl (y.1++([c1.1]:List Int),y.2.1,IntKind.wrap .i64 (y.2.2.1+1),c1.2.2.1,c1.2.2.2.1,c1.2.2.2.2.1,c1.2.2.2.2.2))
  else none
 else
  some (.inr (.inl (y.1,y.2.2.2.1,y.2.2.2.2.1,y.2.2.2.2.2.1,y.2.2.2.2.2.2)))
def Ez (x0:Int) (x1:List (List Int)) (x2:List Int) (x3:List Int) (x4:List Int):Option ((List Int×(Bool×(List (List Int)×(List Int×(List Int×List Int)))))):=
 Option.bind (Ab Bc ([],x0,0,x1,x2,x3,x4)) fun v2=>
 match v2 with
 | .inl y3=>
  some (y3.1,true,y3.2.1,y3.2.2.1,y3.2.2.2.1,y3.2.2.2.2)
 | .inr s4=>
  some ([],s4.1,s4.2.1,s4.2.2.1,s4.2.2.2.1,s4.2.2.2.2)
def BH (y:(List Int×(List Int×(Int×(Int×(List (List Int)×(List Int×(List Int×List Int)))))))):Option ((List Int×(List Int×(Int×(Int×(List (List Int)×(List Int×(List Int×List Int)))))))⊕(List Int×(List (List Int)×(List Int×(List Int×List Int))))):=
 if (decide ((y.2.2.2.1:Int) < y.2.2.1))=true then
  if (decide ((0:Int)≤y.2.2.2.1))=true then
  if (decide ((y.2.2.2.1:Int) < ((List.length y.2.1:Nat):Int)))=true then
  Option.bind (y.2.1[0+Int.toNat y.2.2.2.1]?) fun r3=>
  if (decide ((0:Int)≤IntKind.wrap .i64 (124 * y.2.2.2.1)))=true then
  if (decide ((IntKind.wrap .i64 (124 * y.2.2.2.1):Int)≤(if (((List.length y.1:Nat):Int):Int) < (IntKind.wrap .i64 (124 * (IntKind.wrap .i64 (y.2.2.2.1+1)))) then ((List.length y.1:Nat):Int) else IntKind.wrap .i64 (124 * (IntKind.wrap .i64 (y.2.2.2.1+1))))))=true then
  if (decide (((if (((List.length y.1:Nat):Int):Int) < (IntKind.wrap .i64 (124 * (IntKind.wrap .i64 (y.2.2.2.1+1)))) then ((List.length y.1:Nat):Int) else IntKind.wrap .i64 (124 * (IntKind.wrap .i64 (y.2.2.2.1+1)))):Int)≤((List.length y.1:Nat):Int)))=true then
  if (decide ((((List.length y.1:Nat):Int):Int)≤((List.length y.1:Nat):Int)))=true then
  Option.bind (α:=(List Int×(List Int×(Int×(List Int×(Int×(Int×(Int×(List (List Int)×(List Int×(List Int×List Int))))))))))) (
   if (decide ((IntKind.wrap .i64 (y.2.2.2.1+1):Int) < ((List.length y.2.1:Nat):Int)))=true then
    if (decide ((0:Int)≤IntKind.wrap .i64 (y.2.2.2.1+1)))=true then
    if (decide ((IntKind.wrap .i64 (y.2.2.2.1+1):Int) < ((List.length y.2.1:Nat):Int)))=true then
    Option.bind (y.2.1[0+Int.toNat (IntKind.wrap .i64 (y.2.2.2.1+1))]?) fun r4=>
    some (y.1,y.2.1,r3,(List.drop (Int.toNat (IntKind.wrap .i64 (124 * y.2.2.2.1))) y.1).take (Int.toNat (if (((List.length y.1:Nat):Int):Int) < (IntKind.wrap .i64 (124 * (IntKind.wrap .i64 (y.2.2.2.1+1)))) then ((List.length y.1:Nat):Int) else IntKind.wrap .i64 (124 * (IntKind.wrap .i64 (y.2.2.2.1+1)))) - Int.toNat (IntKind.wrap .i64 (124 * y.2.2.2.1))),r4,y.2.2.1,y.2.2.2.1,y.2.2.2.2.1,y.2.2.2.2.2.1,y.2.2.2.2.2.2.1,y.2.2.2.2.2.2.2)
    else none
    else none
   else
    some (y.1,y.2.1,r3,(List.drop (Int.toNat (IntKind.wrap .i64 (124 * y.2.2.2.1))) y.1).take (Int.toNat (if (((List.length y.1:Nat):Int):Int) < (IntKind.wrap .i64 (124 * (IntKind.wrap .i64 (y.2.2.2.1+1)))) then ((List.length y.1:Nat):Int) else IntKind.wrap .i64 (124 * (IntKind.wrap .i64 (y.2.2.2.1+1)))) - Int.toNat (IntKind.wrap .i64 (124 * y.2.2.2.1))),0,y.2.2.1,y.2.2.2.1,y.2.2.2.2.1,y.2.2.2.2.2.1,y.2.2.2.2.2.2.1,y.2.2.2.2.2.2.2)) fun v5=>
  Option.bind (F4 v5.2.2.2.2.1) fun c6=>
  if (Aa (List.length ([82]:List Int)+List.length c6) 1)=true then
  if (Aa (List.length (([82]:List Int)++c6)+List.length ([IntKind.wrap .u8 ((List.length v5.2.2.2.1:Nat):Int)]:List Int)) 1)=true then
  if (Aa (List.length ((([82]:List Int)++c6)++([IntKind.wrap .u8 ((List.length v5.2.2.2.1:Nat):Int)]:List Int))+List.length v5.2.2.2.1) 1)=true then
  Option.bind (CJ (((([82]:List Int)++c6)++([IntKind.wrap .u8 ((List.length v5.2.2.2.1:Nat):Int)]:List Int))++v5.2.2.2.1) 128) fun c7=>
  Option.bind (AW v5.2.2.1 c7 v5.2.2.2.2.2.2.2.1 v5.2.2.2.2.2.2.2.2.1 v5.2.2.2.2.2.2.2.2.2.1 v5.2.2.2.2.2.2.2.2.2.2) fun c8=>
  some (.inl (v5.1,v5.2.1,v5.2.2.2.2.2.1,IntKind.wrap .i64 (v5.2.2.2.2.2.2.1+1),c8.1,c8.2.1,c8.2.2.1,c8.2.2.2))
  else none
  else none
  else none
  else none
  else none
  else none
  else none
  else none
  else none
 else
  some (.inr (y.2.1,y.2.2.2.2.1,y.2.2.2.2.2.1,y.2.2.2.2.2.2.1,y.2.2.2.2.2.2.2))
def BE (x0:List Int) (x1:List (List Int)) (x2:List Int) (x3:List Int) (x4:List Int):Option ((Int×(Bool×(List (List Int)×(List Int×(List Int×List Int)))))):=
 Option.bind (Ft ((List.length x0:Nat):Int)) fun c1=>
 Option.bind (Ez c1 x1 x2 x3 x4) fun c2=>
 if (!c2.2.1)=true then
  some (0,false,c2.2.2.1,c2.2.2.2.1,c2.2.2.2.2.1,c2.2.2.2.2.2)
 else
  Option.bind (Ab BH (x0,c2.1,((List.length c2.1:Nat):Int),0,c2.2.2.1,c2.2.2.2.1,c2.2.2.2.2.1,c2.2.2.2.2.2)) fun v9=>
  if (decide ((0:Int)≤0))=true then
  if (decide ((0:Int) < ((List.length v9.1:Nat):Int)))=true then
  Option.bind (v9.1[0+Int.toNat 0]?) fun r10=>
  some (r10,true,v9.2.1,v9.2.2.1,v9.2.2.2.1,v9.2.2.2.2)
  else none
  else none
def Br (x0:Int) (x1:List Int) (x2:List (List Int)) (x3:List Int) (x4:List Int) (x5:List Int) (x6:List (Int×Int)) (x7:Bool) (x8:Int) (x9:Bool):Option ((List (List Int)×(List Int×(List Int×(List Int×(List (Int×Int)×(Bool×(Int×Bool)))))))):=
 Option.bind (Ft ((List.length x1:Nat):Int)) fun c1=>
 if x9=true then
  if (Aa (List.length x6+List.length ([(x0,33)]:List (Int×Int))) 16)=true then
  some (x2,x3,x4,x5,x6++([(x0,33)]:List (Int×Int)),x7,IntKind.wrap .i64 (x8+c1),x9)
  else none
 else
 if x7=true then
  some (x2,x3,x4,x5,x6,x7,IntKind.wrap .i64 (x8+c1),x9)
 else
  Option.bind (BE x1 x2 x3 x4 x5) fun c2=>
  if (Aa (List.length x6+List.length ([(x0,c2.1)]:List (Int×Int))) 16)=true then
  some (c2.2.2.1,c2.2.2.2.1,c2.2.2.2.2.1,c2.2.2.2.2.2,x6++([(x0,c2.1)]:List (Int×Int)),(!c2.2.1),IntKind.wrap .i64 (x8+c1),x9)
  else none
def Mp (x0:Int):Option (Bool):=
 some (decide (¬ (x0:Int)=0))
def Ek (y:(List Int×(Int×Int))):Option ((List Int×(Int×Int))⊕(Unit⊕Int)):=
 if (decide ((y.2.2:Int) < y.2.1))=true then
  if (decide ((0:Int)≤y.2.2))=true then
  Option.bind (y.1[Int.toNat y.2.2]?) fun r1=>
  Option.bind (Mp r1) fun c2=>
  if c2=true then
   some (.inr (.inr y.2.2))
  else
   some (.inl (y.1,y.2.1,IntKind.wrap .i64 (y.2.2+1)))
  else none
 else
  some (.inr (.inl ()))
def Cy (x0:List Int):Option (Int):=
 Option.bind (Ab Ek (x0,((List.length x0:Nat):Int),0)) fun v3=>
 match v3 with
 | .inl y4=>
  some (-1)
 | .inr s5=>
  some s5
def Cb (x0:List Int):Option (Bool):=
 Option.bind (Cy x0) fun c1=>
 some (decide ((0:Int)≤c1))
def Rd (y:(List Int×(List Int×Int))):Option ((List Int×(List Int×Int))⊕(List Int)):=
 if (decide ((y.2.2:Int) < 32))=true then
  Option.bind (HN y.1 (IntKind.wrap .i64 (1+(IntKind.wrap .i64 (2 * y.2.2))))) fun c7=>
  if (Aa (List.length y.2.1+List.length ([c7]:List Int)) 8)=true then
  some (.inl (y.1,y.2.1++([c7]:List Int),IntKind.wrap .i64 (y.2.2+1)))
  else none
 else
  some (.inr y.2.1)
def Kk (x0:(List (List Int)×(List Int×(List Int×List Int)))) (x1:Int) (x2:Int):Option ((List Int×Bool)):=
 Option.bind (α:=((List (List Int)×(List Int×(List Int×List Int)))×(Int×Bool))) (
   Option.bind (CW x0 x1) fun c1=>
   if (!c1)=true then
    some (x0,x1,true)
   else
   if (decide ((0:Int)≤x1))=true then
   Option.bind (x0.1[Int.toNat x1]?) fun r2=>
   if (decide ((0:Int)≤0))=true then
   Option.bind (r2[Int.toNat 0]?) fun r3=>
   some (x0,x1,decide (¬ (r3:Int)=x2))
   else none
   else none) fun v4=>
 if v4.2.2=true then
  some ([],false)
 else
 if (decide ((0:Int)≤v4.2.1))=true then
 Option.bind (v4.1.1[Int.toNat v4.2.1]?) fun r5=>
 if (decide ((0:Int)≤65))=true then
 if (decide ((65:Int)≤((List.length r5:Nat):Int)))=true then
 if (decide ((((List.length r5:Nat):Int):Int)≤((List.length r5:Nat):Int)))=true then
 if (decide ((((List.length r5:Nat):Int):Int)≤((List.length r5:Nat):Int)))=true then
 Option.bind (Cb ((List.drop (Int.toNat 65) r5).take (Int.toNat ((List.length r5:Nat):Int) - Int.toNat 65))) fun c6=>
 if c6=true then
  some ([],false)
 else
  Option.bind (Ab Rd (r5,[],0)) fun v8=>
  some (v8,true)
 else none
 else none
 else none
 else none
 else none
def LK (x0:Int):Option (Bool):=
 some (decide (¬ (x0:Int)=0))
def A8 (y:(List Int×(Int×Int))):Option ((List Int×(Int×Int))⊕(Unit⊕Int)):=
 if (decide ((y.2.2:Int) < y.2.1))=true then
  if (decide ((0:Int)≤y.2.2))=true then
  Option.bind (y.1[Int.toNat y.2.2]?) fun r1=>
  Option.bind (LK r1) fun c2=>
  if c2=true then
   some (.inr (.inr y.2.2))
  else
   some (.inl (y.1,y.2.1,IntKind.wrap .i64 (y.2.2+1)))
  else none
 else
  some (.inr (.inl ()))
def BK (x0:List Int):Option (Int):=
 Option.bind (Ab A8 (x0,((List.length x0:Nat):Int),0)) fun v3=>
 match v3 with
 | .inl y4=>
  some (-1)
 | .inr s5=>
  some s5
def BB (x0:List Int):Option (Bool):=
 Option.bind (BK x0) fun c1=>
 some (decide ((0:Int)≤c1))
def Dc (x0:List Int):Option (Bool):=
 Option.bind (BB x0) fun c1=>
 some (!c1)
def Mx (x0:Int) (x1:(Option (List (List Int)×(List Int×(List Int×List Int))))):Option ((Bool×(Option (List (List Int)×(List Int×(List Int×List Int)))))):=
 Option.bind (α:=(Bool×(Option (List (List Int)×(List Int×(List Int×List Int)))))) (
  if (decide (¬ (x0:Int)=0))=true then
   Option.bind (x1) fun p1=>
   Option.bind (Dn p1 x0) fun c2=>
   some ((!c2),x1)
  else
  some (false,x1)) fun v3=>
 some (v3.1,v3.2)
def Eg (y:(List Int×(Int×(Int×(Option (List (List Int)×(List Int×(List Int×List Int)))))))):Option ((List Int×(Int×(Int×(Option (List (List Int)×(List Int×(List Int×List Int)))))))⊕((List Int×(Option (List (List Int)×(List Int×(List Int×List Int)))))⊕(List Int×(Int×(Option (List (List Int)×(List Int×(List Int×List Int)))))))):=
 if (decide ((y.2.2.1:Int) < y.2.1))=true then
  if (decide ((0:Int)≤y.2.2.1))=true then
  if (decide ((y.2.2.1:Int) < ((List.length y.1:Nat):Int)))=true then
  Option.bind (y.1[0+Int.toNat y.2.2.1]?) fun r1=>
  Option.bind (Mx r1 y.2.2.2) fun c2=>
  if c2.1=true then
   some (.inr (.inr (y.1,y.2.2.1,c2.2)))
  else
   some (.inl (y.1,y.2.1,IntKind.wrap .i64 (y.2.2.1+1),c2.2))
  else none
  else none
 else
  some (.inr (.inl (y.1,y.2.2.2)))
def CA (x0:List Int) (x1:(Option (List (List Int)×(List Int×(List Int×List Int))))):Option ((List Int×(Int×(Option (List (List Int)×(List Int×(List Int×List Int))))))):=
 Option.bind (Ab Eg (x0,((List.length x0:Nat):Int),0,x1)) fun v3=>
 match v3 with
 | .inl y4=>
  some (y4.1,(-1),y4.2)
 | .inr s5=>
  some (s5.1,s5.2.1,s5.2.2)
def Ca (x0:List Int) (x1:(Option (List (List Int)×(List Int×(List Int×List Int))))):Option ((List Int×(Bool×(Option (List (List Int)×(List Int×(List Int×List Int))))))):=
 Option.bind (CA x0 x1) fun c1=>
 some (c1.1,decide ((0:Int)≤c1.2.1),c1.2.2)
def D6 (y:(Int×(Int×(Int×((Option (List (List Int)×(List Int×(List Int×List Int))))×(Int×(Int×(List Int×List (List Int))))))))):Option ((Int×(Int×(Int×((Option (List (List Int)×(List Int×(List Int×List Int))))×(Int×(Int×(List Int×List (List Int))))))))⊕(Int×((Option (List (List Int)×(List Int×(List Int×List Int))))×(Int×(Int×(List Int×List (List Int))))))):=
 if (decide ((y.2.2.1:Int) < y.2.1))=true then
  if (decide ((0:Int)≤32))=true then
  if (decide ((32:Int)≤32))=true then
  if (Aa (Int.toNat 32) 8)=true then
  if (decide ((0:Int)≤y.2.2.1))=true then
  if (decide ((y.2.2.1:Int) < ((List.length y.2.2.2.2.2.2.2:Nat):Int)))=true then
  Option.bind (y.2.2.2.2.2.2.2[0+Int.toNat y.2.2.1]?) fun r1=>
  Option.bind (y.2.2.2.2.2.2.2[0+Int.toNat y.2.2.1]?) fun r2=>
  some (.inl (y.1,y.2.1,IntKind.wrap .i64 (y.2.2.1+1),y.2.2.2.1,y.2.2.2.2.1,y.2.2.2.2.2.1,y.2.2.2.2.2.2.1,y.2.2.2.2.2.2.2.set (0+Int.toNat y.2.2.1) (List.replicate (Int.toNat 32) (0:Int))))
  else none
  else none
  else none
  else none
  else none
 else
  some (.inr (y.1,y.2.2.2.1,y.2.2.2.2.1,y.2.2.2.2.2.1,y.2.2.2.2.2.2.1,y.2.2.2.2.2.2.2))
def RK (y:(List Int×(Int×(Int×((Option (List (List Int)×(List Int×(List Int×List Int))))×(Int×(Int×(List Int×List (List Int))))))))):Option ((List Int×(Int×(Int×((Option (List (List Int)×(List Int×(List Int×List Int))))×(Int×(Int×(List Int×List (List Int))))))))⊕((Int×(Int×(List Int×List (List Int))))⊕(Bool×Int))):=
 if (decide ((y.2.2.1:Int) < y.2.1))=true then
  Option.bind (α:=(List Int×(Int×(Int×((Option (List (List Int)×(List Int×(List Int×List Int))))×(Int×(Int×(List Int×List (List Int))))))))⊕(Bool×Int)) (
    if (decide ((0:Int)≤y.2.2.1))=true then
    if (decide ((y.2.2.1:Int) < ((List.length y.1:Nat):Int)))=true then
    Option.bind (y.1[0+Int.toNat y.2.2.1]?) fun r8=>
    if (decide ((r8:Int)=0))=true then
     some (.inl (y.1,y.2.1,y.2.2.1,y.2.2.2.1,y.2.2.2.2.1,y.2.2.2.2.2.1,y.2.2.2.2.2.2.1,y.2.2.2.2.2.2.2))
    else
     Option.bind (y.2.2.2.1) fun p9=>
     Option.bind (Kk p9 r8 81) fun c10=>
     Option.bind (α:=(List Int×(Int×(Int×(List Int×(Int×(Int×(Bool×((Option (List (List Int)×(List Int×(List Int×List Int))))×(Int×(Int×(List Int×List (List Int))))))))))))) (
       if (!c10.2)=true then
        some (y.1,y.2.2.1,r8,c10.1,y.2.1,y.2.2.1,true,y.2.2.2.1,y.2.2.2.2.1,y.2.2.2.2.2.1,y.2.2.2.2.2.2.1,y.2.2.2.2.2.2.2)
       else
        Option.bind (Dc c10.1) fun c11=>
        if c11=true then
         some (y.1,y.2.2.1,r8,c10.1,y.2.1,y.2.2.1,true,y.2.2.2.1,y.2.2.2.2.1,y.2.2.2.2.2.1,y.2.2.2.2.2.2.1,y.2.2.2.2.2.2.2)
        else
        if (decide ((0:Int)≤0))=true then
        if (decide ((0:Int)≤y.2.2.1))=true then
        if (decide ((y.2.2.1:Int)≤((List.length y.1:Nat):Int)))=true then
        if (decide ((((List.length y.1:Nat):Int):Int)≤((List.length y.1:Nat):Int)))=true then
        Option.bind (Bg ((y.1.drop (Int.toNat 0)).take (Int.toNat y.2.2.1 - Int.toNat 0)) r8) fun c12=>
        if c12=true then
         some (y.1,y.2.2.1,r8,c10.1,y.2.1,y.2.2.1,true,y.2.2.2.1,y.2.2.2.2.1,y.2.2.2.2.2.1,y.2.2.2.2.2.2.1,y.2.2.2.2.2.2.2)
        else
         Option.bind (Ca c10.1 y.2.2.2.1) fun c13=>
         some (y.1,y.2.2.1,r8,c13.1,y.2.1,y.2.2.1,c13.2.1,c13.2.2,y.2.2.2.2.1,y.2.2.2.2.2.1,y.2.2.2.2.2.2.1,y.2.2.2.2.2.2.2)
        else none
        else none
        else none
        else none) fun v14=>
     if v14.2.2.2.2.2.2.1=true then
      some (.inr (false,0))
     else
     if (decide ((0:Int)≤v14.2.1))=true then
     if (decide ((v14.2.1:Int) < ((List.length v14.2.2.2.2.2.2.2.2.2.2.1:Nat):Int)))=true then
     Option.bind (v14.2.2.2.2.2.2.2.2.2.2.1[0+Int.toNat v14.2.1]?) fun r15=>
     Option.bind (v14.2.2.2.2.2.2.2.2.2.2.1[0+Int.toNat v14.2.1]?) fun r16=>
     if (decide ((0:Int)≤v14.2.1))=true then
     if (decide ((v14.2.1:Int) < ((List.length v14.2.2.2.2.2.2.2.2.2.2.2:Nat):Int)))=true then
     Option.bind (v14.2.2.2.2.2.2.2.2.2.2.2[0+Int.toNat v14.2.1]?) fun r17=>
     Option.bind (v14.2.2.2.2.2.2.2.2.2.2.2[0+Int.toNat v14.2.1]?) fun r18=>
     some (.inl (v14.1,v14.2.2.2.2.1,v14.2.2.2.2.2.1,v14.2.2.2.2.2.2.2.1,v14.2.2.2.2.2.2.2.2.1,v14.2.2.2.2.2.2.2.2.2.1,v14.2.2.2.2.2.2.2.2.2.2.1.set (0+Int.toNat v14.2.1) v14.2.2.1,v14.2.2.2.2.2.2.2.2.2.2.2.set (0+Int.toNat v14.2.1) v14.2.2.2.1))
     else none
     else none
     else none
     else none
    else none
    else none) fun v19=>
  match v19 with
  | .inl y20=>
   some (.inl (y20.1,y20.2.1,IntKind.wrap .i64 (y20.2.2.1+1),y20.2.2.2.1,y20.2.2.2.2.1,y20.2.2.2.2.2.1,y20.2.2.2.2.2.2.1,y20.2.2.2.2.2.2.2))
  | .inr s21=>
   some (.inr (.inr (s21.1,s21.2)))
 else
  some (.inr (.inl (y.2.2.2.2.1,y.2.2.2.2.2.1,y.2.2.2.2.2.2.1,y.2.2.2.2.2.2.2)))
def HY (x0:(List (List Int)×(List Int×(List Int×List Int)))) (x1:Int):Option ((Bool×(Int×(List Int×List (List Int))))):=
 if (decide ((0:Int)≤32))=true then
 if (decide ((32:Int)≤32))=true then
 if (Aa (Int.toNat 32) 8)=true then
 if (decide ((0:Int)≤32))=true then
 if (decide ((32:Int)≤32))=true then
 if (Aa (Int.toNat 32) 24)=true then
 Option.bind (Ab D6 (x1,((List.length (List.replicate (Int.toNat 32) ([]:List Int)):Nat):Int),0,some x0,0,x1,List.replicate (Int.toNat 32) (0:Int),List.replicate (Int.toNat 32) ([]:List Int))) fun v3=>
 if (decide ((v3.1:Int)=0))=true then
  some (true,v3.2.2.2.1,v3.2.2.2.2.1,v3.2.2.2.2.2)
 else
  Option.bind (v3.2.1) fun p4=>
  Option.bind (Kk p4 v3.1 80) fun c5=>
  Option.bind (α:=(List Int×(Bool×((Option (List (List Int)×(List Int×(List Int×List Int))))×(Int×(Int×(List Int×List (List Int)))))))) (
    if (!c5.2)=true then
     some (c5.1,true,v3.2.1,v3.2.2.1,v3.2.2.2.1,v3.2.2.2.2.1,v3.2.2.2.2.2)
    else
     Option.bind (Dc c5.1) fun c6=>
     some (c5.1,c6,v3.2.1,v3.2.2.1,v3.2.2.2.1,v3.2.2.2.2.1,v3.2.2.2.2.2)) fun v7=>
  if v7.2.1=true then
   some (false,0,[],[])
  else
   Option.bind (Ab RK (v7.1,((List.length v7.1:Nat):Int),0,v7.2.2.1,v7.2.2.2.1,v7.2.2.2.2.1,v7.2.2.2.2.2.1,v7.2.2.2.2.2.2)) fun v22=>
   match v22 with
   | .inl y23=>
    some (true,y23.2.1,y23.2.2.1,y23.2.2.2)
   | .inr s24=>
    some (s24.1,s24.2,[],[])
 else none
 else none
 else none
 else none
 else none
 else none
def Af (x0:List (Int×Int)):Option (List (Int×Int)):=
 if x0.length < 4611686018427387904∧(∀ p∈x0,0≤p.1∧p.1 < 2147483648)∧(x0.map (·.1)).Nodup then some (x0.mergeSort fun a b=>decide (a.1≤b.1)) else none
def BT (x0:List Int):Option (List Int):=
 Option.bind (α:=List Int) (H3 (List.isEmpty x0) (
  some []) (
  if (Aa (List.length ([]:List Int)+List.length x0) 8)=true then
  some (([]:List Int)++x0)
  else none)) fun v1=>
 some v1
def DA (y:(List (Int×Int)×(Int×(Bool×(Int×(List Int×(Bool×(Int×(List (Int×Int)×(Int×(Int×(Int×(List Int×List (List Int)))))))))))))):Option ((List (Int×Int)×(Int×(Bool×(Int×(List Int×(Bool×(Int×(List (Int×Int)×(Int×(Int×(Int×(List Int×List (List Int)))))))))))))⊕(List (Int×Int)×(Int×(Bool×(List Int×(Bool×(Int×(Int×(List Int×List (List Int)))))))))):=
 if (decide ((y.2.2.2.2.2.2.2.2.2.1:Int) < y.2.2.2.2.2.2.2.2.1))=true then
  if (decide ((0:Int)≤y.2.2.2.2.2.2.2.2.2.1))=true then
  Option.bind (y.2.2.2.2.2.2.2.1[Int.toNat y.2.2.2.2.2.2.2.2.2.1]?) fun r3=>
  if (decide (¬ (32:Int)=0))=true then
  Option.bind (α:=(List (Int×Int)×(Int×(Bool×(Int×(List Int×(Bool×(Int×(List (Int×Int)×(Int×(Int×(Int×(List Int×List (List Int)))))))))))))) (
   if (decide ((IntKind.wrap .i64 (Int.tdiv r3.1 32):Int)=y.2.2.2.1))=true then
    if (decide (¬ (32:Int)=0))=true then
    if (decide ((0:Int)≤Int.tmod r3.1 32))=true then
    if (decide ((Int.tmod r3.1 32:Int) < ((List.length y.2.2.2.2.1:Nat):Int)))=true then
    Option.bind (y.2.2.2.2.1[0+Int.toNat (Int.tmod r3.1 32)]?) fun r4=>
    Option.bind (y.2.2.2.2.1[0+Int.toNat (Int.tmod r3.1 32)]?) fun r5=>
    some (y.1,y.2.1,y.2.2.1,y.2.2.2.1,y.2.2.2.2.1.set (0+Int.toNat (Int.tmod r3.1 32)) r3.2,true,y.2.2.2.2.2.2.1,y.2.2.2.2.2.2.2.1,y.2.2.2.2.2.2.2.2.1,y.2.2.2.2.2.2.2.2.2.1,y.2.2.2.2.2.2.2.2.2.2.1,y.2.2.2.2.2.2.2.2.2.2.2.1,y.2.2.2.2.2.2.2.2.2.2.2.2)
    else none
    else none
    else none
   else
    some (y.1,y.2.1,y.2.2.1,y.2.2.2.1,y.2.2.2.2.1,y.2.2.2.2.2.1,y.2.2.2.2.2.2.1,y.2.2.2.2.2.2.2.1,y.2.2.2.2.2.2.2.2.1,y.2.2.2.2.2.2.2.2.2.1,y.2.2.2.2.2.2.2.2.2.2.1,y.2.2.2.2.2.2.2.2.2.2.2.1,y.2.2.2.2.2.2.2.2.2.2.2.2)) fun v6=>
  some (.inl (v6.1,v6.2.1,v6.2.2.1,v6.2.2.2.1,v6.2.2.2.2.1,v6.2.2.2.2.2.1,v6.2.2.2.2.2.2.1,v6.2.2.2.2.2.2.2.1,v6.2.2.2.2.2.2.2.2.1,IntKind.wrap .i64 (v6.2.2.2.2.2.2.2.2.2.1+1),v6.2.2.2.2.2.2.2.2.2.2.1,v6.2.2.2.2.2.2.2.2.2.2.2.1,v6.2.2.2.2.2.2.2.2.2.2.2.2))
  else none
  else none
 else
  some (.inr (y.1,y.2.1,y.2.2.1,y.2.2.2.2.1,y.2.2.2.2.2.1,y.2.2.2.2.2.2.1,y.2.2.2.2.2.2.2.2.2.2.1,y.2.2.2.2.2.2.2.2.2.2.2.1,y.2.2.2.2.2.2.2.2.2.2.2.2))
def EB (y:(List (Int×Int)×(Int×(Bool×(Int×(Int×(List Int×List (List Int)))))))):Option ((List (Int×Int)×(Int×(Bool×(Int×(Int×(List Int×List (List Int)))))))⊕(Int×Bool)):=
 if (decide ((y.2.2.2.1:Int) < 32))=true then
  if (decide ((0:Int)≤y.2.2.2.1))=true then
  Option.bind (y.2.2.2.2.2.2[Int.toNat y.2.2.2.1]?) fun r1=>
  Option.bind (BT r1) fun c2=>
  Option.bind (Ab DA (y.1,y.2.1,y.2.2.1,y.2.2.2.1,c2,false,y.2.2.2.1,y.1,((List.length y.1:Nat):Int),0,y.2.2.2.2.1,y.2.2.2.2.2.1,y.2.2.2.2.2.2)) fun v7=>
  Option.bind (α:=(List (Int×Int)×(Int×(Bool×(List Int×(Bool×(Int×(Int×(List Int×List (List Int)))))))))) (
   if v7.2.2.1=true then
    some (v7.1,v7.2.1,true,v7.2.2.2.1,v7.2.2.2.2.1,v7.2.2.2.2.2.1,v7.2.2.2.2.2.2.1,v7.2.2.2.2.2.2.2.1,v7.2.2.2.2.2.2.2.2)
   else
    Option.bind (Dc v7.2.2.2.1) fun c8=>
    some (v7.1,v7.2.1,(!c8),v7.2.2.2.1,v7.2.2.2.2.1,v7.2.2.2.2.2.1,v7.2.2.2.2.2.2.1,v7.2.2.2.2.2.2.2.1,v7.2.2.2.2.2.2.2.2)) fun v9=>
  Option.bind (α:=(List (Int×Int)×(Int×(Bool×(Int×(Bool×(Int×(List Int×List (List Int))))))))) (
   if v9.2.2.2.2.1=true then
    Option.bind (Dc v9.2.2.2.1) fun c10=>
    some (v9.1,v9.2.1,v9.2.2.1,v9.2.2.2.2.2.1,(!c10),v9.2.2.2.2.2.2.1,v9.2.2.2.2.2.2.2.1,v9.2.2.2.2.2.2.2.2)
   else
   some (v9.1,v9.2.1,v9.2.2.1,v9.2.2.2.2.2.1,false,v9.2.2.2.2.2.2.1,v9.2.2.2.2.2.2.2.1,v9.2.2.2.2.2.2.2.2)) fun v11=>
  Option.bind (α:=(List (Int×Int)×(Int×(Bool×(Int×(Int×(List Int×List (List Int)))))))) (
   if v11.2.2.2.2.1=true then
    some (v11.1,IntKind.wrap .i64 (v11.2.1+1),v11.2.2.1,v11.2.2.2.1,v11.2.2.2.2.2.1,v11.2.2.2.2.2.2.1,v11.2.2.2.2.2.2.2)
   else
    some (v11.1,v11.2.1,v11.2.2.1,v11.2.2.2.1,v11.2.2.2.2.2.1,v11.2.2.2.2.2.2.1,v11.2.2.2.2.2.2.2)) fun v12=>
  some (.inl (v12.1,v12.2.1,v12.2.2.1,IntKind.wrap .i64 (v12.2.2.2.1+1),v12.2.2.2.2.1,v12.2.2.2.2.2.1,v12.2.2.2.2.2.2))
  else none
 else
  some (.inr (y.2.1,y.2.2.1))
def Fh (x0:Int) (x1:List Int) (x2:List (List Int)) (x3:List (Int×Int)):Option (Int):=
 if (decide ((((List.length x3:Nat):Int):Int)=0))=true then
  some 0
 else
  Option.bind (Ab EB (x3,0,false,0,x0,x1,x2)) fun v13=>
  Option.bind (α:=Int) (
   if v13.2=true then
    some (IntKind.wrap .i64 (v13.1+1))
   else
    some v13.1) fun v14=>
  some v14
def BZ (y:(Int×(List Int×(List Int×(Int×(Int×(List (List Int)×(List Int×(List Int×List Int))))))))):Option ((Int×(List Int×(List Int×(Int×(Int×(List (List Int)×(List Int×(List Int×List Int))))))))⊕(Int×(List Int×(List (List Int)×(List Int×(List Int×List Int)))))):=
 if (decide ((y.2.2.2.2.1:Int) < y.2.2.2.1))=true then
  if (decide ((0:Int)≤y.2.2.2.2.1))=true then
  Option.bind (y.2.2.1[Int.toNat y.2.2.2.2.1]?) fun r1=>
  Option.bind (F4 r1) fun c2=>
  if (Aa (List.length y.2.1+List.length c2) 1)=true then
  some (.inl (y.1,y.2.1++c2,y.2.2.1,y.2.2.2.1,IntKind.wrap .i64 (y.2.2.2.2.1+1),y.2.2.2.2.2.1,y.2.2.2.2.2.2.1,y.2.2.2.2.2.2.2.1,y.2.2.2.2.2.2.2.2))
  else none
  else none
 else
  some (.inr (y.1,y.2.1,y.2.2.2.2.2.1,y.2.2.2.2.2.2.1,y.2.2.2.2.2.2.2.1,y.2.2.2.2.2.2.2.2))
def BR (x0:Int) (x1:Int) (x2:List Int) (x3:List (List Int)) (x4:List Int) (x5:List Int) (x6:List Int):Option ((List (List Int)×(List Int×(List Int×List Int)))):=
 Option.bind (Ab BZ (x0,[x1],x2,((List.length x2:Nat):Int),0,x3,x4,x5,x6)) fun v3=>
 Option.bind (CJ v3.2.1 128) fun c4=>
 Option.bind (AW v3.1 c4 v3.2.2.1 v3.2.2.2.1 v3.2.2.2.2.1 v3.2.2.2.2.2) fun c5=>
 some (c5.1,c5.2.1,c5.2.2.1,c5.2.2.2)
def Gy (x0:Int) (x1:List (List Int)) (x2:List Int) (x3:List Int) (x4:List Int):Option ((List (List Int)×(List Int×(List Int×List Int)))):=
 Option.bind (ET x3 x0) fun c1=>
 some (x1,x2,c1,x4)
def CS (y:(List (Int×Int)×(List Int×(List (List Int)×(List Int×(Int×(Int×(Int×(List Int×(List (List Int)×(List (List Int)×(List Int×(List Int×List Int))))))))))))):Option ((List (Int×Int)×(List Int×(List (List Int)×(List Int×(Int×(Int×(Int×(List Int×(List (List Int)×(List (List Int)×(List Int×(List Int×List Int))))))))))))⊕(List (Int×Int)×(List Int×(List (List Int)×(List Int×(Int×(List Int×(List (List Int)×(List (List Int)×(List Int×(List Int×List Int))))))))))):=
 if (decide ((y.2.2.2.2.2.1:Int) < y.2.2.2.2.1))=true then
  if (decide ((0:Int)≤y.2.2.2.2.2.1))=true then
  Option.bind (y.2.2.2.2.2.2.2.2.1[Int.toNat y.2.2.2.2.2.1]?) fun r2=>
  Option.bind (BT r2) fun c3=>
  if (decide ((0:Int)≤y.2.2.2.2.2.1))=true then
  if (decide ((y.2.2.2.2.2.1:Int) < ((List.length y.2.2.1:Nat):Int)))=true then
  Option.bind (y.2.2.1[0+Int.toNat y.2.2.2.2.2.1]?) fun r4=>
  Option.bind (y.2.2.1[0+Int.toNat y.2.2.2.2.2.1]?) fun r5=>
  some (.inl (y.1,y.2.1,y.2.2.1.set (0+Int.toNat y.2.2.2.2.2.1) c3,y.2.2.2.1,y.2.2.2.2.1,IntKind.wrap .i64 (y.2.2.2.2.2.1+1),y.2.2.2.2.2.2.1,y.2.2.2.2.2.2.2.1,y.2.2.2.2.2.2.2.2.1,y.2.2.2.2.2.2.2.2.2.1,y.2.2.2.2.2.2.2.2.2.2.1,y.2.2.2.2.2.2.2.2.2.2.2.1,y.2.2.2.2.2.2.2.2.2.2.2.2))
  else none
  else none
  else none
 else
  some (.inr (y.1,y.2.1,y.2.2.1,y.2.2.2.1,y.2.2.2.2.2.2.1,y.2.2.2.2.2.2.2.1,y.2.2.2.2.2.2.2.2.1,y.2.2.2.2.2.2.2.2.2.1,y.2.2.2.2.2.2.2.2.2.2.1,y.2.2.2.2.2.2.2.2.2.2.2.1,y.2.2.2.2.2.2.2.2.2.2.2.2))
def B6 (y:(List Int×(List (List Int)×(List Int×(List (Int×Int)×(Int×(Int×(Int×(List Int×(List (List Int)×(List (List Int)×(List Int×(List Int×List Int))))))))))))):Option ((List Int×(List (List Int)×(List Int×(List (Int×Int)×(Int×(Int×(Int×(List Int×(List (List Int)×(List (List Int)×(List Int×(List Int×List Int))))))))))))⊕(List Int×(List (List Int)×(List Int×(Int×(List Int×(List (List Int)×(List (List Int)×(List Int×(List Int×List Int)))))))))):=
 if (decide ((y.2.2.2.2.2.1:Int) < y.2.2.2.2.1))=true then
  if (decide ((0:Int)≤y.2.2.2.2.2.1))=true then
  Option.bind (y.2.2.2.1[Int.toNat y.2.2.2.2.2.1]?) fun r7=>
  if (decide (¬ (32:Int)=0))=true then
  if (decide ((0:Int)≤IntKind.wrap .i64 (Int.tdiv r7.1 32)))=true then
  if (decide ((IntKind.wrap .i64 (Int.tdiv r7.1 32):Int) < ((List.length y.2.1:Nat):Int)))=true then
  Option.bind (y.2.1[0+Int.toNat (IntKind.wrap .i64 (Int.tdiv r7.1 32))]?) fun r8=>
  if (decide (¬ (32:Int)=0))=true then
  if (decide ((0:Int)≤Int.tmod r7.1 32))=true then
  Option.bind (y.2.1[0+Int.toNat (IntKind.wrap .i64 (Int.tdiv r7.1 32))]?) fun r9=>
  if (decide ((Int.tmod r7.1 32:Int) < ((List.length r9:Nat):Int)))=true then
  Option.bind (y.2.1[0+Int.toNat (IntKind.wrap .i64 (Int.tdiv r7.1 32))]?) fun r10=>
  Option.bind (r10[0+Int.toNat (Int.tmod r7.1 32)]?) fun r11=>
  Option.bind (y.2.1[0+Int.toNat (IntKind.wrap .i64 (Int.tdiv r7.1 32))]?) fun r12=>
  Option.bind (r12[0+Int.toNat (Int.tmod r7.1 32)]?) fun r13=>
  if (decide (¬ (32:Int)=0))=true then
  Option.bind (ET y.2.2.1 (IntKind.wrap .i64 (Int.tdiv r7.1 32))) fun c14=>
  some (.inl (y.1,y.2.1.set (0+Int.toNat (IntKind.wrap .i64 (Int.tdiv r7.1 32))) (r12.set (0+Int.toNat (Int.tmod r7.1 32)) r7.2),c14,y.2.2.2.1,y.2.2.2.2.1,IntKind.wrap .i64 (y.2.2.2.2.2.1+1),y.2.2.2.2.2.2.1,y.2.2.2.2.2.2.2.1,y.2.2.2.2.2.2.2.2.1,y.2.2.2.2.2.2.2.2.2.1,y.2.2.2.2.2.2.2.2.2.2.1,y.2.2.2.2.2.2.2.2.2.2.2.1,y.2.2.2.2.2.2.2.2.2.2.2.2))
  else none
  else none
  else none
  else none
  else none
  else none
  else none
  else none
 else
  some (.inr (y.1,y.2.1,y.2.2.1,y.2.2.2.2.2.2.1,y.2.2.2.2.2.2.2.1,y.2.2.2.2.2.2.2.2.1,y.2.2.2.2.2.2.2.2.2.1,y.2.2.2.2.2.2.2.2.2.2.1,y.2.2.2.2.2.2.2.2.2.2.2.1,y.2.2.2.2.2.2.2.2.2.2.2.2))
def Av (y:(List Int×(List (List Int)×(List Int×(List Int×(Int×(Int×(Int×(List Int×(List (List Int)×(List (List Int)×(List Int×(List Int×List Int))))))))))))):Option ((List Int×(List (List Int)×(List Int×(List Int×(Int×(Int×(Int×(List Int×(List (List Int)×(List (List Int)×(List Int×(List Int×List Int))))))))))))⊕((List Int×(List Int×(Int×(List Int×(List (List Int)×(List (List Int)×(List Int×(List Int×List Int))))))))⊕(Int×(Bool×(List (List Int)×(List Int×(List Int×List Int))))))):=
 if (decide ((y.2.2.2.2.2.1:Int) < y.2.2.2.2.1))=true then
  Option.bind (α:=(List Int×(List (List Int)×(List Int×(List Int×(Int×(Int×(Int×(List Int×(List (List Int)×(List (List Int)×(List Int×(List Int×List Int))))))))))))⊕(Int×(Bool×(List (List Int)×(List Int×(List Int×List Int)))))) (
    if (decide ((0:Int)≤y.2.2.2.2.2.1))=true then
    if (decide ((y.2.2.2.2.2.1:Int) < ((List.length y.2.2.2.1:Nat):Int)))=true then
    Option.bind (y.2.2.2.1[0+Int.toNat y.2.2.2.2.2.1]?) fun r16=>
    if (decide ((0:Int)≤r16))=true then
    if (decide ((r16:Int) < ((List.length y.1:Nat):Int)))=true then
    Option.bind (y.1[0+Int.toNat r16]?) fun r17=>
    Option.bind (α:=(List Int×(List (List Int)×(List Int×(Int×(List Int×(Int×(Int×(Int×(List Int×(List (List Int)×(List (List Int)×(List Int×(List Int×List Int)))))))))))))) (
      if (decide (¬ (r17:Int)=0))=true then
       if (decide ((0:Int)≤r16))=true then
       if (decide ((r16:Int) < ((List.length y.1:Nat):Int)))=true then
       Option.bind (y.1[0+Int.toNat r16]?) fun r18=>
       if (Aa (List.length y.2.2.1+List.length ([r18]:List Int)) 8)=true then
       some (y.1,y.2.1,y.2.2.1++([r18]:List Int),r16,y.2.2.2.1,y.2.2.2.2.1,y.2.2.2.2.2.1,y.2.2.2.2.2.2.1,y.2.2.2.2.2.2.2.1,y.2.2.2.2.2.2.2.2.1,y.2.2.2.2.2.2.2.2.2.1,y.2.2.2.2.2.2.2.2.2.2.1,y.2.2.2.2.2.2.2.2.2.2.2.1,y.2.2.2.2.2.2.2.2.2.2.2.2)
       else none
       else none
       else none
      else
       some (y.1,y.2.1,y.2.2.1,r16,y.2.2.2.1,y.2.2.2.2.1,y.2.2.2.2.2.1,y.2.2.2.2.2.2.1,y.2.2.2.2.2.2.2.1,y.2.2.2.2.2.2.2.2.1,y.2.2.2.2.2.2.2.2.2.1,y.2.2.2.2.2.2.2.2.2.2.1,y.2.2.2.2.2.2.2.2.2.2.2.1,y.2.2.2.2.2.2.2.2.2.2.2.2)) fun v19=>
    if (decide ((0:Int)≤v19.2.2.2.1))=true then
    if (decide ((v19.2.2.2.1:Int) < ((List.length v19.1:Nat):Int)))=true then
    Option.bind (v19.1[0+Int.toNat v19.2.2.2.1]?) fun r20=>
    Option.bind (v19.1[0+Int.toNat v19.2.2.2.1]?) fun r21=>
    if (decide ((0:Int)≤v19.2.2.2.1))=true then
    if (decide ((v19.2.2.2.1:Int) < ((List.length v19.2.1:Nat):Int)))=true then
    Option.bind (v19.2.1[0+Int.toNat v19.2.2.2.1]?) fun r22=>
    Option.bind (v19.2.1[0+Int.toNat v19.2.2.2.1]?) fun r23=>
    Option.bind (Dc r23) fun c24=>
    if c24=true then
     some (.inl (v19.1.set (0+Int.toNat v19.2.2.2.1) 0,v19.2.1,v19.2.2.1,v19.2.2.2.2.1,v19.2.2.2.2.2.1,v19.2.2.2.2.2.2.1,v19.2.2.2.2.2.2.2.1,v19.2.2.2.2.2.2.2.2.1,v19.2.2.2.2.2.2.2.2.2.1,v19.2.2.2.2.2.2.2.2.2.2.1,v19.2.2.2.2.2.2.2.2.2.2.2.1,v19.2.2.2.2.2.2.2.2.2.2.2.2.1,v19.2.2.2.2.2.2.2.2.2.2.2.2.2))
    else
     Option.bind (AE v19.2.2.2.2.2.2.2.2.2.2.1 v19.2.2.2.2.2.2.2.2.2.2.2.1 v19.2.2.2.2.2.2.2.2.2.2.2.2.1 v19.2.2.2.2.2.2.2.2.2.2.2.2.2) fun c25=>
     if (!c25.2.1)=true then
      some (.inr (0,false,c25.2.2.1,c25.2.2.2.1,c25.2.2.2.2.1,c25.2.2.2.2.2))
     else
     if (decide ((0:Int)≤v19.2.2.2.1))=true then
     if (decide ((v19.2.2.2.1:Int) < ((List.length v19.2.1:Nat):Int)))=true then
     Option.bind (v19.2.1[0+Int.toNat v19.2.2.2.1]?) fun r26=>
     Option.bind (v19.2.1[0+Int.toNat v19.2.2.2.1]?) fun r27=>
     Option.bind (BR c25.1 81 r27 c25.2.2.1 c25.2.2.2.1 c25.2.2.2.2.1 c25.2.2.2.2.2) fun c28=>
     if (decide ((0:Int)≤v19.2.2.2.1))=true then
     if (decide ((v19.2.2.2.1:Int) < ((List.length (v19.1.set (0+Int.toNat v19.2.2.2.1) 0):Nat):Int)))=true then
     Option.bind ((v19.1.set (0+Int.toNat v19.2.2.2.1) 0)[0+Int.toNat v19.2.2.2.1]?) fun r29=>
     Option.bind ((v19.1.set (0+Int.toNat v19.2.2.2.1) 0)[0+Int.toNat v19.2.2.2.1]?) fun r30=>
     some (.inl ((v19.1.set (0+Int.toNat v19.2.2.2.1) 0).set (0+Int.toNat v19.2.2.2.1) c25.1,v19.2.1,v19.2.2.1,v19.2.2.2.2.1,v19.2.2.2.2.2.1,v19.2.2.2.2.2.2.1,v19.2.2.2.2.2.2.2.1,v19.2.2.2.2.2.2.2.2.1,v19.2.2.2.2.2.2.2.2.2.1,c28.1,c28.2.1,c28.2.2.1,c28.2.2.2))
     else none
     else none
     else none
     else none
    else none
    else none
    else none
    else none
    else none
    else none
    else none
    else none) fun v31=>
  match v31 with
  | .inl y32=>
   some (.inl (y32.1,y32.2.1,y32.2.2.1,y32.2.2.2.1,y32.2.2.2.2.1,IntKind.wrap .i64 (y32.2.2.2.2.2.1+1),y32.2.2.2.2.2.2.1,y32.2.2.2.2.2.2.2.1,y32.2.2.2.2.2.2.2.2.1,y32.2.2.2.2.2.2.2.2.2.1,y32.2.2.2.2.2.2.2.2.2.2.1,y32.2.2.2.2.2.2.2.2.2.2.2.1,y32.2.2.2.2.2.2.2.2.2.2.2.2))
  | .inr s33=>
   some (.inr (.inr (s33.1,s33.2.1,s33.2.2.1,s33.2.2.2.1,s33.2.2.2.2.1,s33.2.2.2.2.2)))
 else
  some (.inr (.inl (y.1,y.2.2.1,y.2.2.2.2.2.2.1,y.2.2.2.2.2.2.2.1,y.2.2.2.2.2.2.2.2.1,y.2.2.2.2.2.2.2.2.2.1,y.2.2.2.2.2.2.2.2.2.2.1,y.2.2.2.2.2.2.2.2.2.2.2.1,y.2.2.2.2.2.2.2.2.2.2.2.2)))
def CQ (y:(Int×(List Int×(Int×(Int×(List (List Int)×(List Int×(List Int×List Int)))))))):Option ((Int×(List Int×(Int×(Int×(List (List Int)×(List Int×(List Int×List Int)))))))⊕(Int×(List (List Int)×(List Int×(List Int×List Int))))):=
 if (decide ((y.2.2.2.1:Int) < y.2.2.1))=true then
  if (decide ((0:Int)≤y.2.2.2.1))=true then
  if (decide ((y.2.2.2.1:Int) < ((List.length y.2.1:Nat):Int)))=true then
  Option.bind (y.2.1[0+Int.toNat y.2.2.2.1]?) fun r44=>
  Option.bind (Gy r44 y.2.2.2.2.1 y.2.2.2.2.2.1 y.2.2.2.2.2.2.1 y.2.2.2.2.2.2.2) fun c45=>
  some (.inl (y.1,y.2.1,y.2.2.1,IntKind.wrap .i64 (y.2.2.2.1+1),c45.1,c45.2.1,c45.2.2.1,c45.2.2.2))
  else none
  else none
 else
  some (.inr (y.1,y.2.2.2.2.1,y.2.2.2.2.2.1,y.2.2.2.2.2.2.1,y.2.2.2.2.2.2.2))
def Bb (x0:Int) (x1:List Int) (x2:List (List Int)) (x3:List (Int×Int)) (x4:List (List Int)) (x5:List Int) (x6:List Int) (x7:List Int):Option ((Int×(Bool×(List (List Int)×(List Int×(List Int×List Int)))))):=
 if (decide ((((List.length x3:Nat):Int):Int)=0))=true then
  some (x0,true,x4,x5,x6,x7)
 else
  Option.bind (BT x1) fun c1=>
  if (decide ((0:Int)≤32))=true then
  if (decide ((32:Int)≤32))=true then
  if (Aa (Int.toNat 32) 24)=true then
  Option.bind (Ab CS (x3,c1,List.replicate (Int.toNat 32) ([]:List Int),[],((List.length (List.replicate (Int.toNat 32) ([]:List Int)):Nat):Int),0,x0,x1,x2,x4,x5,x6,x7)) fun v6=>
  Option.bind (Ab B6 (v6.2.1,v6.2.2.1,v6.2.2.2.1,v6.1,((List.length v6.1:Nat):Int),0,v6.2.2.2.2.1,v6.2.2.2.2.2.1,v6.2.2.2.2.2.2.1,v6.2.2.2.2.2.2.2.1,v6.2.2.2.2.2.2.2.2.1,v6.2.2.2.2.2.2.2.2.2.1,v6.2.2.2.2.2.2.2.2.2.2)) fun v15=>
  Option.bind (Ab Av (v15.1,v15.2.1,[],v15.2.2.1,((List.length v15.2.2.1:Nat):Int),0,v15.2.2.2.1,v15.2.2.2.2.1,v15.2.2.2.2.2.1,v15.2.2.2.2.2.2.1,v15.2.2.2.2.2.2.2.1,v15.2.2.2.2.2.2.2.2.1,v15.2.2.2.2.2.2.2.2.2)) fun v34=>
  match v34 with
  | .inl y35=>
   Option.bind (Dc y35.1) fun c37=>
   Option.bind (α:=(List Int×(Int×(Int×(List Int×(List (List Int)×(List (List Int)×(List Int×(List Int×List Int))))))))⊕(Int×(Bool×(List (List Int)×(List Int×(List Int×List Int)))))) (
     if (!c37)=true then
      Option.bind (AE y35.2.2.2.2.2.1 y35.2.2.2.2.2.2.1 y35.2.2.2.2.2.2.2.1 y35.2.2.2.2.2.2.2.2) fun c38=>
      if (!c38.2.1)=true then
       some (.inr (0,false,c38.2.2.1,c38.2.2.2.1,c38.2.2.2.2.1,c38.2.2.2.2.2))
      else
       Option.bind (BR c38.1 80 y35.1 c38.2.2.1 c38.2.2.2.1 c38.2.2.2.2.1 c38.2.2.2.2.2) fun c39=>
       some (.inl (y35.2.1,c38.1,y35.2.2.1,y35.2.2.2.1,y35.2.2.2.2.1,c39.1,c39.2.1,c39.2.2.1,c39.2.2.2))
     else
      some (.inl (y35.2.1,0,y35.2.2.1,y35.2.2.2.1,y35.2.2.2.2.1,y35.2.2.2.2.2.1,y35.2.2.2.2.2.2.1,y35.2.2.2.2.2.2.2.1,y35.2.2.2.2.2.2.2.2))) fun v40=>
   match v40 with
   | .inl y41=>
    Option.bind (α:=(List Int×(Int×(List (List Int)×(List Int×(List Int×List Int)))))) (
      if (decide (¬ (y41.2.2.1:Int)=0))=true then
       if (Aa (List.length y41.1+List.length ([y41.2.2.1]:List Int)) 8)=true then
       some (y41.1++([y41.2.2.1]:List Int),y41.2.1,y41.2.2.2.2.2.1,y41.2.2.2.2.2.2.1,y41.2.2.2.2.2.2.2.1,y41.2.2.2.2.2.2.2.2)
       else none
      else
       some (y41.1,y41.2.1,y41.2.2.2.2.2.1,y41.2.2.2.2.2.2.1,y41.2.2.2.2.2.2.2.1,y41.2.2.2.2.2.2.2.2)) fun v43=>
    Option.bind (Ab CQ (v43.2.1,v43.1,((List.length v43.1:Nat):Int),0,v43.2.2.1,v43.2.2.2.1,v43.2.2.2.2.1,v43.2.2.2.2.2)) fun v46=>
    some (v46.1,true,v46.2.1,v46.2.2.1,v46.2.2.2.1,v46.2.2.2.2)
   | .inr s42=>
    some (s42.1,s42.2.1,s42.2.2.1,s42.2.2.2.1,s42.2.2.2.2.1,s42.2.2.2.2.2)
  | .inr s36=>
   some (s36.1,s36.2.1,s36.2.2.1,s36.2.2.2.1,s36.2.2.2.2.1,s36.2.2.2.2.2)
  else none
  else none
  else none
def Bf (x0:Int) (x1:List Int) (x2:List (List Int)) (x3:List (List Int)) (x4:List Int) (x5:List Int) (x6:List Int) (x7:List (Int×Int)) (x8:Bool) (x9:Int) (x10:Bool):Option ((Int×(List (List Int)×(List Int×(List Int×(List Int×(List (Int×Int)×(Bool×(Int×Bool))))))))):=
 Option.bind (Af x7) fun c1=>
 Option.bind (Fh x0 x1 x2 c1) fun c2=>
 Option.bind (α:=(Bool×(Int×(List Int×(List (List Int)×(List (List Int)×(List Int×(List Int×(List Int×(List (Int×Int)×(Bool×(Int×Bool)))))))))))) (
   if x10=true then
    some (true,x0,x1,x2,x3,x4,x5,x6,c1,x8,IntKind.wrap .i64 (x9+c2),x10)
   else
   some (x8,x0,x1,x2,x3,x4,x5,x6,c1,x8,IntKind.wrap .i64 (x9+c2),x10)) fun v3=>
 if v3.1=true then
  some (0,v3.2.2.2.2.1,v3.2.2.2.2.2.1,v3.2.2.2.2.2.2.1,v3.2.2.2.2.2.2.2.1,v3.2.2.2.2.2.2.2.2.1,v3.2.2.2.2.2.2.2.2.2.1,v3.2.2.2.2.2.2.2.2.2.2.1,v3.2.2.2.2.2.2.2.2.2.2.2)
 else
  Option.bind (Bb v3.2.1 v3.2.2.1 v3.2.2.2.1 v3.2.2.2.2.2.2.2.2.1 v3.2.2.2.2.1 v3.2.2.2.2.2.1 v3.2.2.2.2.2.2.1 v3.2.2.2.2.2.2.2.1) fun c4=>
  some (c4.1,c4.2.2.1,c4.2.2.2.1,c4.2.2.2.2.1,c4.2.2.2.2.2,v3.2.2.2.2.2.2.2.2.1,(!c4.2.1),v3.2.2.2.2.2.2.2.2.2.2.1,v3.2.2.2.2.2.2.2.2.2.2.2)
def LJ (x0:Int) (x1:Int):Option (Bool):=
 Option.bind (α:=Bool) (
  if (decide ((0:Int)≤x0))=true then
   if (decide ((x0:Int)≤x1))=true then
    some (decide ((x1:Int)≤60))
   else
   some false
  else
  some false) fun v1=>
 some v1
def KT (x0:Int):Option (Bool):=
 Option.bind (BM x0 33 159) fun c1=>
 some c1
def GP (y:(Int×(List Int×(Int×Int)))):Option ((Int×(List Int×(Int×Int)))⊕Int):=
 if (decide ((y.2.2.2:Int) < y.2.2.1))=true then
  if (decide ((0:Int)≤y.2.2.2))=true then
  Option.bind (y.2.1[Int.toNat y.2.2.2]?) fun r1=>
  some (.inl (IntKind.wrap .u32 ((IntKind.wrap .u32 (((BitVec.ofInt (IntKind.bits .u32) y.1 ^^^ BitVec.ofInt (IntKind.bits .u32) (IntKind.wrap .u32 r1)).toNat:Int))) * 16777619),y.2.1,y.2.2.1,IntKind.wrap .i64 (y.2.2.2+1)))
  else none
 else
  some (.inr y.1)
def Kc (x0:Int) (x1:List Int):Option (Int):=
 Option.bind (Ab GP (x0,x1,((List.length x1:Nat):Int),0)) fun v2=>
 some v2
def H1 (x0:List Int):Option (Int):=
 Option.bind (Kc 2166136261 x0) fun c1=>
 some c1
def Q8 (x0:Int):Option (List Int):=
 if (decide ((0:Int)≤24))=true then
 if (decide ((0:Int)≤16))=true then
 if (decide ((0:Int)≤8))=true then
 some [IntKind.wrap .u8 (Int.fdiv x0 (2 ^ (min (Int.toNat 24) (IntKind.bits .u32)))),IntKind.wrap .u8 (Int.fdiv x0 (2 ^ (min (Int.toNat 16) (IntKind.bits .u32)))),IntKind.wrap .u8 (Int.fdiv x0 (2 ^ (min (Int.toNat 8) (IntKind.bits .u32)))),IntKind.wrap .u8 x0]
 else none
 else none
 else none
def HQ (x0:Int) (x1:Int) (x2:Int) (x3:Int) (x4:Int):Option ((List Int×Bool)):=
 Option.bind (α:=(Bool×(Int×(Int×(Int×(Int×Int)))))) (
   Option.bind (LJ x0 x1) fun c1=>
   if (!c1)=true then
    some (true,x0,x1,x2,x3,x4)
   else
    Option.bind (BM x2 1 30) fun c2=>
    if (!c2)=true then
     some (true,x0,x1,x2,x3,x4)
    else
     Option.bind (KT x3) fun c3=>
     if (!c3)=true then
      some (true,x0,x1,x2,x3,x4)
     else
      Option.bind (KT x4) fun c4=>
      some ((!c4),x0,x1,x2,x3,x4)) fun v5=>
 if v5.1=true then
  some ([],false)
 else
  Option.bind (F4 v5.2.2.2.2.1) fun c6=>
  if (Aa (List.length ([83,84,82,49,IntKind.wrap .u8 v5.2.1,IntKind.wrap .u8 v5.2.2.1,IntKind.wrap .u8 v5.2.2.2.1,0]:List Int)+List.length c6) 1)=true then
  Option.bind (F4 v5.2.2.2.2.2) fun c7=>
  if (Aa (List.length (([83,84,82,49,IntKind.wrap .u8 v5.2.1,IntKind.wrap .u8 v5.2.2.1,IntKind.wrap .u8 v5.2.2.2.1,0]:List Int)++c6)+List.length c7) 1)=true then
  Option.bind (CJ ((([83,84,82,49,IntKind.wrap .u8 v5.2.1,IntKind.wrap .u8 v5.2.2.1,IntKind.wrap .u8 v5.2.2.2.1,0]:List Int)++c6)++c7) 124) fun c8=>
  Option.bind (H1 c8) fun c9=>
  Option.bind (Q8 c9) fun c10=>
  if (Aa (List.length c8+List.length c10) 1)=true then
  some (c8++c10,true)
  else none
  else none
  else none
def DH (y:((List (List Int)×(List Int×(List Int×List Int)))×(List Int×(List Int×(List Int×(Int×Int)))))):Option (((List (List Int)×(List Int×(List Int×List Int)))×(List Int×(List Int×(List Int×(Int×Int)))))⊕((List (List Int)×(List Int×(List Int×List Int)))×(List Int×List Int))):=
 if (decide ((y.2.2.2.2.2:Int) < y.2.2.2.2.1))=true then
  if (decide ((0:Int)≤y.2.2.2.2.2))=true then
  Option.bind (y.2.2.2.1[Int.toNat y.2.2.2.2.2]?) fun r2=>
  if (decide (¬ (8:Int)=0))=true then
  if (decide ((0:Int)≤IntKind.wrap .i64 (Int.tdiv r2 8)))=true then
  if (decide ((IntKind.wrap .i64 (Int.tdiv r2 8):Int) < ((List.length y.2.2.1:Nat):Int)))=true then
  Option.bind (y.2.2.1[0+Int.toNat (IntKind.wrap .i64 (Int.tdiv r2 8))]?) fun r3=>
  if (decide (¬ (8:Int)=0))=true then
  if (decide ((0:Int)≤Int.tmod r2 8))=true then
  if (decide ((0:Int)≤IntKind.wrap .i64 (Int.tdiv r2 8)))=true then
  if (decide ((IntKind.wrap .i64 (Int.tdiv r2 8):Int) < ((List.length y.2.2.1:Nat):Int)))=true then
  Option.bind (y.2.2.1[0+Int.toNat (IntKind.wrap .i64 (Int.tdiv r2 8))]?) fun r4=>
  Option.bind (y.2.2.1[0+Int.toNat (IntKind.wrap .i64 (Int.tdiv r2 8))]?) fun r5=>
  some (.inl (y.1,y.2.1,y.2.2.1.set (0+Int.toNat (IntKind.wrap .i64 (Int.tdiv r2 8))) (IntKind.wrap .u8 (((BitVec.ofInt (IntKind.bits .u8) r3 &&& ~~~ BitVec.ofInt (IntKind.bits .u8) (IntKind.wrap .u8 (1 * 2 ^ (min (Int.toNat (Int.tmod r2 8)) (IntKind.bits .u8))))).toNat:Int))),y.2.2.2.1,y.2.2.2.2.1,IntKind.wrap .i64 (y.2.2.2.2.2+1)))
  else none
  else none
  else none
  else none
  else none
  else none
  else none
  else none
 else
  some (.inr (y.1,y.2.1,y.2.2.1))
def DK (y:((List (List Int)×(List Int×(List Int×List Int)))×(List (Int×List Int)×(List Int×(Int×Int))))):Option (((List (List Int)×(List Int×(List Int×List Int)))×(List (Int×List Int)×(List Int×(Int×Int))))⊕(List (Int×List Int))):=
 if (decide ((y.2.2.2.2:Int) < y.2.2.2.1))=true then
  if (decide ((0:Int)≤y.2.2.2.2))=true then
  Option.bind (y.2.2.1[Int.toNat y.2.2.2.2]?) fun r9=>
  Option.bind (Bg y.1.2.2.1 r9) fun c10=>
  Option.bind (α:=((List (List Int)×(List Int×(List Int×List Int)))×(List (Int×List Int)×(List Int×(Int×Int))))) (
   if (!c10)=true then
    if (decide ((0:Int)≤r9))=true then
    Option.bind (y.1.1[Int.toNat r9]?) fun r11=>
    Option.bind (Au r11) fun c12=>
    if (Aa (List.length y.2.1+List.length ([(r9,c12)]:List (Int×List Int))) 32)=true then
    some (y.1,y.2.1++([(r9,c12)]:List (Int×List Int)),y.2.2.1,y.2.2.2.1,y.2.2.2.2)
    else none
    else none
   else
    some (y.1,y.2.1,y.2.2.1,y.2.2.2.1,y.2.2.2.2)) fun v13=>
  some (.inl (v13.1,v13.2.1,v13.2.2.1,v13.2.2.2.1,IntKind.wrap .i64 (v13.2.2.2.2+1)))
  else none
 else
  some (.inr y.2.1)
def GW (x0:(List (List Int)×(List Int×(List Int×List Int)))) (x1:List Int):Option ((List (Int×List Int)×Bool)):=
 Option.bind (Au x0.2.1) fun c1=>
 Option.bind (Ab DH (x0,x1,c1,x0.2.2.1,((List.length x0.2.2.1:Nat):Int),0)) fun v6=>
 Option.bind (Au v6.2.1) fun c7=>
 Option.bind (CJ v6.2.2 128) fun c8=>
 Option.bind (Ab DK (v6.1,[(0,c7),(1,c8)],v6.1.2.2.2,((List.length v6.1.2.2.2:Nat):Int),0)) fun v14=>
 some (v14,decide ((((List.length v14:Nat):Int):Int)≤30))
def GO (y:(List (Int×List Int)×(List Int×(List (Int×List Int)×(Int×Int))))):Option ((List (Int×List Int)×(List Int×(List (Int×List Int)×(Int×Int))))⊕(List (Int×List Int)×List Int)):=
 if (decide ((y.2.2.2.2:Int) < y.2.2.2.1))=true then
  if (decide ((0:Int)≤y.2.2.2.2))=true then
  Option.bind (y.2.2.1[Int.toNat y.2.2.2.2]?) fun r1=>
  Option.bind (F4 r1.1) fun c2=>
  if (Aa (List.length y.2.1+List.length c2) 1)=true then
  some (.inl (y.1,y.2.1++c2,y.2.2.1,y.2.2.2.1,IntKind.wrap .i64 (y.2.2.2.2+1)))
  else none
  else none
 else
  some (.inr (y.1,y.2.1))
def GK (y:(List Int×(Int×(List (Int×List Int)×(Int×Int))))):Option ((List Int×(Int×(List (Int×List Int)×(Int×Int))))⊕(List Int×Int)):=
 if (decide ((y.2.2.2.2:Int) < y.2.2.2.1))=true then
  if (decide ((0:Int)≤y.2.2.2.2))=true then
  Option.bind (y.2.2.1[Int.toNat y.2.2.2.2]?) fun r6=>
  Option.bind (Kc y.2.1 r6.2) fun c7=>
  some (.inl (y.1,c7,y.2.2.1,y.2.2.2.1,IntKind.wrap .i64 (y.2.2.2.2+1)))
  else none
 else
  some (.inr (y.1,y.2.1))
def Nd (x0:List (Int×List Int)):Option (List Int):=
 Option.bind (Ab GO (x0,[76,79,71,49,IntKind.wrap .u8 ((List.length x0:Nat):Int)],x0,((List.length x0:Nat):Int),0)) fun v3=>
 Option.bind (CJ v3.2 124) fun c4=>
 Option.bind (H1 c4) fun c5=>
 Option.bind (Ab GK (c4,c5,v3.1,((List.length v3.1:Nat):Int),0)) fun v8=>
 Option.bind (Q8 v8.2) fun c9=>
 if (Aa (List.length v8.1+List.length c9) 1)=true then
 some (v8.1++c9)
 else none
def Jg (y:(List (Int×List Int)×(List (Int×List Int)×(Int×Int)))):Option ((List (Int×List Int)×(List (Int×List Int)×(Int×Int)))⊕(List (Int×List Int))):=
 if (decide ((y.2.2.2:Int) < y.2.2.1))=true then
  if (decide ((0:Int)≤y.2.2.2))=true then
  Option.bind (y.2.1[Int.toNat y.2.2.2]?) fun r1=>
  Option.bind (Au r1.2) fun c2=>
  if (Aa (List.length y.1+List.length ([(r1.1,c2)]:List (Int×List Int))) 32)=true then
  some (.inl (y.1++([(r1.1,c2)]:List (Int×List Int)),y.2.1,y.2.2.1,IntKind.wrap .i64 (y.2.2.2+1)))
  else none
  else none
 else
  some (.inr y.1)
def Vj (x0:List (Int×List Int)):Option (List (Int×List Int)):=
 Option.bind (Ab Jg ([],x0,((List.length x0:Nat):Int),0)) fun v3=>
 if (decide ((0:Int)≤128))=true then
 if (decide ((128:Int)≤128))=true then
 if (Aa (Int.toNat 128) 1)=true then
 if (Aa (List.length v3+List.length ([(2,List.replicate (Int.toNat 128) (0:Int))]:List (Int×List Int))) 32)=true then
 some (v3++([(2,List.replicate (Int.toNat 128) (0:Int))]:List (Int×List Int)))
 else none
 else none
 else none
 else none
def I3 (y:(List (Int×List Int)×(List (Int×List Int)×(List (Int×List Int)×(Int×Int))))):Option ((List (Int×List Int)×(List (Int×List Int)×(List (Int×List Int)×(Int×Int))))⊕(List (Int×List Int)×List (Int×List Int))):=
 if (decide ((y.2.2.2.2:Int) < y.2.2.2.1))=true then
  if (decide ((0:Int)≤y.2.2.2.2))=true then
  Option.bind (y.2.2.1[Int.toNat y.2.2.2.2]?) fun r1=>
  Option.bind (Au r1.2) fun c2=>
  if (Aa (List.length y.2.1+List.length ([(IntKind.wrap .i64 (3+y.2.2.2.2),c2)]:List (Int×List Int))) 32)=true then
  some (.inl (y.1,y.2.1++([(IntKind.wrap .i64 (3+y.2.2.2.2),c2)]:List (Int×List Int)),y.2.2.1,y.2.2.2.1,IntKind.wrap .i64 (y.2.2.2.2+1)))
  else none
  else none
 else
  some (.inr (y.1,y.2.1))
def Sf (x0:List (Int×List Int)):Option (List (Int×List Int)):=
 Option.bind (Ab I3 (x0,[],x0,((List.length x0:Nat):Int),0)) fun v3=>
 Option.bind (Nd v3.1) fun c4=>
 if (Aa (List.length v3.2+List.length ([(2,c4)]:List (Int×List Int))) 32)=true then
 Option.bind (Vj v3.1) fun c5=>
 if (Aa (List.length (v3.2++([(2,c4)]:List (Int×List Int)))+List.length c5) 32)=true then
 some ((v3.2++([(2,c4)]:List (Int×List Int)))++c5)
 else none
 else none
def Gp (x0:Int) (x1:List Int) (x2:List (List Int)) (x3:Int) (x4:Bool) (x5:Int):Option ((Bool×(List (List Int)×(Int×(Bool×Int))))):=
 if (decide ((x5:Int)=0))=true then
  some (false,x2,x3,false,x5)
 else
  Option.bind (Au x1) fun c1=>
  if (decide ((0:Int)≤x0))=true then
  if (decide ((x0:Int) < ((List.length x2:Nat):Int)))=true then
  Option.bind (x2[0+Int.toNat x0]?) fun r2=>
  Option.bind (x2[0+Int.toNat x0]?) fun r3=>
  Option.bind (α:=(List (List Int)×(Int×(Bool×Int)))) (
   if (decide ((0:Int) < x5))=true then
    some (x2.set (0+Int.toNat x0) c1,IntKind.wrap .i64 (x3+1),x4,IntKind.wrap .i64 (x5 - 1))
   else
    some (x2.set (0+Int.toNat x0) c1,IntKind.wrap .i64 (x3+1),x4,x5)) fun v4=>
  some (true,v4.1,v4.2.1,v4.2.2.1,v4.2.2.2)
  else none
  else none
def BX (y:(List (Int×List Int)×(Int×(Int×(List (List Int)×(Int×(Bool×Int))))))):Option ((List (Int×List Int)×(Int×(Int×(List (List Int)×(Int×(Bool×Int))))))⊕((List (List Int)×(Int×(Bool×Int)))⊕(Int×(List (List Int)×(Int×(Bool×Int)))))):=
 if (decide ((y.2.2.1:Int) < y.2.1))=true then
  if (decide ((0:Int)≤y.2.2.1))=true then
  Option.bind (y.1[Int.toNat y.2.2.1]?) fun r1=>
  Option.bind (Gp r1.1 r1.2 y.2.2.2.1 y.2.2.2.2.1 y.2.2.2.2.2.1 y.2.2.2.2.2.2) fun c2=>
  if (!c2.1)=true then
   some (.inr (.inr (2,c2.2.1,c2.2.2.1,c2.2.2.2.1,c2.2.2.2.2)))
  else
   some (.inl (y.1,y.2.1,IntKind.wrap .i64 (y.2.2.1+1),c2.2.1,c2.2.2.1,c2.2.2.2.1,c2.2.2.2.2))
  else none
 else
  some (.inr (.inl (y.2.2.2.1,y.2.2.2.2.1,y.2.2.2.2.2.1,y.2.2.2.2.2.2)))
def Ep (x0:List (Int×List Int)) (x1:List (List Int)) (x2:Int) (x3:Bool) (x4:Int):Option ((Int×(List (List Int)×(Int×(Bool×Int))))):=
 if (!x3)=true then
  some (2,x1,x2,x3,x4)
 else
  Option.bind (Ab BX (x0,((List.length x0:Nat):Int),0,x1,x2,x3,x4)) fun v3=>
  match v3 with
  | .inl y4=>
   some (0,y4.1,y4.2.1,y4.2.2.1,y4.2.2.2)
  | .inr s5=>
   some (s5.1,s5.2.1,s5.2.2.1,s5.2.2.2.1,s5.2.2.2.2)
def A6 (x0:List (List Int)) (x1:Int) (x2:Bool) (x3:Int) (x4:Int) (x5:Int) (x6:Int) (x7:Int) (x8:Int) (x9:List (List Int)) (x10:List Int) (x11:List Int) (x12:List Int) (x13:List (Int×Int)) (x14:Bool) (x15:Int) (x16:Bool):Option ((Int×(List (List Int)×(Int×(Bool×(Int×(List (List Int)×(List Int×(List Int×(List Int×(List (Int×Int)×(Bool×(Int×Bool))))))))))))):=
 if x14=true then
  Option.bind (Dl x0 x1 x2 x3) fun c1=>
  some (7,c1.1,c1.2.1,c1.2.2.1,c1.2.2.2,x9,x10,x11,x12,x13,x14,x15,x16)
 else
  Option.bind (HQ x4 x5 x6 x7 x8) fun c2=>
  Option.bind (GW (x9,(x10,(x11,x12))) c2.1) fun c3=>
  if (!c3.2)=true then
   Option.bind (Dl x0 x1 x2 x3) fun c4=>
   some (8,c4.1,c4.2.1,c4.2.2.1,c4.2.2.2,x9,x10,x11,x12,x13,x14,x15,x16)
  else
   Option.bind (Dl x0 x1 x2 x3) fun c5=>
   Option.bind (Sf c3.1) fun c6=>
   Option.bind (Ep c6 c5.1 c5.2.1 c5.2.2.1 c5.2.2.2) fun c7=>
   if (decide (¬ (c7.1:Int)=0))=true then
    some (2,c7.2.1,c7.2.2.1,c7.2.2.2.1,c7.2.2.2.2,x9,x10,x11,x12,x13,x14,x15,x16)
   else
    some (0,c7.2.1,c7.2.2.1,c7.2.2.2.1,c7.2.2.2.2,x9,x10,x11,x12,x13,x14,x15,x16)
def EF (y:(Int×(Int×(List (List Int)×(Int×(Bool×(Int×(Int×(List UInt8×(List (Int×Int)×(List (List (Int×(Int×List UInt8)))×(Int×(Bool×(Int×(List (List Int)×(List Int×(Bool×(Int×Bool)))))))))))))))))):Option ((Int×(Int×(List (List Int)×(Int×(Bool×(Int×(Int×(List UInt8×(List (Int×Int)×(List (List (Int×(Int×List UInt8)))×(Int×(Bool×(Int×(List (List Int)×(List Int×(Bool×(Int×Bool)))))))))))))))))⊕(Int×(List (List Int)×(Int×(Bool×(Int×(Int×(List UInt8×(List (Int×Int)×(List (List (Int×(Int×List UInt8)))×(Int×(Bool×(Int×(List (List Int)×(List Int×(Bool×(Int×Bool))))))))))))))))):=
 if (decide ((y.2.1:Int) < 33))=true then
  if (decide (¬ (8:Int)=0))=true then
  if (decide ((0:Int)≤IntKind.wrap .i64 (Int.tdiv y.2.1 8)))=true then
  if (decide ((IntKind.wrap .i64 (Int.tdiv y.2.1 8):Int) < ((List.length y.2.2.2.2.2.2.2.2.2.2.2.2.2.2.1:Nat):Int)))=true then
  Option.bind (y.2.2.2.2.2.2.2.2.2.2.2.2.2.2.1[0+Int.toNat (IntKind.wrap .i64 (Int.tdiv y.2.1 8))]?) fun r7=>
  if (decide (¬ (8:Int)=0))=true then
  if (decide ((0:Int)≤Int.tmod y.2.1 8))=true then
  if (decide ((0:Int)≤IntKind.wrap .i64 (Int.tdiv y.2.1 8)))=true then
  if (decide ((IntKind.wrap .i64 (Int.tdiv y.2.1 8):Int) < ((List.length y.2.2.2.2.2.2.2.2.2.2.2.2.2.2.1:Nat):Int)))=true then
  Option.bind (y.2.2.2.2.2.2.2.2.2.2.2.2.2.2.1[0+Int.toNat (IntKind.wrap .i64 (Int.tdiv y.2.1 8))]?) fun r8=>
  Option.bind (y.2.2.2.2.2.2.2.2.2.2.2.2.2.2.1[0+Int.toNat (IntKind.wrap .i64 (Int.tdiv y.2.1 8))]?) fun r9=>
  some (.inl (y.1,IntKind.wrap .i64 (y.2.1+1),y.2.2.1,y.2.2.2.1,y.2.2.2.2.1,y.2.2.2.2.2.1,y.2.2.2.2.2.2.1,y.2.2.2.2.2.2.2.1,y.2.2.2.2.2.2.2.2.1,y.2.2.2.2.2.2.2.2.2.1,y.2.2.2.2.2.2.2.2.2.2.1,y.2.2.2.2.2.2.2.2.2.2.2.1,y.2.2.2.2.2.2.2.2.2.2.2.2.1,y.2.2.2.2.2.2.2.2.2.2.2.2.2.1,y.2.2.2.2.2.2.2.2.2.2.2.2.2.2.1.set (0+Int.toNat (IntKind.wrap .i64 (Int.tdiv y.2.1 8))) (IntKind.wrap .u8 (((BitVec.ofInt (IntKind.bits .u8) r7 ||| BitVec.ofInt (IntKind.bits .u8) (IntKind.wrap .u8 (1 * 2 ^ (min (Int.toNat (Int.tmod y.2.1 8)) (IntKind.bits .u8))))).toNat:Int))),y.2.2.2.2.2.2.2.2.2.2.2.2.2.2.2.1,y.2.2.2.2.2.2.2.2.2.2.2.2.2.2.2.2.1,y.2.2.2.2.2.2.2.2.2.2.2.2.2.2.2.2.2))
  else none
  else none
  else none
  else none
  else none
  else none
  else none
 else
  some (.inr (y.1,y.2.2.1,y.2.2.2.1,y.2.2.2.2.1,y.2.2.2.2.2.1,y.2.2.2.2.2.2.1,y.2.2.2.2.2.2.2.1,y.2.2.2.2.2.2.2.2.1,y.2.2.2.2.2.2.2.2.2.1,y.2.2.2.2.2.2.2.2.2.2.1,y.2.2.2.2.2.2.2.2.2.2.2.1,y.2.2.2.2.2.2.2.2.2.2.2.2.1,y.2.2.2.2.2.2.2.2.2.2.2.2.2.1,y.2.2.2.2.2.2.2.2.2.2.2.2.2.2.1,y.2.2.2.2.2.2.2.2.2.2.2.2.2.2.2.1,y.2.2.2.2.2.2.2.2.2.2.2.2.2.2.2.2.1,y.2.2.2.2.2.2.2.2.2.2.2.2.2.2.2.2.2))
def B9 (x0:List (List Int)) (x1:Int) (x2:Bool) (x3:Int) (x4:Int) (x5:Int) (x6:List UInt8) (x7:List (Int×Int)) (x8:List (List (Int×(Int×List UInt8)))):Option ((Int×(List (List Int)×(Int×(Bool×Int))))):=
 Option.bind (α:=(Int×(Bool×(List (List Int)×(Int×(Bool×(Int×(Int×(List UInt8×(List (Int×Int)×(List (List (Int×(Int×List UInt8)))×(Int×(Bool×Int))))))))))))) (
   Option.bind (Jz x0 x1 x2 x3) fun c1=>
   if (!c1)=true then
    some (x4,true,x0,x1,x2,x3,x5,x6,x7,x8,0,false,0)
   else
    Option.bind (BM x4 1 30) fun c2=>
    if (!c2)=true then
     some (x4,true,x0,x1,x2,x3,x5,x6,x7,x8,0,false,0)
    else
     Option.bind (GT x5 x6 x7 x8) fun c3=>
     if (!c3)=true then
      some (x4,true,x0,x1,x2,x3,x5,x6,x7,x8,0,false,0)
     else
     if (decide ((0:Int) < ((List.length x8:Nat):Int)))=true then
      some (x4,true,x0,x1,x2,x3,x5,x6,x7,x8,0,false,0)
     else
     some (x4,decide ((999999900:Int) < x1),x0,x1,x2,x3,x5,x6,x7,x8,0,false,0)) fun v4=>
 if v4.2.1=true then
  some (1,[],0,false,0)
 else
 if (!v4.2.2.2.2.1)=true then
  Option.bind (Dl v4.2.2.1 v4.2.2.2.1 v4.2.2.2.2.1 v4.2.2.2.2.2.1) fun c5=>
  some (2,c5.1,c5.2.1,c5.2.2.1,c5.2.2.2)
 else
  Option.bind (FW v4.2.2.1) fun c6=>
  if (decide ((0:Int)≤20))=true then
  if (decide ((20:Int)≤20))=true then
  if (Aa (Int.toNat 20) 1)=true then
  Option.bind (Ab EF (v4.1,0,v4.2.2.1,v4.2.2.2.1,v4.2.2.2.2.1,v4.2.2.2.2.2.1,v4.2.2.2.2.2.2.1,v4.2.2.2.2.2.2.2.1,v4.2.2.2.2.2.2.2.2.1,v4.2.2.2.2.2.2.2.2.2.1,v4.2.2.2.2.2.2.2.2.2.2.1,v4.2.2.2.2.2.2.2.2.2.2.2.1,v4.2.2.2.2.2.2.2.2.2.2.2.2,c6,List.replicate (Int.toNat 20) (0:Int),false,0,false)) fun v10=>
  Option.bind (CP v10.2.2.2.2.2.2.1 0 v10.2.2.2.2.2.2.2.2.2.2.2.2.1 v10.2.2.2.2.2.2.2.2.2.2.2.2.2.1 [] [] [] v10.2.2.2.2.2.2.2.2.2.2.2.2.2.2.1 v10.2.2.2.2.2.2.2.2.2.2.2.2.2.2.2.1 v10.2.2.2.2.2.2.2.2.2.2.2.2.2.2.2.2) fun c11=>
  Option.bind (IL v10.2.2.2.2.2.2.2.1) fun c12=>
  Option.bind (Br 448 c12 c11.2.1 c11.2.2.1 c11.2.2.2.1 c11.2.2.2.2.1 c11.2.2.2.2.2.1 c11.2.2.2.2.2.2.1 c11.2.2.2.2.2.2.2.1 c11.2.2.2.2.2.2.2.2) fun c13=>
  Option.bind (HY (c13.1,(c13.2.1,(c13.2.2.1,c13.2.2.2.1))) 0) fun c14=>
  Option.bind (Bf c14.2.1 c14.2.2.1 c14.2.2.2 c13.1 c13.2.1 c13.2.2.1 c13.2.2.2.1 c13.2.2.2.2.1 c13.2.2.2.2.2.1 c13.2.2.2.2.2.2.1 c13.2.2.2.2.2.2.2) fun c15=>
  Option.bind (A6 v10.2.1 v10.2.2.1 v10.2.2.2.1 v10.2.2.2.2.1 v10.2.2.2.2.2.1 v10.2.2.2.2.2.1 v10.1 c15.1 c11.1 c15.2.1 c15.2.2.1 c15.2.2.2.1 c15.2.2.2.2.1 c15.2.2.2.2.2.1 c15.2.2.2.2.2.2.1 c15.2.2.2.2.2.2.2.1 c15.2.2.2.2.2.2.2.2) fun c16=>
  some (c16.1,c16.2.1,c16.2.2.1,c16.2.2.2.1,c16.2.2.2.2.1)
  else none
  else none
  else none
def H7 (y:(List Int×(List Int×Int))):Option ((List Int×(List Int×Int))⊕(Unit⊕Bool)):=
 if (decide ((y.2.2:Int) < ((List.length y.1:Nat):Int)))=true then
  if (decide ((0:Int)≤y.2.2))=true then
  Option.bind (y.1[Int.toNat y.2.2]?) fun r1=>
  if (decide ((0:Int)≤y.2.2))=true then
  Option.bind (y.2.1[Int.toNat y.2.2]?) fun r2=>
  if (decide (¬ (r1:Int)=r2))=true then
   some (.inr (.inr false))
  else
   some (.inl (y.1,y.2.1,IntKind.wrap .i64 (y.2.2+1)))
  else none
  else none
 else
  some (.inr (.inl ()))
def Lu (x0:List Int) (x1:List Int):Option (Bool):=
 if (decide (¬ (((List.length x0:Nat):Int):Int)=((List.length x1:Nat):Int)))=true then
  some false
 else
  Option.bind (Ab H7 (x0,x1,0)) fun v3=>
  match v3 with
  | .inl y4=>
   some true
  | .inr s5=>
   some s5
def Ha (y:(List (List Int)×(List (List Int)×Int))):Option ((List (List Int)×(List (List Int)×Int))⊕(Unit⊕Bool)):=
 if (decide ((y.2.2:Int) < ((List.length y.1:Nat):Int)))=true then
  if (decide ((0:Int)≤y.2.2))=true then
  Option.bind (y.1[Int.toNat y.2.2]?) fun r1=>
  if (decide ((0:Int)≤y.2.2))=true then
  Option.bind (y.2.1[Int.toNat y.2.2]?) fun r2=>
  Option.bind (Lu r1 r2) fun c3=>
  if (!c3)=true then
   some (.inr (.inr false))
  else
   some (.inl (y.1,y.2.1,IntKind.wrap .i64 (y.2.2+1)))
  else none
  else none
 else
  some (.inr (.inl ()))
def Jp (x0:List (List Int)) (x1:List (List Int)):Option (Bool):=
 if (decide (¬ (((List.length x0:Nat):Int):Int)=((List.length x1:Nat):Int)))=true then
  some false
 else
  Option.bind (Ab Ha (x0,x1,0)) fun v4=>
  match v4 with
  | .inl y5=>
   some true
  | .inr s6=>
   some s6
def E0 (x0:List (List Int)) (x1:Int) (x2:Bool) (x3:Int) (x4:List (List Int)) (x5:Int) (x6:Bool) (x7:Int):Option (Bool):=
 Option.bind (Jp x0 x4) fun c1=>
 if (!c1)=true then
  some false
 else
 if (decide (¬ (x1:Int)=x5))=true then
  some false
 else
 if (x2 != x6)=true then
  some false
 else
 if (decide (¬ (x3:Int)=x7))=true then
  some false
 else
  some true
def Po (x0:Int) (x1:Int) (x2:Int) (x3:Int):Option (Bool):=
 if (decide (¬ (x0:Int)=x2))=true then
  some false
 else
 if (decide (¬ (x1:Int)=x3))=true then
  some false
 else
  some true
def IS (y:(List (Int×Int)×(List (Int×Int)×Int))):Option ((List (Int×Int)×(List (Int×Int)×Int))⊕(Unit⊕Bool)):=
 if (decide ((y.2.2:Int) < ((List.length y.1:Nat):Int)))=true then
  if (decide ((0:Int)≤y.2.2))=true then
  Option.bind (y.1[Int.toNat y.2.2]?) fun r1=>
  if (decide ((0:Int)≤y.2.2))=true then
  Option.bind (y.2.1[Int.toNat y.2.2]?) fun r2=>
  Option.bind (Po r1.1 r1.2 r2.1 r2.2) fun c3=>
  if (!c3)=true then
   some (.inr (.inr false))
  else
   some (.inl (y.1,y.2.1,IntKind.wrap .i64 (y.2.2+1)))
  else none
  else none
 else
  some (.inr (.inl ()))
def M5 (x0:List (Int×Int)) (x1:List (Int×Int)):Option (Bool):=
 if (decide (¬ (((List.length x0:Nat):Int):Int)=((List.length x1:Nat):Int)))=true then
  some false
 else
  Option.bind (Ab IS (x0,x1,0)) fun v4=>
  match v4 with
  | .inl y5=>
   some true
  | .inr s6=>
   some s6
def MN (x0:Int) (x1:Int) (x2:List UInt8) (x3:Int) (x4:Int) (x5:List UInt8):Option (Bool):=
 if (decide (¬ (x0:Int)=x3))=true then
  some false
 else
 if (decide (¬ (x1:Int)=x4))=true then
  some false
 else
 if (!((x2:List UInt8) == x5))=true then
  some false
 else
  some true
def H2 (y:(List (Int×(Int×List UInt8))×(List (Int×(Int×List UInt8))×Int))):Option ((List (Int×(Int×List UInt8))×(List (Int×(Int×List UInt8))×Int))⊕(Unit⊕Bool)):=
 if (decide ((y.2.2:Int) < ((List.length y.1:Nat):Int)))=true then
  if (decide ((0:Int)≤y.2.2))=true then
  Option.bind (y.1[Int.toNat y.2.2]?) fun r1=>
  if (decide ((0:Int)≤y.2.2))=true then
  Option.bind (y.2.1[Int.toNat y.2.2]?) fun r2=>
  Option.bind (MN r1.1 r1.2.1 r1.2.2 r2.1 r2.2.1 r2.2.2) fun c3=>
  if (!c3)=true then
   some (.inr (.inr false))
  else
   some (.inl (y.1,y.2.1,IntKind.wrap .i64 (y.2.2+1)))
  else none
  else none
 else
  some (.inr (.inl ()))
def KR (x0:List (Int×(Int×List UInt8))) (x1:List (Int×(Int×List UInt8))):Option (Bool):=
 if (decide (¬ (((List.length x0:Nat):Int):Int)=((List.length x1:Nat):Int)))=true then
  some false
 else
  Option.bind (Ab H2 (x0,x1,0)) fun v4=>
  match v4 with
  | .inl y5=>
   some true
  | .inr s6=>
   some s6
def Jt (x0:List (Int×(Int×List UInt8))) (x1:List (Int×(Int×List UInt8))):Option (Bool):=
 Option.bind (KR x0 x1) fun c1=>
 if (!c1)=true then
  some false
 else
  some true
def Gl (y:(List (List (Int×(Int×List UInt8)))×(List (List (Int×(Int×List UInt8)))×Int))):Option ((List (List (Int×(Int×List UInt8)))×(List (List (Int×(Int×List UInt8)))×Int))⊕(Unit⊕Bool)):=
 if (decide ((y.2.2:Int) < ((List.length y.1:Nat):Int)))=true then
  if (decide ((0:Int)≤y.2.2))=true then
  Option.bind (y.1[Int.toNat y.2.2]?) fun r1=>
  if (decide ((0:Int)≤y.2.2))=true then
  Option.bind (y.2.1[Int.toNat y.2.2]?) fun r2=>
  Option.bind (Jt r1 r2) fun c3=>
  if (!c3)=true then
   some (.inr (.inr false))
  else
   some (.inl (y.1,y.2.1,IntKind.wrap .i64 (y.2.2+1)))
  else none
  else none
 else
  some (.inr (.inl ()))
def IM (x0:List (List (Int×(Int×List UInt8)))) (x1:List (List (Int×(Int×List UInt8)))):Option (Bool):=
 if (decide (¬ (((List.length x0:Nat):Int):Int)=((List.length x1:Nat):Int)))=true then
  some false
 else
  Option.bind (Ab Gl (x0,x1,0)) fun v4=>
  match v4 with
  | .inl y5=>
   some true
  | .inr s6=>
   some s6
def GJ (x0:Int) (x1:List UInt8) (x2:List (Int×Int)) (x3:List (List (Int×(Int×List UInt8)))) (x4:Int) (x5:List UInt8) (x6:List (Int×Int)) (x7:List (List (Int×(Int×List UInt8)))):Option (Bool):=
 if (decide (¬ (x0:Int)=x4))=true then
  some false
 else
 if (!((x1:List UInt8) == x5))=true then
  some false
 else
  Option.bind (M5 x2 x6) fun c1=>
  if (!c1)=true then
   some false
  else
   Option.bind (IM x3 x7) fun c2=>
   if (!c2)=true then
    some false
   else
    some true
def EP (y:(List Int×(Int×Int))):Option ((List Int×(Int×Int))⊕(List Int×Int)):=
 if (decide ((y.2.2:Int) < ((List.length y.1:Nat):Int)))=true then
  if (decide ((0:Int)≤y.2.2))=true then
  if (decide ((y.2.2:Int) < ((List.length y.1:Nat):Int)))=true then
  Option.bind (y.1[0+Int.toNat y.2.2]?) fun r1=>
  Option.bind (y.1[0+Int.toNat y.2.2]?) fun r2=>
  some (.inl (y.1.set (0+Int.toNat y.2.2) (IntKind.wrap .u8 y.2.1),IntKind.wrap .i64 (y.2.1+1),IntKind.wrap .i64 (y.2.2+1)))
  else none
  else none
 else
  some (.inr (y.1,y.2.1))
def G7 (x0:List Int) (x1:Int):Option ((List Int×Int)):=
 Option.bind (Ab EP (x0,x1,0)) fun v3=>
 some (v3.1,v3.2)
def Et (y:(List (List Int)×(Int×Int))):Option ((List (List Int)×(Int×Int))⊕(List (List Int)×Int)):=
 if (decide ((y.2.2:Int) < ((List.length y.1:Nat):Int)))=true then
  if (decide ((0:Int)≤y.2.2))=true then
  if (decide ((y.2.2:Int) < ((List.length y.1:Nat):Int)))=true then
  Option.bind (y.1[0+Int.toNat y.2.2]?) fun r1=>
  Option.bind (y.1[0+Int.toNat y.2.2]?) fun r2=>
  Option.bind (G7 r2 y.2.1) fun c3=>
  Option.bind (y.1[0+Int.toNat y.2.2]?) fun r4=>
  Option.bind (y.1[0+Int.toNat y.2.2]?) fun r5=>
  some (.inl (y.1.set (0+Int.toNat y.2.2) c3.1,c3.2,IntKind.wrap .i64 (y.2.2+1)))
  else none
  else none
 else
  some (.inr (y.1,y.2.1))
def Gd (x0:List (List Int)) (x1:Int):Option ((List (List Int)×Int)):=
 Option.bind (Ab Et (x0,x1,0)) fun v6=>
 some (v6.1,v6.2)
def DL (x0:List (List Int)) (x1:Int) (x2:Bool) (x3:Int) (x4:Int):Option ((List (List Int)×(Int×(Bool×(Int×Int))))):=
 Option.bind (Gd x0 x4) fun c1=>
 some (c1.1,x1,x2,x3,c1.2)
def Fn (y:(List (Int×Int)×(Int×Int))):Option ((List (Int×Int)×(Int×Int))⊕(List (Int×Int)×Int)):=
 if (decide ((y.2.2:Int) < ((List.length y.1:Nat):Int)))=true then
  if (decide ((0:Int)≤y.2.2))=true then
  if (decide ((y.2.2:Int) < ((List.length y.1:Nat):Int)))=true then
  Option.bind (y.1[0+Int.toNat y.2.2]?) fun r1=>
  Option.bind (y.1[0+Int.toNat y.2.2]?) fun r2=>
  if (decide ((0:Int)≤y.2.2))=true then
  if (decide ((y.2.2:Int) < ((List.length (y.1.set (0+Int.toNat y.2.2) (y.2.1,r2.2)):Nat):Int)))=true then
  Option.bind ((y.1.set (0+Int.toNat y.2.2) (y.2.1,r2.2))[0+Int.toNat y.2.2]?) fun r3=>
  Option.bind ((y.1.set (0+Int.toNat y.2.2) (y.2.1,r2.2))[0+Int.toNat y.2.2]?) fun r4=>
  some (.inl ((y.1.set (0+Int.toNat y.2.2) (y.2.1,r2.2)).set (0+Int.toNat y.2.2) (r4.1,IntKind.wrap .i64 (y.2.1+1)),IntKind.wrap .i64 ((IntKind.wrap .i64 (y.2.1+1))+1),IntKind.wrap .i64 (y.2.2+1)))
  else none
  else none
  else none
  else none
 else
  some (.inr (y.1,y.2.1))
def HZ (x0:List (Int×Int)) (x1:Int):Option ((List (Int×Int)×Int)):=
 Option.bind (Ab Fn (x0,x1,0)) fun v5=>
 some (v5.1,v5.2)
def Jk (y:(Int×List UInt8)):Option ((Int×List UInt8)⊕(List UInt8)):=
 if (decide ((0:Int) < y.1))=true then
  if (decide (¬ (10:Int)=0))=true then
  if (decide ((List.length (Bu [IntKind.wrap .u8 (IntKind.wrap .i64 (48+(Int.tmod y.1 10)))])+List.length y.2:Nat)≤9223372036854775807))=true then
  if (decide (¬ (10:Int)=0))=true then
  some (.inl (IntKind.wrap .i64 (Int.tdiv y.1 10),(Bu [IntKind.wrap .u8 (IntKind.wrap .i64 (48+(Int.tmod y.1 10)))]:List UInt8)++y.2))
  else none
  else none
  else none
 else
  some (.inr y.2)
def Gm (x0:Int):Option (List UInt8):=
 if (decide ((x0:Int)≤0))=true then
  some ([109,48]:List UInt8)
 else
  Option.bind (Ab Jk (x0,([]:List UInt8))) fun v1=>
  if (decide ((List.length ([109]:List UInt8)+List.length v1:Nat)≤9223372036854775807))=true then
  some ((([109]:List UInt8):List UInt8)++v1)
  else none
def E1 (y:(List (Int×(Int×List UInt8))×(Int×Int))):Option ((List (Int×(Int×List UInt8))×(Int×Int))⊕(List (Int×(Int×List UInt8))×Int)):=
 if (decide ((y.2.2:Int) < ((List.length y.1:Nat):Int)))=true then
  if (decide ((0:Int)≤y.2.2))=true then
  if (decide ((y.2.2:Int) < ((List.length y.1:Nat):Int)))=true then
  Option.bind (y.1[0+Int.toNat y.2.2]?) fun r1=>
  Option.bind (y.1[0+Int.toNat y.2.2]?) fun r2=>
  if (decide ((0:Int)≤y.2.2))=true then
  if (decide ((y.2.2:Int) < ((List.length (y.1.set (0+Int.toNat y.2.2) (y.2.1,r2.2)):Nat):Int)))=true then
  Option.bind ((y.1.set (0+Int.toNat y.2.2) (y.2.1,r2.2))[0+Int.toNat y.2.2]?) fun r3=>
  Option.bind ((y.1.set (0+Int.toNat y.2.2) (y.2.1,r2.2))[0+Int.toNat y.2.2]?) fun r4=>
  Option.bind (Gm (IntKind.wrap .i64 ((IntKind.wrap .i64 (y.2.1+1))+1))) fun c5=>
  if (decide ((0:Int)≤y.2.2))=true then
  if (decide ((y.2.2:Int) < ((List.length ((y.1.set (0+Int.toNat y.2.2) (y.2.1,r2.2)).set (0+Int.toNat y.2.2) (r4.1,(IntKind.wrap .i64 (y.2.1+1),r4.2.2))):Nat):Int)))=true then
  Option.bind (((y.1.set (0+Int.toNat y.2.2) (y.2.1,r2.2)).set (0+Int.toNat y.2.2) (r4.1,(IntKind.wrap .i64 (y.2.1+1),r4.2.2)))[0+Int.toNat y.2.2]?) fun r6=>
  Option.bind (((y.1.set (0+Int.toNat y.2.2) (y.2.1,r2.2)).set (0+Int.toNat y.2.2) (r4.1,(IntKind.wrap .i64 (y.2.1+1),r4.2.2)))[0+Int.toNat y.2.2]?) fun r7=>
  some (.inl (((y.1.set (0+Int.toNat y.2.2) (y.2.1,r2.2)).set (0+Int.toNat y.2.2) (r4.1,(IntKind.wrap .i64 (y.2.1+1),r4.2.2))).set (0+Int.toNat y.2.2) (r7.1,(r7.2.1,c5)),IntKind.wrap .i64 ((IntKind.wrap .i64 ((IntKind.wrap .i64 (y.2.1+1))+1))+1),IntKind.wrap .i64 (y.2.2+1)))
  else none
  else none
  else none
  else none
  else none
  else none
 else
  some (.inr (y.1,y.2.1))
def G9 (x0:List (Int×(Int×List UInt8))) (x1:Int):Option ((List (Int×(Int×List UInt8))×Int)):=
 Option.bind (Ab E1 (x0,x1,0)) fun v8=>
 some (v8.1,v8.2)
def DW (y:(List (List (Int×(Int×List UInt8)))×(Int×Int))):Option ((List (List (Int×(Int×List UInt8)))×(Int×Int))⊕(List (List (Int×(Int×List UInt8)))×Int)):=
 if (decide ((y.2.2:Int) < ((List.length y.1:Nat):Int)))=true then
  if (decide ((0:Int)≤y.2.2))=true then
  if (decide ((y.2.2:Int) < ((List.length y.1:Nat):Int)))=true then
  Option.bind (y.1[0+Int.toNat y.2.2]?) fun r1=>
  Option.bind (y.1[0+Int.toNat y.2.2]?) fun r2=>
  Option.bind (G9 r2 y.2.1) fun c3=>
  Option.bind (y.1[0+Int.toNat y.2.2]?) fun r4=>
  Option.bind (y.1[0+Int.toNat y.2.2]?) fun r5=>
  some (.inl (y.1.set (0+Int.toNat y.2.2) c3.1,c3.2,IntKind.wrap .i64 (y.2.2+1)))
  else none
  else none
 else
  some (.inr (y.1,y.2.1))
def Fo (x0:List (List (Int×(Int×List UInt8)))) (x1:Int):Option ((List (List (Int×(Int×List UInt8)))×Int)):=
 Option.bind (Ab DW (x0,x1,0)) fun v6=>
 some (v6.1,v6.2)
def Ed (x0:Int) (x1:List UInt8) (x2:List (Int×Int)) (x3:List (List (Int×(Int×List UInt8)))) (x4:Int):Option ((Int×(List UInt8×(List (Int×Int)×(List (List (Int×(Int×List UInt8)))×Int))))):=
 Option.bind (HZ x2 x4) fun c1=>
 Option.bind (Fo x3 c1.2) fun c2=>
 some (x0,x1,c1.1,c2.1,c2.2)
def Gj (y:(List Int×(Int×Int))):Option ((List Int×(Int×Int))⊕(Int⊕Int)):=
 if (decide ((y.2.2:Int) < ((List.length y.1:Nat):Int)))=true then
  if (decide ((0:Int)≤y.2.2))=true then
  Option.bind (y.1[Int.toNat y.2.2]?) fun r1=>
  if (decide (¬ (r1:Int)=(IntKind.wrap .u8 y.2.1)))=true then
   some (.inr (.inr (-1)))
  else
   some (.inl (y.1,IntKind.wrap .i64 (y.2.1+1),IntKind.wrap .i64 (y.2.2+1)))
  else none
 else
  some (.inr (.inl y.2.1))
def IO (x0:List Int) (x1:Int):Option (Int):=
 Option.bind (Ab Gj (x0,x1,0)) fun v2=>
 match v2 with
 | .inl y3=>
  some y3
 | .inr s4=>
  some s4
def Fr (y:(List (List Int)×(Int×Int))):Option ((List (List Int)×(Int×Int))⊕(Int⊕Int)):=
 if (decide ((y.2.2:Int) < ((List.length y.1:Nat):Int)))=true then
  if (decide ((0:Int)≤y.2.2))=true then
  Option.bind (y.1[Int.toNat y.2.2]?) fun r1=>
  Option.bind (IO r1 y.2.1) fun c2=>
  if (decide ((c2:Int) < 0))=true then
   some (.inr (.inr (-1)))
  else
   some (.inl (y.1,c2,IntKind.wrap .i64 (y.2.2+1)))
  else none
 else
  some (.inr (.inl y.2.1))
def H4 (x0:List (List Int)) (x1:Int):Option (Int):=
 Option.bind (Ab Fr (x0,x1,0)) fun v3=>
 match v3 with
 | .inl y4=>
  some y4
 | .inr s5=>
  some s5
def Gk (x0:List (List Int)) (x1:Int) (x2:Bool) (x3:Int) (x4:Int):Option (Int):=
 Option.bind (H4 x0 x4) fun c1=>
 if (decide ((c1:Int) < 0))=true then
  some (-1)
 else
  some c1
def Ec (x0:List (List Int)) (x1:Int) (x2:Bool) (x3:Int) (x4:Int) (x5:Int) (x6:List UInt8) (x7:List (Int×Int)) (x8:List (List (Int×(Int×List UInt8)))):Option (Bool):=
 Option.bind (M1 x0 x1 x2 x3 1048576) fun c1=>
 if (decide ((c1:Int) < 0))=true then
  some true
 else
  Option.bind (IE x5 x6 x7 x8 c1) fun c2=>
  if (decide ((c2:Int) < 0))=true then
   some true
  else
   Option.bind (FJ x0 x1 x2 x3) fun c3=>
   Option.bind (Dz x5 x6 x7 x8) fun c4=>
   Option.bind (CB c3.1 c3.2.1 c3.2.2.1 c3.2.2.2 x4 c4.1 c4.2.1 c4.2.2.1 c4.2.2.2) fun c5=>
   Option.bind (FJ x0 x1 x2 x3) fun c6=>
   Option.bind (Dz x5 x6 x7 x8) fun c7=>
   Option.bind (B9 c6.1 c6.2.1 c6.2.2.1 c6.2.2.2 x4 c7.1 c7.2.1 c7.2.2.1 c7.2.2.2) fun c8=>
   Option.bind (α:=(Int×(Int×(Int×(Bool×(List (List Int)×(Int×(Bool×(Int×(Int×(List UInt8×(List (Int×Int)×(List (List (Int×(Int×List UInt8)))×(List (List Int)×(Int×(Bool×(Int×(List (List Int)×(Int×(Bool×(Int×(Int×(List UInt8×(List (Int×Int)×(List (List (Int×(Int×List UInt8)))×(List (List Int)×(Int×(Bool×Int)))))))))))))))))))))))))))) (
     Option.bind (E0 c8.2.1 c8.2.2.1 c8.2.2.2.1 c8.2.2.2.2 c5.2.1 c5.2.2.1 c5.2.2.2.1 c5.2.2.2.2) fun c9=>
     if (!c9)=true then
      some (x4,c5.1,c8.1,true,x0,x1,x2,x3,x5,x6,x7,x8,c5.2.1,c5.2.2.1,c5.2.2.2.1,c5.2.2.2.2,c6.1,c6.2.1,c6.2.2.1,c6.2.2.2,c7.1,c7.2.1,c7.2.2.1,c7.2.2.2,c8.2.1,c8.2.2.1,c8.2.2.2.1,c8.2.2.2.2)
     else
     some (x4,c5.1,c8.1,decide (¬ (c8.1:Int)=c5.1),x0,x1,x2,x3,x5,x6,x7,x8,c5.2.1,c5.2.2.1,c5.2.2.2.1,c5.2.2.2.2,c6.1,c6.2.1,c6.2.2.1,c6.2.2.2,c7.1,c7.2.1,c7.2.2.1,c7.2.2.2,c8.2.1,c8.2.2.1,c8.2.2.2.1,c8.2.2.2.2)) fun v10=>
   if v10.2.2.2.1=true then
    some false
   else
    Option.bind (FJ v10.2.2.2.2.1 v10.2.2.2.2.2.1 v10.2.2.2.2.2.2.1 v10.2.2.2.2.2.2.2.1) fun c11=>
    Option.bind (E0 v10.2.2.2.2.2.2.2.2.2.2.2.2.2.2.2.2.1 v10.2.2.2.2.2.2.2.2.2.2.2.2.2.2.2.2.2.1 v10.2.2.2.2.2.2.2.2.2.2.2.2.2.2.2.2.2.2.1 v10.2.2.2.2.2.2.2.2.2.2.2.2.2.2.2.2.2.2.2.1 c11.1 c11.2.1 c11.2.2.1 c11.2.2.2) fun c12=>
    if (!c12)=true then
     some false
    else
     Option.bind (Dz v10.2.2.2.2.2.2.2.2.1 v10.2.2.2.2.2.2.2.2.2.1 v10.2.2.2.2.2.2.2.2.2.2.1 v10.2.2.2.2.2.2.2.2.2.2.2.1) fun c13=>
     Option.bind (GJ v10.2.2.2.2.2.2.2.2.2.2.2.2.2.2.2.2.2.2.2.2.1 v10.2.2.2.2.2.2.2.2.2.2.2.2.2.2.2.2.2.2.2.2.2.1 v10.2.2.2.2.2.2.2.2.2.2.2.2.2.2.2.2.2.2.2.2.2.2.1 v10.2.2.2.2.2.2.2.2.2.2.2.2.2.2.2.2.2.2.2.2.2.2.2.1 c13.1 c13.2.1 c13.2.2.1 c13.2.2.2) fun c14=>
     if (!c14)=true then
      some false
     else
      Option.bind (DL v10.2.2.2.2.2.2.2.2.2.2.2.2.2.2.2.2.1 v10.2.2.2.2.2.2.2.2.2.2.2.2.2.2.2.2.2.1 v10.2.2.2.2.2.2.2.2.2.2.2.2.2.2.2.2.2.2.1 v10.2.2.2.2.2.2.2.2.2.2.2.2.2.2.2.2.2.2.2.1 1) fun c15=>
      Option.bind (Ed v10.2.2.2.2.2.2.2.2.2.2.2.2.2.2.2.2.2.2.2.2.1 v10.2.2.2.2.2.2.2.2.2.2.2.2.2.2.2.2.2.2.2.2.2.1 v10.2.2.2.2.2.2.2.2.2.2.2.2.2.2.2.2.2.2.2.2.2.2.1 v10.2.2.2.2.2.2.2.2.2.2.2.2.2.2.2.2.2.2.2.2.2.2.2.1 c15.2.2.2.2) fun c16=>
      Option.bind (α:=(Int×(Int×(Bool×(List (List Int)×(Int×(Bool×(Int×(Int×(List UInt8×(List (Int×Int)×(List (List (Int×(Int×List UInt8)))×(List (List Int)×(Int×(Bool×(Int×(List (List Int)×(Int×(Bool×Int))))))))))))))))))) (
        if (decide ((c16.2.2.2.2:Int) < 0))=true then
         some (v10.1,v10.2.1,true,v10.2.2.2.2.1,v10.2.2.2.2.2.1,v10.2.2.2.2.2.2.1,v10.2.2.2.2.2.2.2.1,v10.2.2.2.2.2.2.2.2.1,v10.2.2.2.2.2.2.2.2.2.1,v10.2.2.2.2.2.2.2.2.2.2.1,v10.2.2.2.2.2.2.2.2.2.2.2.1,v10.2.2.2.2.2.2.2.2.2.2.2.2.1,v10.2.2.2.2.2.2.2.2.2.2.2.2.2.1,v10.2.2.2.2.2.2.2.2.2.2.2.2.2.2.1,v10.2.2.2.2.2.2.2.2.2.2.2.2.2.2.2.1,v10.2.2.2.2.2.2.2.2.2.2.2.2.2.2.2.2.2.2.2.2.2.2.2.2.1,v10.2.2.2.2.2.2.2.2.2.2.2.2.2.2.2.2.2.2.2.2.2.2.2.2.2.1,v10.2.2.2.2.2.2.2.2.2.2.2.2.2.2.2.2.2.2.2.2.2.2.2.2.2.2.1,v10.2.2.2.2.2.2.2.2.2.2.2.2.2.2.2.2.2.2.2.2.2.2.2.2.2.2.2)
        else
         Option.bind (E0 v10.2.2.2.2.2.2.2.2.2.2.2.2.2.2.2.2.2.2.2.2.2.2.2.2.1 v10.2.2.2.2.2.2.2.2.2.2.2.2.2.2.2.2.2.2.2.2.2.2.2.2.2.1 v10.2.2.2.2.2.2.2.2.2.2.2.2.2.2.2.2.2.2.2.2.2.2.2.2.2.2.1 v10.2.2.2.2.2.2.2.2.2.2.2.2.2.2.2.2.2.2.2.2.2.2.2.2.2.2.2 v10.2.2.2.2.2.2.2.2.2.2.2.2.1 v10.2.2.2.2.2.2.2.2.2.2.2.2.2.1 v10.2.2.2.2.2.2.2.2.2.2.2.2.2.2.1 v10.2.2.2.2.2.2.2.2.2.2.2.2.2.2.2.1) fun c17=>
         if (!c17)=true then
          some (v10.1,v10.2.1,true,v10.2.2.2.2.1,v10.2.2.2.2.2.1,v10.2.2.2.2.2.2.1,v10.2.2.2.2.2.2.2.1,v10.2.2.2.2.2.2.2.2.1,v10.2.2.2.2.2.2.2.2.2.1,v10.2.2.2.2.2.2.2.2.2.2.1,v10.2.2.2.2.2.2.2.2.2.2.2.1,v10.2.2.2.2.2.2.2.2.2.2.2.2.1,v10.2.2.2.2.2.2.2.2.2.2.2.2.2.1,v10.2.2.2.2.2.2.2.2.2.2.2.2.2.2.1,v10.2.2.2.2.2.2.2.2.2.2.2.2.2.2.2.1,v10.2.2.2.2.2.2.2.2.2.2.2.2.2.2.2.2.2.2.2.2.2.2.2.2.1,v10.2.2.2.2.2.2.2.2.2.2.2.2.2.2.2.2.2.2.2.2.2.2.2.2.2.1,v10.2.2.2.2.2.2.2.2.2.2.2.2.2.2.2.2.2.2.2.2.2.2.2.2.2.2.1,v10.2.2.2.2.2.2.2.2.2.2.2.2.2.2.2.2.2.2.2.2.2.2.2.2.2.2.2)
         else
         some (v10.1,v10.2.1,decide (¬ (v10.2.2.1:Int)=v10.2.1),v10.2.2.2.2.1,v10.2.2.2.2.2.1,v10.2.2.2.2.2.2.1,v10.2.2.2.2.2.2.2.1,v10.2.2.2.2.2.2.2.2.1,v10.2.2.2.2.2.2.2.2.2.1,v10.2.2.2.2.2.2.2.2.2.2.1,v10.2.2.2.2.2.2.2.2.2.2.2.1,v10.2.2.2.2.2.2.2.2.2.2.2.2.1,v10.2.2.2.2.2.2.2.2.2.2.2.2.2.1,v10.2.2.2.2.2.2.2.2.2.2.2.2.2.2.1,v10.2.2.2.2.2.2.2.2.2.2.2.2.2.2.2.1,v10.2.2.2.2.2.2.2.2.2.2.2.2.2.2.2.2.2.2.2.2.2.2.2.2.1,v10.2.2.2.2.2.2.2.2.2.2.2.2.2.2.2.2.2.2.2.2.2.2.2.2.2.1,v10.2.2.2.2.2.2.2.2.2.2.2.2.2.2.2.2.2.2.2.2.2.2.2.2.2.2.1,v10.2.2.2.2.2.2.2.2.2.2.2.2.2.2.2.2.2.2.2.2.2.2.2.2.2.2.2)) fun v18=>
      if v18.2.2.1=true then
       some false
      else
       Option.bind (DL v18.2.2.2.2.2.2.2.2.2.2.2.2.2.2.2.1 v18.2.2.2.2.2.2.2.2.2.2.2.2.2.2.2.2.1 v18.2.2.2.2.2.2.2.2.2.2.2.2.2.2.2.2.2.1 v18.2.2.2.2.2.2.2.2.2.2.2.2.2.2.2.2.2.2 1) fun c19=>
       Option.bind (Gk c19.1 v18.2.2.2.2.2.2.2.2.2.2.2.2.2.2.2.2.1 v18.2.2.2.2.2.2.2.2.2.2.2.2.2.2.2.2.2.1 v18.2.2.2.2.2.2.2.2.2.2.2.2.2.2.2.2.2.2 1) fun c20=>
       if (decide ((c20:Int) < 0))=true then
        some false
       else
       if (decide (¬ (c20:Int)=c19.2.2.2.2))=true then
        some false
       else
        Option.bind (FJ v18.2.2.2.1 v18.2.2.2.2.1 v18.2.2.2.2.2.1 v18.2.2.2.2.2.2.1) fun c21=>
        Option.bind (Dz v18.2.2.2.2.2.2.2.1 v18.2.2.2.2.2.2.2.2.1 v18.2.2.2.2.2.2.2.2.2.1 v18.2.2.2.2.2.2.2.2.2.2.1) fun c22=>
        Option.bind (B9 c21.1 c21.2.1 c21.2.2.1 c21.2.2.2 v18.1 c22.1 c22.2.1 c22.2.2.1 c22.2.2.2) fun c23=>
        Option.bind (α:=(Int×(Bool×(List (List Int)×(Int×(Bool×Int)))))) (
          Option.bind (E0 c23.2.1 c23.2.2.1 c23.2.2.2.1 c23.2.2.2.2 v18.2.2.2.2.2.2.2.2.2.2.2.1 v18.2.2.2.2.2.2.2.2.2.2.2.2.1 v18.2.2.2.2.2.2.2.2.2.2.2.2.2.1 v18.2.2.2.2.2.2.2.2.2.2.2.2.2.2.1) fun c24=>
          if (!c24)=true then
           some (c19.2.2.2.2,true,c19.1,v18.2.2.2.2.2.2.2.2.2.2.2.2.2.2.2.2.1,v18.2.2.2.2.2.2.2.2.2.2.2.2.2.2.2.2.2.1,v18.2.2.2.2.2.2.2.2.2.2.2.2.2.2.2.2.2.2)
          else
          some (c19.2.2.2.2,decide (¬ (c23.1:Int)=v18.2.1),c19.1,v18.2.2.2.2.2.2.2.2.2.2.2.2.2.2.2.2.1,v18.2.2.2.2.2.2.2.2.2.2.2.2.2.2.2.2.2.1,v18.2.2.2.2.2.2.2.2.2.2.2.2.2.2.2.2.2.2)) fun v25=>
        if v25.2.1=true then
         some false
        else
         Option.bind (Gk v25.2.2.1 v25.2.2.2.1 v25.2.2.2.2.1 v25.2.2.2.2.2 1) fun c26=>
         if (decide ((c26:Int) < 0))=true then
          some false
         else
         if (decide (¬ (c26:Int)=v25.1))=true then
          some false
         else
          some true
end
end Go.V.G
namespace Go.V.G
open Go.V
theorem w64 {n:Int} (h1:-9223372036854775808≤n) (h2:n≤9223372036854775807):IntKind.wrap .i64 n=n:=IntWalk.i64_in n ⟨h1,h2⟩
theorem W2 {n:Int} (h1:0≤n) (h2:n≤18446744073709551615):IntKind.wrap .u64 n=n:=IntWalk.u64_in n ⟨h1,h2⟩
section
variable {σ τ:Type}
theorem Ap (f:σ→Option (σ⊕τ)) (st:Nat→σ) (n:Nat) (z:τ) (h:∀ k,k < n→f (st k)=some (.inl (st (k+1)))) (hz:f (st n)=some (.inr z)):Ab f (st 0)=some z:=by
 have:∀ j,j≤n→Ab f (st (n - j))=some z:=by
  intro j
  induction j with
  | zero=>intro _; rw [An,Nat.sub_zero,hz]
  | succ j ih=>
   intro hj
   rw [An,h _ (by omega),show n - (j+1)+1=n - j by omega]
   exact ih (by omega)
 have:=this n (Nat.le_refl _)
 rwa [Nat.sub_self] at this
theorem Wd (f:σ→Option (σ⊕τ)) (I:σ→Prop) (m:σ→Nat) (Q:τ→Prop) (step:∀ x,I x→(∃ y,f x=some (.inl y)∧I y∧m y < m x)∨∃ z,f x=some (.inr z)∧Q z) :
  ∀ x,I x→∃ z,Ab f x=some z∧Q z:=by
 intro x
 induction hm:m x using Nat.strongRecOn generalizing x with
 | ind k ih=>
  intro hx
  rcases step x hx with ⟨y,h1,h2,h3⟩ | ⟨z,h1,h2⟩
  ·obtain ⟨z,h4,h5⟩:=ih (m y) (by omega) y rfl h2
   exact ⟨z,by rw [An,h1]; exact h4,h5⟩
  ·exact ⟨z,by rw [An,h1],h2⟩
theorem AcD (f:σ→Option (σ⊕τ)) (I:σ→Prop) (m:σ→Nat) (F:σ→τ) (step:∀ x,I x→(∃ y,f x=some (.inl y)∧I y∧m y < m x∧F y=F x)∨f x=some (.inr (F x))) :
  ∀ x,I x→Ab f x=some (F x):=by
 intro x
 induction hm:m x using Nat.strongRecOn generalizing x with
 | ind k ih=>
  intro hx
  rcases step x hx with ⟨y,h1,h2,h3,h4⟩ | h1
  ·rw [An,h1,← h4]; exact ih (m y) (by omega) y rfl h2
  ·rw [An,h1]
end
end Go.V.G
set_option maxRecDepth 100000
namespace Go.V.G
open Go.V
def Ok {α:Type} (o:Option α) (Q:α→Prop):Prop:=∃ r,o=some r∧Q r
section
variable {α β σ τ:Type} {Q:α→Prop}
theorem Ok.mk {r:α} (h:Q r):Ok (some r) Q:=⟨r,rfl,h⟩
theorem Ok.of {o:Option α} {r:α} (h:o=some r) (hq:Q r):Ok o Q:=⟨r,h,hq⟩
theorem Ok.eq {o:Option α} {r:α} (h:Ok o fun x=>x=r):o=some r:=by obtain ⟨x,h,rfl⟩:=h; exact h
theorem Ok.mono {o:Option α} {R:α→Prop} (h:Ok o Q) (hq:∀ x,Q x→R x):Ok o R:=by obtain ⟨x,h,h'⟩:=h; exact ⟨x,h,hq x h'⟩
theorem Ok.bind {o:Option α} {f:α→Option β} {R:β→Prop} (h:Ok o Q) (hf:∀ x,Q x→Ok (f x) R):Ok (o.bind f) R:=by
 obtain ⟨x,h,hx⟩:=h
 subst h
 exact hf x hx
theorem Ok.bind_eq {o:Option α} {f:α→Option β} {R:β→Prop} {r:α} (h:o=some r) (hf:Ok (f r) R):Ok (o.bind f) R:=by subst h; exact hf
theorem Ok.ite {c:Prop} [Decidable c] {a b:Option α} (h1:c→Ok a Q) (h2:¬ c→Ok b Q):Ok (if c then a else b) Q:=by
 split
 ·rename_i h; exact h1 h
 ·rename_i h; exact h2 h
theorem Ok.yes {c:Prop} [Decidable c] {a b:Option α} (hc:c) (h:Ok a Q):Ok (if c then a else b) Q:=by rw [if_pos hc]; exact h
theorem Ok.no {c:Prop} [Decidable c] {a b:Option α} (hc:¬ c) (h:Ok b Q):Ok (if c then a else b) Q:=by rw [if_neg hc]; exact h
theorem Ok.loop {f:σ→Option (σ⊕τ)} (I:σ→Prop) (m:σ→Nat) {R:τ→Prop} {x:σ} (hx:I x) (step:∀ x,I x→Ok (f x) fun r=>match r with
  | .inl y=>I y∧m y < m x
  | .inr z=>R z):Ok (Ab f x) R:=by
 obtain ⟨z,h1,h2⟩:=Wd f I m R (fun x hx=>by
  obtain ⟨r,h1,h2⟩:=step x hx
  cases r with
  | inl y=>exact .inl ⟨y,h1,h2⟩
  | inr z=>exact .inr ⟨z,h1,h2⟩) x hx
 exact ⟨z,h1,h2⟩
end
abbrev Prt:=Int×(Int×List UInt8)
def kd (p:Prt):Int:=if 0 < p.1∧p.2.1=0∧p.2.2=[] then 1 else if 0 < p.2.1∧p.1=0∧p.2.2=[] then 2 else if p.2.2≠[]∧p.1=0∧p.2.1=0 then 3 else 0
theorem TM (a b:Int) (s:List UInt8):GC a b s=some (kd (a,b,s)):=by
 unfold GC kd
 by_cases h1:0 < a <;> by_cases h2:b=0 <;> by_cases h3:s=[] <;> by_cases h4:0 < b <;> by_cases h5:a=0 <;> simp [h1,h2,h3,h4,h5]
theorem TA (a b:Int) (s:List UInt8):Ky a b s=some (kd (a,b,s)):=by
 unfold Ky kd
 by_cases h1:0 < a <;> by_cases h2:b=0 <;> by_cases h3:s=[] <;> by_cases h4:0 < b <;> by_cases h5:a=0 <;> simp [h1,h2,h3,h4,h5]
def I64 (n:Int):Prop:=-9223372036854775808≤n∧n≤9223372036854775807
theorem I64.wrap (n:Int):I64 (IntKind.wrap .i64 n):=by rw [IntKind.wrap_i64]; unfold I64; omega
theorem I64.eq {n:Int} (h:I64 n):IntKind.wrap .i64 n=n:=w64 h.1 h.2
def Fx:List Prt→Nat
 | []=>0
 | p::l=>p.2.2.length+Fx l
theorem PM:∀ a b:List Prt,Fx (a++b)=Fx a+Fx b
 | [],b=>by simp [Fx]
 | p::a,b=>by simp only [List.cons_append,Fx,PM a b]; omega
theorem Qm:∀ {l:List Prt} {p:Prt},p∈l→p.2.2.length≤Fx l
 | q::l,p,h=>by
  rcases List.mem_cons.1 h with rfl | h
  ·simp only [Fx]; omega
  ·have:=Qm h; simp only [Fx]; omega
structure Sm (B:Nat) (l:List Prt):Prop where
 len:l.length≤B
 put:Fx l≤B
 fit:∀ p∈l,I64 p.1∧I64 p.2.1
theorem Sm.mono {B C:Nat} {l:List Prt} (h:Sm B l) (hc:B≤C):Sm C l:=⟨Nat.le_trans h.len hc,Nat.le_trans h.put hc,h.fit⟩
theorem Sm.nil (B:Nat):Sm B []:=⟨Nat.zero_le _,Nat.zero_le _,fun _ h=>by cases h⟩
def Aey (l:List Prt) (p:Prt):List Prt:=
 if p=(0,0,[]) then l else
 match l.getLast? with
 | none=>[p]
 | some q=>if kd q=kd p then l.dropLast++[(IntKind.wrap .i64 (q.1+p.1),IntKind.wrap .i64 (q.2.1+p.2.1),q.2.2++p.2.2)] else l++[p]
def Aek (code:List Int):Prop:=∀ x∈code,0≤x∧x≤255
structure At (code:List Int) (k:Int) (a:Int):Prop where
 b:Aek code
 lo:0≤a
 hi:a+k≤4611686018427387904
structure To (code:List Int) (a k:Int) (code':List Int) (a':Int):Prop where
 c:code'=code
 lo:a≤a'
 hi:a'≤a+k
theorem To.at {code code':List Int} {a k a' j:Int} (t:To code a k code' a') (h:At code (k+j) a):At code' j a':=by
 obtain ⟨rfl,h1,h2⟩:=t
 exact ⟨h.b,by have:=h.lo; omega,by have:=h.hi; omega⟩
theorem To.trans {c c1 c2:List Int} {a k a1 j a2:Int} (t:To c a k c1 a1) (u:To c1 a1 j c2 a2):To c a (k+j) c2 a2:=by
 obtain ⟨rfl,h1,h2⟩:=t
 obtain ⟨rfl,h3,h4⟩:=u
 exact ⟨rfl,by omega,by omega⟩
theorem To.refl (c:List Int) (a:Int):To c a 0 c a:=⟨rfl,Int.le_refl _,by omega⟩
theorem To.more {c c1:List Int} {a k a1 j:Int} (t:To c a k c1 a1) (h:k≤j):To c a j c1 a1:=⟨t.c,t.lo,by have:=t.hi; omega⟩
end Go.V.G
set_option maxRecDepth 100000
namespace Go.V.G
open Go.V
theorem Sm.snoc {B C:Nat} {l:List Prt} {p:Prt} (h:Sm B l) (hp:I64 p.1∧I64 p.2.1) (hl:B+1≤C) (hc:B+p.2.2.length≤C):Sm C (l++[p]):=
 ⟨by have:=h.len; simp; omega,by rw [PM]; simp only [Fx]; have:=h.put; omega,fun q hq=>by
  rcases List.mem_append.1 hq with hq | hq
  ·exact h.fit q hq
  ·rw [List.mem_singleton.1 hq]; exact hp⟩
end Go.V.G