import Derived.Test.YtofhefmbioblbaaGreatQMsF
set_option linter.unusedVariables false
set_option linter.unusedSimpArgs false
set_option maxRecDepth 100000
namespace Go.V.G
open Go.V
abbrev Wr:=Int×List Int
def Jj (bits:List Int) (k:Nat):List Int:=bits.set (k / 8) (clr (gb bits (k / 8)) (k % 8))
theorem VR (bits:List Int) (k:Nat):(Jj bits k).length=bits.length:=by unfold Jj; simp
theorem Zy {bits:List Int} {k:Nat} (h:k≤1048576) (hk:k / 8 < bits.length):EH bits ((k:Nat):Int) false=some (Jj bits k):=by
 have hg:bits[0+Int.toNat ((k / 8:Nat):Int)]?=some (gb bits (k / 8)):=by rw [Nat.zero_add,Int.toNat_natCast]; exact Ak hk
 unfold EH
 rw [dv8 h,Abs,if_neg (by simp),iy (by omega),iy (by omega),iy (by omega),hg,Option.bind_some,iy (by omega),iy (by omega),iy (by omega),iy (by omega),Option.bind_some,Option.bind_some,Option.bind_some,Nat.zero_add,Int.toNat_natCast,Int.toNat_natCast]
 rfl
def Dw (x y:List Int):List Int:=y.foldl (fun x v=>Jj x v.toNat) x
theorem TX (x y:List Int) (v:Int):Dw x (y++[v])=Jj (Dw x y) v.toNat:=by unfold Dw; rw [List.foldl_append]; rfl
theorem MO (x:List Int):∀ (y:List Int),(Dw x y).length=x.length:=by
 intro y
 induction y generalizing x with
 | nil=>rfl
 | cons v y ih=>show (Dw (Jj x v.toNat) y).length=_; rw [ih,VR]
theorem Ac3 {x:List Int} (h:U8s x) (k:Nat):U8s (Jj x k):=Ad9 h (k / 8) _ _
theorem Add {x:List Int} (h:U8s x):∀ (y:List Int),U8s (Dw x y):=by
 intro y
 induction y generalizing x with
 | nil=>exact h
 | cons v y ih=>exact ih (Ac3 h v.toNat)
theorem AaV {x:List Int} {k:Nat} (hk:k / 8 < x.length):Jj (AA x) k=AA (Jj x k):=by
 have hg:gb (AA x) (k / 8)=gb x (k / 8):=by unfold AA; exact AdU hk
 unfold Jj
 rw [hg]
 unfold AA
 rw [List.set_append_left _ _ hk,List.length_set]
theorem Aa3 (x:List Int):∀ (y:List Int),(∀ v∈y,v.toNat / 8 < x.length)→Dw (AA x) y=AA (Dw x y):=by
 intro y
 induction y generalizing x with
 | nil=>intro _; rfl
 | cons v y ih=>
  intro h
  show Dw (Jj (AA x) v.toNat) y=AA (Dw (Jj x v.toNat) y)
  rw [AaV (h v (by simp)),ih _ fun w hw=>by rw [VR]; exact h w (by simp [hw])]
def J9 (b:Bls) (y z:List Int):List Wr:=(z.filter fun v=>!decide (v∈y)).map fun v=>(v,blk b v.toNat)
theorem Us (b:Bls) (y z:List Int) (v:Int):J9 b y (z++[v])=J9 b y z++(if v∈y then [] else [(v,blk b v.toNat)]):=by
 unfold J9
 rw [List.filter_append,List.map_append]
 congr 1
 by_cases h:v∈y
 ·rw [if_pos h]; simp [h]
 ·rw [if_neg h]; simp [h]
theorem Qz (b:Bls) (y z:List Int):(J9 b y z).length≤z.length:=by unfold J9; rw [List.length_map]; exact List.length_filter_le _ _
def Dx (b:Bls) (x y z d:List Int):List Wr:=[(0,d),(1,AA (Dw x y))]++J9 b y z
section
variable {b:Bls} {x y z d:List Int}
theorem Xc (g:GS b x y z) (hd:d.length=128) (hyl:y.length≤2000) (hzl:z.length≤2000):GW (b,(x,(y,z))) d=some (Dx b x y z d,decide (((List.length (Dx b x y z d):Nat):Int)≤30)):=by
 have hb:=g.hb; have hx:=g.hx
 unfold GW
 dsimp only
 rw [D9 (by omega),Option.bind_some]
 have h1:=Ap DH (fun k=>((b,(x,(y,z))),d,Dw x (y.take k),y,((y.length:Nat):Int),((k:Nat):Int))) y.length ((b,(x,(y,z))),d,Dw x (y.take y.length)) (fun k hk=>by
  have hg:=Ak hk
  have hin:=E5 g.hy (gb y k) (List.mem_of_getElem? hg)
  obtain ⟨m,hm⟩:∃ m:Nat,gb y k=((m:Nat):Int):=⟨(gb y k).toNat,by omega⟩
  have hl:=MO x (y.take k)
  have hgx:(Dw x (y.take k))[0+Int.toNat ((m / 8:Nat):Int)]?=some (gb (Dw x (y.take k)) (m / 8)):=by rw [Nat.zero_add,Int.toNat_natCast]; exact Ak (by omega)
  have hsn:y.take (k+1)=y.take k++[gb y k]:=BG hg
  unfold DH
  dsimp only
  rw [iy (by omega),iy (by omega),Int.toNat_natCast,hg,Option.bind_some,hm,dv8 (by omega),md8,iy (by omega),iy (by omega),iy (by omega),hgx,Option.bind_some,iy (by omega),iy (by omega),iy (by omega),iy (by omega),Option.bind_some,Option.bind_some,
   Ao (by omega),hsn,TX,hm,Nat.zero_add,Int.toNat_natCast,Int.toNat_natCast,Int.toNat_natCast]
  rfl) (by
  unfold DH
  dsimp only
  rw [ino (by omega)])
 rw [List.take_length] at h1
 rw [show Ab DH ((b,(x,(y,z))),d,x,y,((y.length:Nat):Int),0)=_ from h1,Option.bind_some]
 dsimp only
 have hcl:=MO x y
 rw [D9 (by omega),Option.bind_some,IP (by omega),Option.bind_some]
 have h2:=Ap DK (fun k=>((b,(x,(y,z))),[((0:Int),d),(1,AA (Dw x y))]++J9 b y (z.take k),z,((z.length:Nat):Int),((k:Nat):Int))) z.length ([((0:Int),d),(1,AA (Dw x y))]++J9 b y (z.take z.length)) (fun k hk=>by
  have hg:=Ak hk
  have hin:=E5 g.hz (gb z k) (List.mem_of_getElem? hg)
  have hsn:z.take (k+1)=z.take k++[gb z k]:=BG hg
  have hrl:=Qz b y (z.take k)
  rw [List.length_take] at hrl
  have hbk:b[Int.toNat (gb z k)]?=some (blk b (gb z k).toNat):=CF (by omega)
  have hbl:(blk b (gb z k).toNat).length=128:=g.hk _ (DT (by omega))
  unfold DK
  dsimp only
  rw [iy (by omega),iy (by omega),Int.toNat_natCast,hg,Option.bind_some,PT (by omega),Option.bind_some,hsn,Us]
  by_cases hv:gb z k∈y
  ·rw [if_neg (by simp [hv]),Option.bind_some,if_pos hv,List.append_nil]
   dsimp only
   rw [Ao (by omega)]
  ·rw [if_pos (by simp [hv]),iy (by omega),hbk,Option.bind_some,D9 (by omega),Option.bind_some,if_pos (by simp only [Aa,decide_eq_true_eq,List.length_append,List.length_cons,List.length_nil]; omega),Option.bind_some,if_neg hv]
   dsimp only
   rw [Ao (by omega),List.append_assoc]) (by
  unfold DK
  dsimp only
  rw [ino (by omega)])
 rw [List.take_length] at h2
 rw [show Ab DK ((b,(x,(y,z))),[((0:Int),d),(1,AA (Dw x y))],z,((z.length:Nat):Int),0)=_ from h2,Option.bind_some]
 rfl
theorem XN (g:GS b x y z) (hd:d.length=128) (hyl:y.length≤2000) (hzl:z.length≤2000):K4 b x y z d=some (Dx b x y z d):=by
 have hb:=g.hb; have hx:=g.hx
 have hpl:(AA x).length=128:=EZ (by omega)
 unfold K4
 rw [iy (by omega),iy (by omega),if_pos (by simp [Aa])]
 have e:x.take (List.length (List.replicate (Int.toNat 128) (0:Int)))++List.drop (List.length x) (List.replicate (Int.toNat 128) (0:Int))=AA x:=by
  unfold AA
  rw [List.length_replicate,List.take_of_length_le (show x.length≤Int.toNat 128 by rw [hx]; decide),List.drop_replicate]; rfl
 rw [e]
 have h1:=Ap FN (fun k=>(d,Dw (AA x) (y.take k),y,((y.length:Nat):Int),((k:Nat):Int),b,x,y,z)) y.length (d,Dw (AA x) (y.take y.length),b,x,y,z) (fun k hk=>by
   have hg:=Ak hk
   have hin:=E5 g.hy (gb y k) (List.mem_of_getElem? hg)
   obtain ⟨m,hm⟩:∃ m:Nat,gb y k=((m:Nat):Int):=⟨(gb y k).toNat,by omega⟩
   have hl:=MO (AA x) (y.take k)
   have hsn:y.take (k+1)=y.take k++[gb y k]:=BG hg
   unfold FN
   dsimp only
   rw [iy (by omega),iy (by omega),Int.toNat_natCast,hg,Option.bind_some,hm,Zy (by omega) (by omega),Option.bind_some,Ao (by omega),hsn,TX,hm,Int.toNat_natCast]) (by
   unfold FN
   dsimp only
   rw [ino (by omega)])
 rw [List.take_length,Aa3 x y fun v hv=>by have:=E5 g.hy v hv; omega] at h1
 rw [show Ab FN (d,AA x,y,((y.length:Nat):Int),0,b,x,y,z)=_ from h1,Option.bind_some]
 dsimp only
 rw [if_pos (by simp only [Aa,decide_eq_true_eq,List.length_nil]; omega),List.nil_append]
 have h2:=Ap FU (fun k=>([((0:Int),d),(1,AA (Dw x y))]++J9 b y (z.take k),z,((z.length:Nat):Int),((k:Nat):Int),b,x,y,z)) z.length ([((0:Int),d),(1,AA (Dw x y))]++J9 b y (z.take z.length)) (fun k hk=>by
   have hg:=Ak hk
   have hin:=E5 g.hz (gb z k) (List.mem_of_getElem? hg)
   have hsn:z.take (k+1)=z.take k++[gb z k]:=BG hg
   have hrl:=Qz b y (z.take k)
   rw [List.length_take] at hrl
   have hbk:b[Int.toNat (gb z k)]?=some (blk b (gb z k).toNat):=CF (by omega)
   have hbl:(blk b (gb z k).toNat).length=128:=g.hk _ (DT (by omega))
   unfold FU
   dsimp only
   rw [iy (by omega),iy (by omega),Int.toNat_natCast,hg,Option.bind_some,Qs (by omega),Option.bind_some,hsn,Us]
   by_cases hv:gb z k∈y
   ·rw [if_neg (by simp [hv]),Option.bind_some,if_pos hv,List.append_nil]
    dsimp only
    rw [Ao (by omega)]
   ·rw [if_pos (by simp [hv]),iy (by omega),hbk,Option.bind_some,if_pos (by simp only [Aa,decide_eq_true_eq,List.length_nil]; omega),if_pos (by simp only [Aa,decide_eq_true_eq,List.length_append,List.length_cons,List.length_nil]; omega),Option.bind_some,if_neg hv]
    dsimp only
    rw [Ao (by omega),List.append_assoc,List.nil_append]) (by
   unfold FU
   dsimp only
   rw [ino (by omega)])
 rw [List.take_length] at h2
 rw [show Ab FU ([((0:Int),d),(1,AA (Dw x y))],z,((z.length:Nat):Int),0,b,x,y,z)=_ from h2,Option.bind_some]
 rfl
structure GrOk (n:Nat) (g:List Wr):Prop where
 len:g.length≤2100
 at_:∀ w∈g,0≤w.1∧w.1 < (n:Int)
 hd:∀ w∈g,w.2.length=128
 u8:∀ w∈g,U8s w.2
theorem QD (g:GS b x y z) (hu:∀ c∈b,U8s c) (hux:U8s x) (hd:d.length=128) (hdu:U8s d) (hzl:z.length≤2000):GrOk b.length (Dx b x y z d):=by
 have hb:=g.hb; have hx:=g.hx
 have hcl:=MO x y
 have hm:∀ w∈Dx b x y z d,w=(0,d)∨w=(1,AA (Dw x y))∨∃ v∈z,w=(v,blk b v.toNat):=by
  intro w hw
  unfold Dx J9 at hw
  simp only [List.mem_append,List.mem_cons,List.not_mem_nil,or_false,List.mem_map,List.mem_filter] at hw
  rcases hw with (rfl | rfl) | ⟨v,⟨hv,_⟩,rfl⟩
  ·exact .inl rfl
  ·exact .inr (.inl rfl)
  ·exact .inr (.inr ⟨v,hv,rfl⟩)
 refine ⟨?_,fun w hw=>?_,fun w hw=>?_,fun w hw=>?_⟩
 ·have:=Qz b y z
  unfold Dx
  rw [List.length_append,List.length_cons,List.length_singleton]; omega
 ·rcases hm w hw with rfl | rfl | ⟨v,hv,rfl⟩
  ·dsimp only; omega
  ·dsimp only; omega
  ·have:=E5 g.hz v hv
   dsimp only; omega
 ·rcases hm w hw with rfl | rfl | ⟨v,hv,rfl⟩
  ·exact hd
  ·exact EZ (by omega)
  ·have:=E5 g.hz v hv
   exact g.hk _ (DT (by omega))
 ·rcases hm w hw with rfl | rfl | ⟨v,hv,rfl⟩
  ·exact hdu
  ·exact OX (Add hux y)
  ·have:=E5 g.hz v hv
   exact hu _ (DT (by omega))
end
end Go.V.G
set_option maxRecDepth 100000
namespace Go.V.G
open Go.V
def hdA (g:List Wr) (k:Nat):List Int:=[76,79,71,49,((g.length:Nat):Int)]++(g.take k).flatMap fun w=>BC w.1
theorem Mr (g:List Wr) (k:Nat):(hdA g k).length≤5+2 * k:=by
 unfold hdA
 have:((g.take k).flatMap fun w=>BC w.1).length=2 * (g.take k).length:=by
  generalize g.take k=l
  induction l with
  | nil=>rfl
  | cons a l ih=>rw [List.flatMap_cons,List.length_append,ih]; simp [BC]; omega
 rw [List.length_append,this,List.length_take]
 simp only [List.length_cons,List.length_nil]; omega
def dat (g:List Wr) (k:Nat):List Int:=(g.take k).flatMap (·.2)
theorem Qi {g:List Wr} {k:Nat} {w:Wr} (h:g[k]?=some w):dat g (k+1)=dat g k++w.2:=by
 unfold dat; rw [BG h,List.flatMap_append]; simp
theorem Vx {g:List Wr} {k:Nat} {w:Wr} (h:g[k]?=some w):hdA g (k+1)=hdA g k++BC w.1:=by
 unfold hdA; rw [BG h,List.flatMap_append,List.append_assoc]; simp
def hdH (g:List Wr):List Int:=LA (hdA g g.length)
def OT (g:List Wr):List Int:=hdH g++GE (dig (dig 2166136261 (hdH g)) (dat g g.length))
theorem Ad0 (n:Int):U8s (BC n):=fun v hv=>by
 simp only [BC,List.mem_cons,List.not_mem_nil,or_false] at hv
 rcases hv with rfl | rfl <;> exact Ph _
theorem AdH {g:List Wr} (h:g.length≤30):U8s (hdH g):=Tf fun v hv=>by
 unfold hdA at hv
 rcases List.mem_append.1 hv with hv | hv
 ·simp only [List.mem_cons,List.not_mem_nil,or_false] at hv
  rcases hv with rfl | rfl | rfl | rfl | rfl <;> omega
 ·obtain ⟨w,_,hw⟩:=List.mem_flatMap.1 hv
  exact Ad0 _ v hw
theorem Il {g:List Wr} (h:g.length≤30):(hdH g).length=124:=Ii (by have:=Mr g g.length; omega)
theorem Ab8 {g:List Wr} (h:g.length≤30):(OT g).length=128:=by unfold OT GE; rw [List.length_append,Il h]; rfl
theorem Yn (h:Int) (a b:List Int):dig (dig h a) b=dig h (a++b):=by unfold dig; rw [List.foldl_append]
def nul:Wr:=(0,[])
def gw (g:List Wr) (k:Nat):Wr:=g[k]?.getD nul
theorem Fg {g:List Wr} {k:Nat} (h:k < g.length):g[k]?=some (gw g k):=by unfold gw; rw [List.getElem?_eq_getElem h]; rfl
theorem Td {n:Nat} {g:List Wr} (h:GrOk n g):∀ k,k≤g.length→(dat g k).length=128 * k
 | 0,_=>rfl
 | k+1,hk=>by
  have hg:=Fg (g:=g) (k:=k) (by omega)
  have:=h.hd _ (List.mem_of_getElem? hg)
  rw [Qi hg,List.length_append,Td h k (by omega),this]; omega
theorem Ad1 {n:Nat} {g:List Wr} (h:GrOk n g) (k:Nat):U8s (dat g k):=fun v hv=>by
 obtain ⟨w,hw,hv⟩:=List.mem_flatMap.1 hv
 exact h.u8 w (List.mem_of_mem_take hw) v hv
section
variable {n:Nat} {g:List Wr}
theorem AbG (hl:g.length≤30) (d:Int):Aa ((hdH g).length+(GE d).length) 1=true:=by
 rw [Il hl,show (GE d).length=4 from rfl]; rfl
theorem XV (h:GrOk n g) (hn:n≤160) (hl:g.length≤30):Nd g=some (OT g):=by
 unfold Nd
 have h1:=Ap GO (fun k=>(g,hdA g k,g,((g.length:Nat):Int),((k:Nat):Int))) g.length (g,hdA g g.length) (fun k hk=>by
   have hg:=Fg hk
   have ha:=h.at_ _ (List.mem_of_getElem? hg)
   have hal:=Mr g k
   have hr:Aa ((hdA g k).length+(BC (gw g k).1).length) 1=true:=by
    rw [show (BC (gw g k).1).length=2 from rfl]; simp only [Aa,decide_eq_true_eq]; omega
   unfold GO
   dsimp only
   rw [iy (by omega),iy (by omega),Int.toNat_natCast,hg,Option.bind_some,Yr (by omega),Option.bind_some,if_pos hr,Ao (by omega),Vx hg]) (by
   unfold GO
   dsimp only
   rw [ino (by omega)])
 have e0:hdA g 0=[76,79,71,49,IntKind.wrap .u8 ((g.length:Nat):Int)]:=by unfold hdA; rw [wub (by omega) (by omega)]; rfl
 rw [← e0,show Ab GO (g,hdA g 0,g,((g.length:Nat):Int),0)=_ from h1,Option.bind_some]
 dsimp only
 rw [Tz (by have:=Mr g g.length; omega),Option.bind_some,show LA (hdA g g.length)=hdH g from rfl,Nz (by rw [Il hl]; omega),Option.bind_some]
 have h2:=Ap GK (fun k=>(hdH g,dig (dig 2166136261 (hdH g)) (dat g k),g,((g.length:Nat):Int),((k:Nat):Int))) g.length (hdH g,dig (dig 2166136261 (hdH g)) (dat g g.length)) (fun k hk=>by
   have hg:=Fg hk
   have hd:=h.hd _ (List.mem_of_getElem? hg)
   unfold GK
   dsimp only
   rw [iy (by omega),iy (by omega),Int.toNat_natCast,hg,Option.bind_some,P8 (by omega),Option.bind_some,Ao (by omega),Qi hg,Yn]) (by
   unfold GK
   dsimp only
   rw [ino (by omega)])
 have e1:dig (dig 2166136261 (hdH g)) (dat g 0)=dig 2166136261 (hdH g):=by
  generalize dig 2166136261 (hdH g)=q
  unfold dat; rw [List.take_zero]; rfl
 have h3:Ab GK (hdH g,dig (dig 2166136261 (hdH g)) (dat g 0),g,((g.length:Nat):Int),0)=some (hdH g,dig (dig 2166136261 (hdH g)) (dat g g.length)):=h2
 rw [e1] at h3
 rw [h3,Option.bind_some]
 dsimp only
 rw [TZ,Option.bind_some,if_pos (AbG hl _)]
 rfl
theorem Xf (h:GrOk n g) (hn:n≤160) (hl:g.length≤30):Jy g=some (OT g):=by
 have hal':=Mr g g.length
 unfold Jy
 have h1:=Ap Fc (fun k=>(g,hdA g k,g,((g.length:Nat):Int),((k:Nat):Int))) g.length (g,hdA g g.length) (fun k hk=>by
   have hg:=Fg hk
   have ha:=h.at_ _ (List.mem_of_getElem? hg)
   have hal:=Mr g k
   have hr:Aa ((hdA g k).length+(BC (gw g k).1).length) 1=true:=by
    rw [show (BC (gw g k).1).length=2 from rfl]; simp only [Aa,decide_eq_true_eq]; omega
   unfold Fc
   dsimp only
   rw [iy (by omega),iy (by omega),Int.toNat_natCast,hg,Option.bind_some,iy (by omega),Ady (by omega),show ([IntKind.wrap .u8 ((gw g k).1 / 256),IntKind.wrap .u8 (gw g k).1]:List Int)=BC (gw g k).1 from rfl,
    if_pos hr,Ao (by omega),Vx hg]) (by
   unfold Fc
   dsimp only
   rw [ino (by omega)])
 have e0:hdA g 0=[76,79,71,49,IntKind.wrap .u8 ((g.length:Nat):Int)]:=by unfold hdA; rw [wub (by omega) (by omega)]; rfl
 rw [← e0,show Ab Fc (g,hdA g 0,g,((g.length:Nat):Int),0)=_ from h1,Option.bind_some]
 dsimp only
 have ew:IntKind.wrap .i64 (124 - (((hdA g g.length).length:Nat):Int))=((124 - (hdA g g.length).length:Nat):Int):=by rw [w64 (by omega) (by omega)]; omega
 rw [ew,iy (by omega),Int.toNat_natCast,show hdA g g.length++List.replicate (124 - (hdA g g.length).length) 0=hdH g from rfl,if_pos (by simp only [Aa,decide_eq_true_eq,List.length_replicate]; omega),
  if_pos (by simp only [Aa,decide_eq_true_eq,List.length_nil]; rw [Il hl]; omega),List.nil_append]
 have h2:=Ap E9 (fun k=>(hdH g,hdH g++dat g k,g,((g.length:Nat):Int),((k:Nat):Int))) g.length (hdH g,hdH g++dat g g.length) (fun k hk=>by
   have hg:=Fg hk
   have hd:=h.hd _ (List.mem_of_getElem? hg)
   have hdl:=Td h k (by omega)
   have hhl:=Il hl
   unfold E9
   dsimp only
   rw [iy (by omega),iy (by omega),Int.toNat_natCast,hg,Option.bind_some,if_pos (by simp only [Aa,decide_eq_true_eq,List.length_append]; omega),Ao (by omega),Qi hg,List.append_assoc]) (by
   unfold E9
   dsimp only
   rw [ino (by omega)])
 have e1:hdH g++dat g 0=hdH g:=by unfold dat; simp
 rw [e1] at h2
 have hdl:=Td h g.length (Nat.le_refl _)
 have hhl:=Il hl
 rw [show Ab E9 (hdH g,hdH g,g,((g.length:Nat):Int),0)=_ from h2,Option.bind_some]
 dsimp only
 rw [Nn (by rw [List.length_append]; omega) (fun v hv=>by
   rcases List.mem_append.1 hv with hv | hv
   ·exact AdH hl v hv
   ·exact Ad1 h _ v hv),Option.bind_some,iy (by omega),iy (by omega),iy (by omega),if_pos (by simp only [Aa,decide_eq_true_eq]; rw [Il hl]; simp),← Yn]
 rfl
def pln (g:List Wr) (k:Nat):List Wr:=(List.range k).map fun i=>(((3+i:Nat):Int),(gw g i).2)
def Fp (g:List Wr):List Wr:=(pln g g.length++[(2,OT g)])++(g++[(2,Bj)])
theorem Mi (g:List Wr) (k:Nat):(pln g k).length=k:=DD _ _
theorem w3 {k:Nat} (h:k≤1048576):IntKind.wrap .i64 (3+((k:Nat):Int))=((3+k:Nat):Int):=by rw [w64 (by omega) (by omega)]; omega
theorem Zz (h:GrOk n g) (hn:n≤160) (hl:g.length≤30):Sf g=some (Fp g):=by
 unfold Sf
 have h1:=Ap I3 (fun k=>(g,pln g k,g,((g.length:Nat):Int),((k:Nat):Int))) g.length (g,pln g g.length) (fun k hk=>by
   have hg:=Fg hk
   have hd:=h.hd _ (List.mem_of_getElem? hg)
   have hpl:=Mi g k
   unfold I3
   dsimp only
   rw [iy (by omega),iy (by omega),Int.toNat_natCast,hg,Option.bind_some,D9 (by omega),Option.bind_some,if_pos (by simp only [Aa,decide_eq_true_eq,List.length_singleton]; omega),Ao (by omega),w3 (by omega),show pln g (k+1)=pln g k++[(((3+k:Nat):Int),(gw g k).2)] from QC _ _]) (by
   unfold I3
   dsimp only
   rw [ino (by omega)])
 rw [show Ab I3 (g,[],g,((g.length:Nat):Int),0)=_ from h1,Option.bind_some]
 dsimp only
 have hpl:=Mi g g.length
 rw [XV h hn hl,Option.bind_some,if_pos (by simp only [Aa,decide_eq_true_eq,List.length_singleton]; omega)]
 unfold Vj
 have h2:=Ap Jg (fun k=>(g.take k,g,((g.length:Nat):Int),((k:Nat):Int))) g.length (g.take g.length) (fun k hk=>by
   have hg:=Fg hk
   have hd:=h.hd _ (List.mem_of_getElem? hg)
   unfold Jg
   dsimp only
   rw [iy (by omega),iy (by omega),Int.toNat_natCast,hg,Option.bind_some,D9 (by omega),Option.bind_some,if_pos (by simp only [Aa,decide_eq_true_eq,List.length_singleton,List.length_take]; omega),Ao (by omega),BG hg]) (by
   unfold Jg
   dsimp only
   rw [ino (by omega)])
 rw [List.take_length] at h2
 rw [show Ab Jg ([],g,((g.length:Nat):Int),0)=_ from h2,Option.bind_some,iy (by omega),iy (by omega),if_pos (by simp [Aa]),if_pos (by simp only [Aa,decide_eq_true_eq,List.length_singleton]; omega),Option.bind_some,
  if_pos (by simp only [Aa,decide_eq_true_eq,List.length_append,List.length_singleton]; omega)]
 rfl
theorem Aab (h:GrOk n g) (hn:n≤160) (hl:g.length≤30):MZ g=some (Fp g):=by
 unfold MZ
 have h1:=Ap GD (fun k=>(g,pln g k,g,((g.length:Nat):Int),((k:Nat):Int))) g.length (g,pln g g.length) (fun k hk=>by
  have hg:=Fg hk
  have hd:=h.hd _ (List.mem_of_getElem? hg)
  have hpl:=Mi g k
  unfold GD
  dsimp only
  rw [iy (by omega),iy (by omega),Int.toNat_natCast,hg,Option.bind_some,if_pos (by simp only [Aa,decide_eq_true_eq,List.length_nil]; omega),if_pos (by simp only [Aa,decide_eq_true_eq,List.length_singleton]; omega),Ao (by omega),w3 (by omega),List.nil_append,show pln g (k+1)=pln g k++[(((3+k:Nat):Int),(gw g k).2)] from QC _ _]) (by
  unfold GD
  dsimp only
  rw [ino (by omega)])
 rw [show Ab GD (g,[],g,((g.length:Nat):Int),0)=_ from h1,Option.bind_some]
 dsimp only
 have hpl:=Mi g g.length
 rw [Xf h hn hl,Option.bind_some,if_pos (by simp only [Aa,decide_eq_true_eq,List.length_singleton]; omega)]
 have h2:=Ap GN (fun k=>((pln g g.length++[(2,OT g)])++g.take k,g,((g.length:Nat):Int),((k:Nat):Int))) g.length ((pln g g.length++[(2,OT g)])++g.take g.length) (fun k hk=>by
  have hg:=Fg hk
  have hd:=h.hd _ (List.mem_of_getElem? hg)
  unfold GN
  dsimp only
  rw [iy (by omega),iy (by omega),Int.toNat_natCast,hg,Option.bind_some,if_pos (by simp only [Aa,decide_eq_true_eq,List.length_nil]; omega),if_pos (by simp only [Aa,decide_eq_true_eq,List.length_append,List.length_singleton,List.length_take]; omega),Ao (by omega),BG hg,List.nil_append,List.append_assoc (_++_)]) (by
  unfold GN
  dsimp only
  rw [ino (by omega)])
 rw [List.take_length,List.take_zero,List.append_nil] at h2
 rw [show Ab GN (pln g g.length++[(2,OT g)],g,((g.length:Nat):Int),0)=_ from h2,Option.bind_some,iy (by omega),iy (by omega),if_pos (by simp [Aa]),if_pos (by simp only [Aa,decide_eq_true_eq,List.length_append,List.length_singleton]; omega)]
 unfold Fp Bj
 rw [List.append_assoc _ g]; rfl
theorem QG (h:GrOk n g) (hn:40≤n) (hl:g.length≤30):∀ w∈Fp g,(0≤w.1∧w.1 < (n:Int))∧w.2.length=128:=by
 intro w hw
 unfold Fp pln at hw
 simp only [List.mem_append,List.mem_map,List.mem_range,List.mem_singleton] at hw
 rcases hw with (⟨i,hi,rfl⟩ | rfl) | hw | rfl
 ·have:=h.hd _ (List.mem_of_getElem? (Fg hi))
  exact ⟨by dsimp only; omega,this⟩
 ·exact ⟨by dsimp only; omega,Ab8 hl⟩
 ·exact ⟨h.at_ w hw,h.hd w hw⟩
 ·exact ⟨by dsimp only; omega,by simp [Bj]⟩
theorem TO (g:List Wr):(Fp g).length=2 * g.length+2:=by
 unfold Fp; simp only [List.length_append,Mi,List.length_singleton]; omega
end
def El:List Wr→Bls→Int→Int→Bool×Dsk
 | [],bl,wr,lf=>(true,bl,wr,true,lf)
 | w::l,bl,wr,lf=>if (BI w.1 w.2 bl wr true lf).1=true then El l (BI w.1 w.2 bl wr true lf).2.1 (BI w.1 w.2 bl wr true lf).2.2.1 (BI w.1 w.2 bl wr true lf).2.2.2.2 else (false,(BI w.1 w.2 bl wr true lf).2)
theorem Tu {a:Int} {d:List Int} {bl:Bls} {wr lf:Int} (h:(BI a d bl wr true lf).1=true):(BI a d bl wr true lf).2.2.2.1=true∧(BI a d bl wr true lf).2.1=bl.set a.toNat d:=by
 unfold BI at h ⊢
 rw [if_neg (by simp)] at h ⊢
 split at h
 ·cases h
 ·rename_i hl
  rw [if_neg hl]; exact ⟨rfl,rfl⟩
theorem Acy {a:Int} {d:List Int} {bl:Bls} {wr lf:Int} (h:(BI a d bl wr true lf).1=false):(BI a d bl wr true lf).2.1=bl:=by
 unfold BI at h ⊢
 rw [if_neg (by simp)] at h ⊢
 split at h
 ·rename_i hl; rw [if_pos hl]
 ·cases h
theorem Yl:∀ (l:List Wr) (bl:Bls) (wr lf:Int),(∀ w∈l,w.2.length=128)→(∀ c∈bl,c.length=128)→(El l bl wr lf).2.1.length=bl.length∧∀ c∈(El l bl wr lf).2.1,c.length=128
 | [],bl,wr,lf,_,hk=>⟨rfl,hk⟩
 | w::l,bl,wr,lf,hl,hk=>by
  unfold El
  split
  ·rename_i hp
   obtain ⟨_,e⟩:=Tu hp
   rw [e]
   obtain ⟨h1,h2⟩:=Yl l (bl.set w.1.toNat w.2) (BI w.1 w.2 bl wr true lf).2.2.1 (BI w.1 w.2 bl wr true lf).2.2.2.2 (fun v hv=>hl v (by simp [hv])) (fun c hc=>by
    rcases List.mem_or_eq_of_mem_set hc with hc | rfl
    ·exact hk c hc
    ·exact hl w (by simp))
   exact ⟨by rw [h1,List.length_set],h2⟩
  ·rename_i hp
   have:=Acy (by simpa using hp)
   dsimp only
   rw [this]; exact ⟨rfl,hk⟩
theorem X4 {α:Type} {L l:List α} {w:α} {k:Nat} (h:L.drop k=w::l):L[k]?=some w∧L.drop (k+1)=l∧k < L.length:=by
 have hk:k < L.length:=by
  rcases Nat.lt_or_ge k L.length with h' | h'
  ·exact h'
  ·rw [List.drop_eq_nil_of_le h'] at h; cases h
 rw [List.drop_eq_getElem_cons hk] at h
 injection h with h1 h2
 exact ⟨by rw [List.getElem?_eq_getElem hk,h1],h2,hk⟩
theorem AaD {L:List Wr} (hL:L.length≤1000):∀ (l:List Wr) (k:Nat) (bl:Bls) (wr lf:Int),L.drop k=l→(∀ w∈l,(0≤w.1∧w.1 < (bl.length:Int))∧w.2.length=128)→
  Ab BX (L,((L.length:Nat):Int),((k:Nat):Int),bl,wr,true,lf)=some (if (El l bl wr lf).1=true then .inl (El l bl wr lf).2 else .inr (2,(El l bl wr lf).2))
 | [],k,bl,wr,lf,hd,_=>by
  have hk:L.length≤k:=List.drop_eq_nil_iff.1 hd
  rw [An]
  unfold BX
  dsimp only
  rw [ino (by omega)]; rfl
 | w::l,k,bl,wr,lf,hd,hw=>by
  obtain ⟨h1,h2,h3⟩:=X4 hd
  obtain ⟨⟨a0,a1⟩,a2⟩:=hw w (by simp)
  rw [An]
  have hstep:BX (L,((L.length:Nat):Int),((k:Nat):Int),bl,wr,true,lf)=some (if (BI w.1 w.2 bl wr true lf).1=true then .inl (L,((L.length:Nat):Int),((k+1:Nat):Int),(BI w.1 w.2 bl wr true lf).2) else .inr (.inr (2,(BI w.1 w.2 bl wr true lf).2))):=by
   unfold BX
   dsimp only
   rw [iy (by omega),iy (by omega),Int.toNat_natCast,h1,Option.bind_some,Aa1 (by omega) a0 a1,Option.bind_some,Ao (by omega)]
   cases (BI w.1 w.2 bl wr true lf).1 <;> rfl
  rw [hstep]
  unfold El
  by_cases hp:(BI w.1 w.2 bl wr true lf).1=true
  ·rw [if_pos hp,if_pos hp]
   obtain ⟨e1,e2⟩:=Tu hp
   have ih:=AaD hL l (k+1) (BI w.1 w.2 bl wr true lf).2.1 (BI w.1 w.2 bl wr true lf).2.2.1 (BI w.1 w.2 bl wr true lf).2.2.2.2 h2 (fun v hv=>by rw [e2,List.length_set]; exact hw v (by simp [hv]))
   rw [← ih]
   generalize BI w.1 w.2 bl wr true lf=q at e1
   obtain ⟨q1,q2,q3,q4,q5⟩:=q
   dsimp only at e1 ⊢
   rw [e1]
  ·rw [if_neg hp,if_neg hp,if_neg (by simp)]
theorem ZU {L:List Wr} (hL:L.length≤1000):∀ (l:List Wr) (k:Nat) (bl:Bls) (wr lf:Int),L.drop k=l→(∀ w∈l,(0≤w.1∧w.1 < (bl.length:Int))∧w.2.length=128)→
  Ab De (L,((L.length:Nat):Int),((k:Nat):Int),bl,wr,true,lf)=some (if (El l bl wr lf).1=true then .inl (El l bl wr lf).2 else .inr (false,(El l bl wr lf).2))
 | [],k,bl,wr,lf,hd,_=>by
  have hk:L.length≤k:=List.drop_eq_nil_iff.1 hd
  rw [An]
  unfold De
  dsimp only
  rw [ino (by omega)]; rfl
 | w::l,k,bl,wr,lf,hd,hw=>by
  obtain ⟨h1,h2,h3⟩:=X4 hd
  obtain ⟨⟨a0,a1⟩,a2⟩:=hw w (by simp)
  rw [An]
  have hstep:De (L,((L.length:Nat):Int),((k:Nat):Int),bl,wr,true,lf)=some (if (BI w.1 w.2 bl wr true lf).1=true then .inl (L,((L.length:Nat):Int),((k+1:Nat):Int),(BI w.1 w.2 bl wr true lf).2) else .inr (.inr (false,(BI w.1 w.2 bl wr true lf).2))):=by
   unfold De
   dsimp only
   rw [iy (by omega),iy (by omega),iy (by omega),Nat.zero_add,Int.toNat_natCast,h1,Option.bind_some,Option.bind_some,Option.bind_some,Abk (by omega) a0 a1,Option.bind_some,Ao (by omega)]
   cases (BI w.1 w.2 bl wr true lf).1 <;> rfl
  rw [hstep]
  unfold El
  by_cases hp:(BI w.1 w.2 bl wr true lf).1=true
  ·rw [if_pos hp,if_pos hp]
   obtain ⟨e1,e2⟩:=Tu hp
   have ih:=ZU hL l (k+1) (BI w.1 w.2 bl wr true lf).2.1 (BI w.1 w.2 bl wr true lf).2.2.1 (BI w.1 w.2 bl wr true lf).2.2.2.2 h2 (fun v hv=>by rw [e2,List.length_set]; exact hw v (by simp [hv]))
   rw [← ih]
   generalize BI w.1 w.2 bl wr true lf=q at e1
   obtain ⟨q1,q2,q3,q4,q5⟩:=q
   dsimp only at e1 ⊢
   rw [e1]
  ·rw [if_neg hp,if_neg hp,if_neg (by simp)]
theorem Uy {L:List Wr} {bl:Bls} {wr lf:Int} (hL:L.length≤1000) (hw:∀ w∈L,(0≤w.1∧w.1 < (bl.length:Int))∧w.2.length=128) :
  Ep L bl wr true lf=some (if (El L bl wr lf).1=true then 0 else 2,(El L bl wr lf).2):=by
 unfold Ep
 rw [if_neg (by simp),show Ab BX (L,((L.length:Nat):Int),0,bl,wr,true,lf)=_ from AaD hL L 0 bl wr lf rfl hw,Option.bind_some]
 by_cases h:(El L bl wr lf).1=true
 ·rw [if_pos h,if_pos h]
 ·rw [if_neg h,if_neg h]
theorem Xw {n:Nat} {g:List Wr} {bl:Bls} {wr lf:Int} (h:GrOk n g) (hn:40≤n∧n≤160) (hl:g.length≤30) (hb:bl.length=n) :
  HH g bl wr true lf=some (El (Fp g) bl wr lf):=by
 have hpl:=TO g
 unfold HH
 rw [Aab h hn.2 hl,Option.bind_some,show Ab De (Fp g,(((Fp g).length:Nat):Int),0,bl,wr,true,lf)=_ from ZU (by omega) (Fp g) 0 bl wr lf rfl (by rw [hb]; exact QG h hn.1 hl),Option.bind_some]
 generalize El (Fp g) bl wr lf=q
 obtain ⟨q1,q2⟩:=q
 cases q1 <;> rfl
end Go.V.G
set_option maxRecDepth 100000
namespace Go.V.G
open Go.V
theorem T4:∀ (l:List Int) (k:Nat),k < l.length→(l.flatMap BC)[2 * k]?=some (IntKind.wrap .u8 (gb l k / 256))∧(l.flatMap BC)[2 * k+1]?=some (IntKind.wrap .u8 (gb l k))
 | [],k,h=>by simp at h
 | a::l,0,_=>⟨rfl,rfl⟩
 | a::l,k+1,h=>by
  have ih:=T4 l k (by simpa using h)
  have e:(a::l).flatMap BC=IntKind.wrap .u8 (a / 256)::IntKind.wrap .u8 a::l.flatMap BC:=rfl
  have g:gb (a::l) (k+1)=gb l k:=rfl
  rw [e,g,show 2 * (k+1)=2 * k+1+1 by omega,List.getElem?_cons_succ,List.getElem?_cons_succ,List.getElem?_cons_succ,List.getElem?_cons_succ]
  exact ih
theorem Uj {kind:Int} {l:List Int} (hl:l.length=32) (hv:V2 l):B1 (AA (pgb kind l))=l:=by
 have key:∀ k,k < 32→num (AA (pgb kind l)) (1+2 * k)=gb l k:=fun k hk=>by
  obtain ⟨h1,h2⟩:=T4 l k (by omega)
  have hf:=IY l
  have e:∀ j,j < 64→gb (AA (pgb kind l)) (1+j)=((l.flatMap BC)[j]?).getD 0:=fun j hj=>by
   unfold AA pgb gb
   rw [List.getElem?_append_left (by rw [List.length_append,hf,hl]; simp; omega),List.getElem?_append_right (by simp)]
   simp
  have hvv:=hv _ (List.mem_of_getElem? (Ak (show k < l.length by omega)))
  unfold num
  rw [show 1+2 * k+1=1+(2 * k+1) by omega,e (2 * k) (by omega),e (2 * k+1) (by omega),h1,h2,Option.getD_some,Option.getD_some,IntKind.wrap_u8,IntKind.wrap_u8]
  omega
 unfold B1
 rw [show (List.range 32).map (fun k=>num (AA (pgb kind l)) (1+2 * k))=(List.range 32).map (gb l) from List.map_congr_left fun k hk=>key k (List.mem_range.1 hk)]
 exact Ace hl
theorem T5 (kind:Int) (l:List Int):gb (AA (pgb kind l)) 0=kind:=rfl
theorem Ud {kind:Int} {l:List Int} (hl:l.length=32):rz (AA (pgb kind l)) 65=true:=AdC 65 (L1 kind hl).symm
structure Lf (b:Bls) (x y top:List Int) (root:Int) (k:Nat):Prop where
 lv:liv b x y (gb top k)=true
 kd:gb (blk b (gb top k).toNat) 0=81
 rz:rz (blk b (gb top k).toNat) 65=true
 nz:nz (B1 (blk b (gb top k).toNat))=true
 vs:QB b x (B1 (blk b (gb top k).toNat))=false
 un:∀ j,j < k→gb top j≠gb top k
 rt:root≠0∧liv b x y root=true∧gb (blk b root.toNat) 0=80
theorem JX {b:Bls} {x y top:List Int} {root:Int} (h:tre b x y root=some top) {k:Nat} (hk:k < 32) (h0:gb top k≠0):Lf b x y top root k:=by
 have htl:=SN h
 unfold tre at h
 split at h
 ·obtain rfl:=Option.some.inj h; exact absurd (VZ k) h0
 ·rename_i hr
  split at h
  ·rename_i hc
   obtain rfl:=Option.some.inj h
   simp only [Bool.and_eq_true] at hc
   obtain ⟨c1,c2,c3⟩:=hc
   have:=all_range.1 c3 k hk
   unfold stG at this
   rw [decide_eq_false h0,Bool.false_or] at this
   simp only [Bool.and_eq_true,Bool.not_eq_true'] at this
   obtain ⟨p1,p2,p3,p4⟩:=this
   unfold pgB at p1 c1
   simp only [Bool.and_eq_true,decide_eq_true_eq] at p1 c1
   refine ⟨p1.1,p1.2.1,p1.2.2,p2,p4,fun j hj he=>?_,hr,c1.1,c1.2.1⟩
   rw [List.any_eq_false] at p3
   have hm:gb (IH b root) j∈(IH b root).take k:=by
    have:((IH b root).take k)[j]?=some (gb (IH b root) j):=by rw [List.getElem?_take_of_lt hj,Ak (by omega)]
    exact List.mem_of_getElem? this
   have:=p3 _ hm
   rw [he] at this
   simp at this
  ·cases h
theorem Ab7 {b:Bls} {x y top:List Int} {root:Int} (h:tre b x y root=some top) (h0:root≠0):liv b x y root=true∧gb (blk b root.toNat) 0=80:=by
 unfold tre at h
 rw [if_neg h0] at h
 split at h
 ·rename_i hc
  simp only [Bool.and_eq_true] at hc
  have:=hc.1
  unfold pgB at this
  simp only [Bool.and_eq_true,decide_eq_true_eq] at this
  exact ⟨this.1,this.2.1⟩
 ·cases h
theorem Mk (top:List Int) (l:List Kv):∀ k v,v∈Bl top l k→∃ j,j < k∧v=gb top j∧gb top j≠0∧oth l j=true
 | 0,v,h=>by cases h
 | k+1,v,h=>by
  simp only [Bl] at h
  split at h
  ·rename_i ho
   unfold goS at h
   split at h
   ·obtain ⟨j,h1,h2⟩:=Mk top l k v h; exact ⟨j,by omega,h2⟩
   ·rename_i hn
    rcases List.mem_append.1 h with h | h
    ·obtain ⟨j,h1,h2⟩:=Mk top l k v h; exact ⟨j,by omega,h2⟩
    ·exact ⟨k,by omega,List.mem_singleton.1 h,hn,ho⟩
  ·obtain ⟨j,h1,h2⟩:=Mk top l k v h; exact ⟨j,by omega,h2⟩
theorem RP {b:Bls} {x y:List Int} {m:Nat} (h1:33≤m) (h2:m < b.length) (h3:bit x m=true) (h4:((m:Nat):Int)∉y):liv b x y ((m:Nat):Int)=true:=by
 unfold liv
 rw [decide_eq_true (by omega),Int.toNat_natCast,h3,decide_eq_false h4]; rfl
theorem AdR {b b':Bls} {x x':List Int} {v:Int} (hb:b'.length=b.length) (hl:b.length≤160) (hx:∀ i,i < 160→bit x i=true→bit x' i=true) (h:isb b x v=true):isb b' x' v=true:=by
 unfold isb at h ⊢
 simp only [Bool.and_eq_true,decide_eq_true_eq] at h ⊢
 rw [hb]
 exact ⟨h.1,hx _ (by omega) h.2⟩
theorem AcK {b:Bls} {x y:List Int} {v:Int} (h:liv b x y v=true):isb b x v=true:=by
 unfold liv at h; unfold isb
 simp only [Bool.and_eq_true] at h ⊢
 exact ⟨h.1,h.2.1⟩
theorem bad_no {b:Bls} {x l:List Int}:QB b x l=false↔∀ v∈l,v=0∨isb b x v=true:=by
 unfold QB
 rw [List.any_eq_false]
 constructor
 ·intro h v hv
  have:=h v hv
  by_cases h0:v=0
  ·exact .inl h0
  ·right
   rw [decide_eq_true h0,Bool.true_and] at this
   simpa using this
 ·intro h v hv
  rcases h v hv with h0 | h0
  ·rw [decide_eq_false (not_not_intro h0)]; simp
  ·rw [h0]; simp
theorem AcL {b:Bls} {x y top:List Int} {l:List Kv} {root:Int} (ht:tre b x y root=some top) (hl:∀ s∈l,s.2=0∨liv b x y s.2=true) {k:Nat} (hk:k < 32):∀ v∈av b top l k,v=0∨isb b x v=true:=by
 have h0:∀ v∈lfv b (gb top k),v=0∨isb b x v=true:=by
  unfold lfv
  split
  ·intro v hv; exact .inl (List.eq_of_mem_replicate hv)
  ·rename_i hn
   exact bad_no.1 (JX ht hk hn).vs
 unfold av
 have key:∀ (l:List Kv) (w:List Int),(∀ v∈w,v=0∨isb b x v=true)→(∀ s∈l,s.2=0∨liv b x y s.2=true)→∀ v∈l.foldl (upd k) w,v=0∨isb b x v=true:=by
  intro l
  induction l with
  | nil=>intro w h _; exact h
  | cons s l ih=>
   intro w h hs
   rw [List.foldl_cons]
   refine ih _ ?_ fun s' h'=>hs s' (by simp [h'])
   unfold upd
   split
   ·intro v hv
    rcases List.mem_or_eq_of_mem_set hv with hv | rfl
    ·exact h v hv
    ·exact (hs s (by simp)).imp id AcK
   ·exact h
 exact key l _ h0 hl
structure Tn (b:Bls) (x y z top:List Int) (l:List Kv) (root at_:Int) (b':Bls) (x' y' z':List Int):Prop where
 gs:GS b' x' y' z'
 bu:∀ c∈b',U8s c
 bl:b'.length=b.length
 ux:U8s x'
 tr:∃ nx,tre b' x' y' at_=some nx∧∀ k,k < 32→lfv b' (gb nx k)=av b top l k
 ot:∀ i,i < 160→bit x i=true→blk b' i=blk b i
theorem Sk.tn {b b':Bls} {x y z top x' y' z':List Int} {l:List Kv} {root at_:Int} (g:GS b x y z) (hu:∀ c∈b,U8s c) (ht:tre b x y root=some top) (hs:Pq b x y l=true) (s:Sk b x y z top l root at_ b' x' y' z'):Tn b x y z top l root at_ b' x' y' z':=by
 obtain ⟨hl64,hk,hlv,_⟩:=Yv hs
 have hb:=g.hb
 have htl:=SN ht
 have htv:=ZN hu ht
 obtain ⟨hyr,hyl⟩:=g.ylen
 obtain ⟨yr',yl',ym'⟩:=s.yl hyr (by omega)
 have hw:=s.wk
 obtain ⟨nx,b1,x1,z1,q1,tv,hq1,_,hnn,hend⟩:=s.ex
 have hnl:=tv.nl
 have hnv:=Acl hb.2 htv htl tv
 have hyb:∀ v∈y,∃ m:Nat,v=((m:Nat):Int)∧(33≤m∧m < b.length)∧bit x m=true:=fun v hv=>by
  obtain ⟨i,hi,rfl⟩:=List.getElem_of_mem hv
  have:=(FI g.hy).2 i hi
  exact ⟨(y[i]).toNat,by omega,by omega,this.2.2⟩
 have hgone:∀ v∈y',∃ m:Nat,v=((m:Nat):Int)∧(33≤m∧m < b.length)∧bit x m=true:=fun v hv=>by
  rcases (ym' v).1 hv with hv | hv
  ·exact hyb v hv
  ·rcases List.mem_append.1 hv with hv | hv
   ·obtain ⟨j,hj,rfl,hn,_⟩:=Mk _ _ _ _ hv
    obtain ⟨m,e,h1,h2,h3,_⟩:=Dg (JX ht hj hn).lv
    exact ⟨m,e,⟨h1,h2⟩,h3⟩
   ·unfold rtL at hv
    split at hv
    ·cases hv
    ·rename_i hr
     rw [List.mem_singleton] at hv
     subst hv
     obtain ⟨m,e,h1,h2,h3,_⟩:=Dg (Ab7 ht hr).1
     exact ⟨m,e,⟨h1,h2⟩,h3⟩
 have hup:(∀ i,i < 160→bit x1 i=true→bit x' i=true)∧(∀ i,i < 160→bit x1 i=true→blk b' i=blk b1 i)∧(∀ c∈b',U8s c)∧(∀ v∈z',v∈z1∨∃ m:Nat,v=((m:Nat):Int)∧(33≤m∧m < b.length)∧bit x' m=true)∧(∀ i,b.length≤i→i < 160→bit x' i=bit x1 i):=by
  rcases hend with ⟨_,_,rfl,rfl,rfl⟩ | ⟨_,m,_,hm,hbm,rfl,rfl,rfl,_,_⟩
  ·exact ⟨fun i _ h=>h,fun i _ _=>rfl,tv.bu,fun v hv=>.inl hv,fun i _ _=>rfl⟩
  ·have hx1:=tv.wk.hx; have hb1:=tv.wk.hb; have hz1:=tv.wk.hz
   have hbit:∀ i,i < 160→bit (setB x1 m) i=(decide (i=m) || bit x1 i):=fun i hi=>BW tv.wk.hu (by omega) (by omega)
   obtain ⟨_,_,z3,z4,z5⟩:=Dt (z:=z1) (by omega) tv.wk.hr ((m:Nat):Int)
   obtain ⟨_,_,_,_,y5⟩:=Dt (z:=pt z1 ((m:Nat):Int)) (by omega) z4 ((m:Nat):Int)
   refine ⟨fun i hi h=>by rw [hbit i hi,h,Bool.or_true],fun i hi h=>?_,fun c hc=>?_,fun v hv=>?_,fun i h1 h2=>by rw [hbit i h2,decide_eq_false (show ¬ i=m by omega),Bool.false_or]⟩
   ·have him:m≠i:=by rintro rfl; rw [hbm] at h; cases h
    rw [BS him,BS him]
   ·rcases List.mem_or_eq_of_mem_set hc with hc | rfl
    ·rcases List.mem_or_eq_of_mem_set hc with hc | rfl
     ·exact tv.bu c hc
     ·exact QL
    ·exact ZB (by omega)
   ·have key:v∈z1∨v=((m:Nat):Int):=by
     rcases (y5 v).1 hv with hv | hv
     ·exact (z5 v).1 hv
     ·exact .inr hv
    rcases key with hv | rfl
    ·exact .inl hv
    ·exact .inr ⟨m,rfl,hm,by rw [hbit m (by omega)]; simp⟩
 obtain ⟨up1,up2,up3,up4,up5⟩:=hup
 have hx':∀ i,i < 160→bit x i=true→bit x' i=true:=fun i hi h=>up1 i hi (tv.ot i hi h).2
 have hblk:∀ i,i < 160→bit x i=true→blk b' i=blk b i:=fun i hi h=>by
  have:=tv.ot i hi h
  rw [up2 i hi this.2]; exact this.1
 have hbl:b'.length=b.length:=hw.hb
 have hfree:∀ m:Nat,bit x m=false→((m:Nat):Int)∉y':=fun m hm hh=>by
  obtain ⟨m',e,_,h⟩:=hgone _ hh
  obtain rfl:m=m':=by omega
  rw [hm] at h; cases h
 have hgs:GS b' x' y' z':=by
  refine ⟨by rw [hbl]; exact hb,hw.hx,hw.hk,fun i hi=>?_,?_,?_⟩
  ·rw [hbl]
   have hg:=g.hbits i hi
   unfold bG at hg ⊢
   by_cases h33:i < 33
   ·have hl:=hw.hlow i h33
    rw [hl,decide_eq_false (show ¬ b.length≤i by omega)]; simp
   ·by_cases hin:b.length≤i
    ·rw [up5 i hin hi,tv.hi i hin hi]
     rw [decide_eq_false h33] at hg ⊢
     exact hg
    ·rw [decide_eq_false h33,decide_eq_false hin]; simp
  ·rw [hbl]
   refine L8 yr' fun v hv=>?_
   obtain ⟨m,rfl,hm,hbm⟩:=hgone v hv
   exact ⟨by omega,by omega,by rw [Int.toNat_natCast]; exact hx' m (by omega) hbm⟩
  ·rw [hbl]
   refine L8 hw.hr fun v hv=>?_
   have hnew:∀ m:Nat,(33≤m∧m < b.length)→bit x' m=true→33≤((m:Nat):Int)∧((m:Nat):Int)≤((b.length:Nat):Int) - 1∧bit x' (((m:Nat):Int)).toNat=true:=fun m hm h=>⟨by omega,by omega,by rw [Int.toNat_natCast]; exact h⟩
   rcases up4 v hv with hv | ⟨m,rfl,hm,h⟩
   ·rcases tv.zm v hv with hv | ⟨m,rfl,hm,h⟩
    ·obtain ⟨i,hi,rfl⟩:=List.getElem_of_mem hv
     have:=(FI g.hz).2 i hi
     exact ⟨this.1,this.2.1,hx' _ (by omega) this.2.2⟩
    ·exact hnew m hm (up1 m (by omega) h)
   ·exact hnew m hm h
 refine ⟨hgs,up3,hbl,hw.hu,?_,hblk⟩
 have hleaf:∀ k,k < 32→lfv b' (gb nx k)=av b top l k:=fun k hk32=>by
  cases ho:oth l k with
  | false=>
   rw [U5 ho,tv.st k hk32 (.inr ho)]
   unfold lfv
   split
   ·rfl
   ·rename_i hn
    have lf:=JX ht hk32 hn
    obtain ⟨m,e,h1,h2,h3,_⟩:=Dg lf.lv
    rw [e,Int.toNat_natCast,hblk m (by omega) h3]
  | true=>
   cases hz:nz (av b top l k) with
   | false=>
    rw [tv.dz k hk32 ho hz]
    unfold lfv
    rw [if_pos rfl]
    have hal:=HV b top l k
    have hall:∀ v∈av b top l k,v=0:=fun v hv=>by
     unfold nz at hz
     rw [List.any_eq_false] at hz
     have:=hz v hv
     simpa using this
    refine (List.eq_replicate_iff.2 ⟨hal,hall⟩).symm
   | true=>
    obtain ⟨m,e,hm,_,h3,h4⟩:=tv.dn k hk32 ho hz
    unfold lfv
    rw [e,if_neg (by omega),Int.toNat_natCast,up2 m (by omega) h3,h4,Uj (HV b top l k) (Aci hu (fun s hs=>Aad hb.2 (hlv s hs)) k)]
 have hst:∀ k,k < 32→stG b' x' y' nx k=true:=fun k hk32=>by
  unfold stG
  by_cases h0:gb nx k=0
  ·rw [decide_eq_true h0,Bool.true_or]
  rw [decide_eq_false h0,Bool.false_or]
  have hlk:=hleaf k hk32
  have hpn:B1 (blk b' (gb nx k).toNat)=av b top l k:=by
   rw [← hlk]; unfold lfv; rw [if_neg h0]
  rw [hpn]
  have hbad:QB b' x' (av b top l k)=false:=bad_no.2 fun v hv=>(AcL ht hlv hk32 v hv).imp id (AdR hbl hb.2 hx')
  rw [hbad]
  have hne:∀ j,j < k→gb nx j≠gb nx k→True:=fun _ _ _=>trivial
  have hun:(∀ j,j < k→gb nx j≠gb nx k)→((nx.take k).any fun v=>decide (v=gb nx k))=false:=fun h=>by
   rw [List.any_eq_false]
   intro v hv
   obtain ⟨j,hj,rfl⟩:=List.getElem_of_mem hv
   rw [List.length_take] at hj
   rw [List.getElem_take]
   have:=h j (by omega)
   unfold gb at this
   rw [List.getElem?_eq_getElem (by omega),Option.getD_some] at this
   unfold gb
   simpa using this
  have hwhat:∀ j,j < 32→gb nx j≠0→(∃ m:Nat,gb nx j=((m:Nat):Int)∧bit x m=false)∨(gb nx j=gb top j∧gb top j≠0∧oth l j=false):=fun j hj hjn=>by
   cases ho:oth l j with
   | false=>
    have:=tv.st j hj (.inr ho)
    exact .inr ⟨this,by rw [← this]; exact hjn,rfl⟩
   | true=>
    cases hz:nz (av b top l j) with
    | false=>exact absurd (tv.dz j hj ho hz) hjn
    | true=>obtain ⟨m,e,_,hx0,_,_⟩:=tv.dn j hj ho hz; exact .inl ⟨m,e,hx0⟩
  cases ho:oth l k with
  | true=>
   cases hz:nz (av b top l k) with
   | false=>exact absurd (tv.dz k hk32 ho hz) h0
   | true=>
    obtain ⟨m,e,hm,hx0,h3,h4⟩:=tv.dn k hk32 ho hz
    have hb4:blk b' m=AA (pgb 81 (av b top l k)):=by rw [up2 m (by omega) h3]; exact h4
    have hp:pgB b' x' y' (gb nx k) 81=true:=by
     unfold pgB
     rw [e,Int.toNat_natCast,hb4,RP (by omega) (by omega) (up1 m (by omega) h3) (hfree m hx0),decide_eq_true (T5 81 _),Ud (HV b top l k)]; rfl
    have hd:=hun fun j hj he=>by
     have hj0:gb nx j≠0:=by rw [he]; exact h0
     rcases hwhat j (by omega) hj0 with ⟨m2,e2,hx2⟩ | ⟨e2,hn2,_⟩
     ·cases hoj:oth l j with
      | false=>
       have:=tv.st j (by omega) (.inr hoj)
       rw [this] at hj0
       obtain ⟨m3,e3,_,_,h3x,_⟩:=Dg (JX ht (by omega) hj0).lv
       rw [this,e3] at e2
       obtain rfl:m3=m2:=by omega
       rw [hx2] at h3x; cases h3x
      | true=>
       cases hzj:nz (av b top l j) with
       | false=>exact absurd (tv.dz j (by omega) hoj hzj) hj0
       | true=>exact tv.ds j k hj hk32 hoj ho hzj hz he
     ·obtain ⟨m3,e3,_,_,h3x,_⟩:=Dg (JX ht (show j < 32 by omega) hn2).lv
      rw [e2,e3,e] at he
      obtain rfl:m3=m:=by omega
      rw [hx0] at h3x; cases h3x
    rw [hp,hd]; rfl
  | false=>
   have e:=tv.st k hk32 (.inr ho)
   have hn:gb top k≠0:=by rw [← e]; exact h0
   have lf:=JX ht hk32 hn
   obtain ⟨m,em,h1,h2,h3,h4⟩:=Dg lf.lv
   have hz:nz (av b top l k)=true:=by rw [U5 ho]; unfold lfv; rw [if_neg hn]; exact lf.nz
   have hny:((m:Nat):Int)∉y':=fun hh=>by
    rcases (ym' _).1 hh with hh | hh
    ·exact h4 hh
    ·rcases List.mem_append.1 hh with hh | hh
     ·obtain ⟨j,hj,ej,hnj,hoj⟩:=Mk _ _ _ _ hh
      have hjk:j≠k:=by rintro rfl; rw [ho] at hoj; cases hoj
      rcases Nat.lt_or_gt_of_ne hjk with hl | hl
      ·exact lf.un j hl (by rw [← ej,em])
      ·exact (JX ht hj hnj).un k hl (by rw [← ej,em])
     ·unfold rtL at hh
      split at hh
      ·cases hh
      ·rw [List.mem_singleton] at hh
       have hk80:=lf.rt.2.2
       have hk81:=lf.kd
       rw [em,Int.toNat_natCast] at hk81
       rw [← hh,Int.toNat_natCast,hk81] at hk80
       omega
   have hbe:=hblk m (by omega) h3
   have hp:pgB b' x' y' (gb nx k) 81=true:=by
    have hkd:=lf.kd; have hrz:=lf.rz
    rw [em,Int.toNat_natCast] at hkd hrz
    unfold pgB
    rw [e,em,Int.toNat_natCast,hbe,RP h1 (by omega) (hx' m (by omega) h3) hny,decide_eq_true hkd,hrz]; rfl
   have hd:=hun fun j hj he=>by
    have hj0:gb nx j≠0:=by rw [he]; exact h0
    rcases hwhat j (by omega) hj0 with ⟨m2,e2,hx2⟩ | ⟨e2,hn2,_⟩
    ·rw [e2,e,em] at he
     obtain rfl:m2=m:=by omega
     rw [hx2] at h3; cases h3
    ·exact lf.un j hj (by rw [← e2,he,e])
   rw [hp,hz,hd]; rfl
 rcases hend with ⟨hz,rfl,rfl,rfl,rfl⟩ | ⟨hz,m,rfl,hm,hbm,rfl,rfl,rfl,_,_⟩
 ·refine ⟨zer,by unfold tre; rw [if_pos rfl],fun k hk32=>?_⟩
  have hall:∀ v∈nx,v=0:=fun v hv=>by
   unfold nz at hz
   rw [List.any_eq_false] at hz
   have:=hz v hv
   simpa using this
  have:nx=zer:=List.eq_replicate_iff.2 ⟨hnl,hall⟩
  rw [← this]; exact hleaf k hk32
 ·have hb1:=tv.wk.hb
  have hbk:blk ((b1.set m Bj).set m (AA (pgb 80 nx))) m=AA (pgb 80 nx):=F9 (by rw [List.length_set]; omega)
  have htop:IH ((b1.set m Bj).set m (AA (pgb 80 nx))) ((m:Nat):Int)=nx:=by
   unfold IH
   rw [Int.toNat_natCast,hbk,Uj hnl hnv]
  have hx0:bit x m=false:=by
   cases h:bit x m with
   | false=>rfl
   | true=>have:=(tv.ot m (by omega) h).2; rw [hbm] at this; cases this
  have hx1:=tv.wk.hx
  have hbit:bit (setB x1 m) m=true:=by rw [BW tv.wk.hu (by omega) (by omega)]; simp
  refine ⟨nx,?_,hleaf⟩
  unfold tre
  rw [if_neg (by omega),htop]
  have hp:pgB ((b1.set m Bj).set m (AA (pgb 80 nx))) (setB x1 m) y' ((m:Nat):Int) 80=true:=by
   unfold pgB
   rw [Int.toNat_natCast,hbk,RP (by omega) (by omega) hbit (hfree m hx0),decide_eq_true (T5 80 _),Ud hnl]; rfl
  rw [hp,hz,all_range.2 hst]; rfl
end Go.V.G
set_option maxRecDepth 100000
namespace Go.V.G
open Go.V
def frb:Nat→List Int
 | 0=>List.replicate 20 0
 | k+1=>setB (frb k) k
theorem AbF (x:List Int) (k:Nat):(setB x k).length=x.length:=by unfold setB; simp
theorem Hu:∀ k,(frb k).length=20
 | 0=>rfl
 | k+1=>by show (setB (frb k) k).length=20; rw [AbF,Hu k]
theorem WZ:∀ k,k≤33→U8s (frb k)
 | 0,_=>fun v hv=>by rw [(List.mem_replicate.1 hv).2]; omega
 | k+1,h=>W5 (WZ k (by omega)) (by rw [Hu]; omega)
theorem AcE (j:Nat):bit (List.replicate 20 0) j=false:=by
 have e:(List.replicate 20 (0:Int))[j / 8]?.getD 0=0:=by
  rw [List.getElem?_replicate]; split <;> rfl
 unfold bit
 rw [e,Tl (by omega) (by omega) (by omega)]
 simp
theorem Yw:∀ k,k≤33→∀ j,j < 160→bit (frb k) j=decide (j < k)
 | 0,_,j,_=>by rw [show frb 0=List.replicate 20 0 from rfl,AcE]; simp
 | k+1,h,j,hj=>by
  show bit (setB (frb k) k) j=_
  rw [BW (WZ k (by omega)) (by rw [Hu]; omega) (by rw [Hu]; omega),Yw k (by omega) j hj,← Bool.decide_or]
  exact decide_eq_decide.2 (by omega)
theorem AaY {b:Bls} (hb:40≤b.length∧b.length≤160) (hk:∀ c∈b,c.length=128):GS b (frb 33) [] []:=by
 refine ⟨hb,Hu 33,hk,fun i hi=>?_,rfl,rfl⟩
 unfold bG
 rw [Yw 33 (by omega) i hi]
 by_cases h33:i < 33
 ·rw [decide_eq_true h33,decide_eq_false (show ¬ b.length≤i by omega)]; rfl
 ·rw [decide_eq_false h33]; simp
theorem Zj {m:Nat} (h:40≤m∧m≤160):∃ q,KW ((m:Nat):Int)=some (q,frb 33):=by
 obtain ⟨r,hr,_⟩:=Zm (m:=((m:Nat):Int)) (by omega) (by omega)
 refine ⟨r.2.1,?_⟩
 unfold KW
 rw [hr,Option.bind_some,iy (by omega),iy (by omega),if_pos (by simp [Aa])]
 have h1:=Ap FZ (fun k=>(((k:Nat):Int),r.2.1,frb k)) 33 (r.2.1,frb 33) (fun k hk=>by
  have hl:=Hu k
  unfold FZ
  dsimp only
  rw [iy (by omega),QN (by omega) (by omega),Option.bind_some,Ao (by omega)]
  rfl) (by
  unfold FZ
  dsimp only
  rw [ino (by omega)])
 rw [show Ab FZ (0,r.2.1,List.replicate (Int.toNat 20) 0)=_ from h1,Option.bind_some]
theorem Wf {e:Int} {b:Bls} {wr:Int} {on:Bool} {lf f:Int} {t:List UInt8} {r:List Rn} {cs:List (List Prt)} {u1:Int} {u2:Bool} {u3:Int} {c6:Bls} {s1:Bool} {s2:Int} {s3:Bool} :
  Ab EF (e,0,b,wr,on,lf,f,t,r,cs,u1,u2,u3,c6,List.replicate (Int.toNat 20) 0,s1,s2,s3)=some (e,b,wr,on,lf,f,t,r,cs,u1,u2,u3,c6,frb 33,s1,s2,s3):=
 Ap EF (fun k=>(e,((k:Nat):Int),b,wr,on,lf,f,t,r,cs,u1,u2,u3,c6,frb k,s1,s2,s3)) 33 (e,b,wr,on,lf,f,t,r,cs,u1,u2,u3,c6,frb 33,s1,s2,s3) (fun k hk=>by
   have hl:=Hu k
   have hg:(frb k)[0+Int.toNat ((k / 8:Nat):Int)]?=some (gb (frb k) (k / 8)):=by rw [Nat.zero_add,Int.toNat_natCast]; exact Ak (by omega)
   unfold EF
   dsimp only
   rw [iy (by omega),iy (by omega),dv8 (by omega),md8,iy (by omega),iy (by omega),hg,Option.bind_some,iy (by omega),iy (by omega),iy (by omega),iy (by omega),Option.bind_some,Option.bind_some,Ao (by omega),Nat.zero_add,Int.toNat_natCast,Int.toNat_natCast]
   rfl) (by
   unfold EF
   dsimp only
   rw [ino (by omega)])
theorem UJ {b:Bls} {x y z hv:List Int} {near:Int} {t:List UInt8} (g:RS b x y) (h:ID b x y near=some hv) (ht:t.length≤120):E2 (b,(x,(y,z))) t near=some ((zs (shs b hv (Bk 3 t))+1:Nat):Int):=by
 have e2:=PL (z:=z) (near:=near) g ht
 rw [h] at e2
 unfold E2
 rw [e2,Option.bind_some]
 dsimp only
 generalize hsh:shs b hv (Bk 3 t)=sh
 have hl:sh.length≤3:=by rw [← hsh,Fi]; exact EN 3 t
 have hfl:(flg sh).length=sh.length:=List.length_map _
 have h1:=Ap B5 (fun k=>(((zs (sh.take k)+1:Nat):Int),flg sh,(((flg sh).length:Nat):Int),((k:Nat):Int))) sh.length ((zs (sh.take sh.length)+1:Nat):Int) (fun k hk=>by
  have hg:=Ak hk
  have hf:(flg sh)[0+Int.toNat ((k:Nat):Int)]?=some (decide (¬ gb sh k=0)):=by rw [Nat.zero_add,Int.toNat_natCast]; unfold flg; rw [List.getElem?_map,hg]; rfl
  have hz:=Pm hg
  have hle:=Acb (l:=sh) k
  have hle2:zs sh≤sh.length:=List.countP_le_length
  unfold B5
  dsimp only
  rw [iy (by omega),iy (by omega),iy (by omega),hf,Option.bind_some,hz]
  by_cases h0:gb sh k=0
  ·rw [if_pos (by simp [h0]),Option.bind_some,if_pos h0]
   dsimp only
   rw [Ao (by omega),Ao (by omega)]
  ·rw [if_neg (by simp [h0]),Option.bind_some,if_neg h0]
   dsimp only
   rw [Ao (by omega)]) (by
  unfold B5
  dsimp only
  rw [ino (by omega)])
 rw [List.take_length] at h1
 have h2:Ab B5 (((zs (sh.take 0)+1:Nat):Int),flg sh,(((flg sh).length:Nat):Int),0)=_:=h1
 rw [show zs (sh.take 0)=0 from rfl] at h2
 rw [show Ab B5 (1,flg sh,(((flg sh).length:Nat):Int),0)=_ from h2,Option.bind_some]
theorem ZR (sp:Bls×(List Int×(List Int×List Int))):HY sp 0=some (trI [] 0 (some zer)):=by
 obtain ⟨b,x,y,z⟩:=sp
 unfold HY
 rw [iy (by omega),iy (by omega),if_pos (by decide),iy (by omega),iy (by omega),if_pos (by decide),XI,Option.bind_some]
 dsimp only
 rw [iy (by rfl)]
 rfl
theorem AeE (v:Int) (k:Nat):oth [(448,v)] k=decide (14=k):=by
 show (decide ((448:Int).toNat / 32=k) || false)=_
 rw [Bool.or_false]; rfl
theorem av1 (b:Bls) (v:Int):av b zer [(448,v)] 14=zer.set 0 v:=by
 show upd 14 (lfv b (gb zer 14)) (448,v)=_
 rw [VZ]
 unfold lfv upd
 rw [if_pos rfl]
 show (if (448:Int).toNat / 32=14 then zer.set ((448:Int).toNat % 32) v else zer)=_
 rw [show (448:Int).toNat=448 from rfl,if_pos (by decide)]
theorem Aag (b:Bls) {v:Int} (h:v≠0):nz (av b zer [(448,v)] 14)=true:=by
 rw [av1]
 unfold nz
 rw [List.any_eq_true]
 exact ⟨v,List.mem_iff_getElem?.2 ⟨0,rfl⟩,by simpa using h⟩
theorem AdV (b:Bls) {v:Int} (h:v≠0):∀ k,nwC b zer [(448,v)] k=if 14 < k then 1 else 0
 | 0=>rfl
 | k+1=>by
  simp only [nwC]
  rw [AdV b h k,AeE]
  by_cases hk:14=k
  ·subst hk
   rw [Aag b h]; rfl
  ·rw [decide_eq_false hk,Bool.false_and]
   simp only [Bool.false_eq_true,if_false]
   split <;> split <;> omega
theorem Adv (b:Bls) {v:Int} (h:v≠0):anC b zer [(448,v)] 32=true:=by
 unfold anC
 rw [List.any_eq_true]
 exact ⟨14,by simp,Aag b h⟩
theorem AeB (b:Bls) {v:Int} (h:v≠0):ndK b zer [(448,v)]=2:=by
 unfold ndK
 rw [if_neg (by simp),AdV b h,Adv b h]; rfl
theorem Acm (v:Int):Af [(448,v)]=some [(448,v)]:=by
 unfold Af
 rw [if_pos ⟨by simp,by simp,by simp⟩]
 simp
theorem Aeq:Af []=some []:=by
 unfold Af
 rw [if_pos ⟨by decide,by simp,by simp⟩]
 simp
end Go.V.G
set_option maxRecDepth 100000
namespace Go.V.G
open Go.V
abbrev Rsl:=Int×Dsk
def cmR (C:List Wr) (b:Bls) (wr lf:Int):Rsl:=if C.length≤30 then (if (El (Fp C) b wr lf).1=true then 0 else 2,(El (Fp C) b wr lf).2) else (8,b,wr,true,lf)
theorem AdK {n:Nat} {C:List Wr} {b:Bls} {wr lf:Int} (h:GrOk n C) (hn:40≤n) (hk:∀ c∈b,c.length=128):(cmR C b wr lf).2.1.length=b.length∧∀ c∈(cmR C b wr lf).2.1,c.length=128:=by
 unfold cmR
 split
 ·rename_i hl
  exact Yl _ _ _ _ (fun w hw=>(QG h hn hl w hw).2) hk
 ·exact ⟨rfl,hk⟩
theorem MT {b:Bls} (hb:b.length≤160) (hk:∀ c∈b,c.length=128):Bd b:=⟨by omega,fun c hc=>by have:=hk c hc; omega⟩
section
variable {b b':Bls} {x y z:List Int} {wr lf f hd ev:Int} {rt tx:Nat}
theorem Sn (hs:SupOk f hd ev rt tx) (g:GS b' x y z) (hu:∀ c∈b',U8s c) (hux:U8s x) (hyl:y.length≤2000) (hzl:z.length≤2000) (hbl:b.length=b'.length) (hk:∀ c∈b,c.length=128) :
  Gz b wr true lf b' x y z f hd ev ((rt:Nat):Int) ((tx:Nat):Int)=some (cmR (Dx b' x y z (EX f hd ev rt tx)) b wr lf):=by
 have hb:=g.hb
 have hsl:=Qp f hd ev rt tx
 have hgr:=QD g hu hux hsl (Sr hs) hzl
 unfold Gz
 rw [Zw hs,Option.bind_some,XN g hsl hyl hzl,Option.bind_some,WH (MT (by omega) hk),Option.bind_some]
 dsimp only
 unfold cmR
 by_cases hl:(Dx b' x y z (EX f hd ev rt tx)).length≤30
 ·rw [ino (by omega),if_pos hl,Xw hgr hb hl (by omega),Option.bind_some]
  generalize El _ b wr lf=q
  obtain ⟨q1,q2⟩:=q
  cases q1 <;> rfl
 ·rw [iy (by omega),if_neg hl]
theorem Wt {l:List Kv} {nw:Int} {o:Bool} (hs:SupOk f hd ev rt tx) (g:GS b' x y z) (hu:∀ c∈b',U8s c) (hux:U8s x) (hyl:y.length≤2000) (hzl:z.length≤2000) (hbl:b.length=b'.length) (hk:∀ c∈b,c.length=128) :
  A6 b wr true lf f hd ev ((rt:Nat):Int) ((tx:Nat):Int) b' x y z l false nw o =
   some ((cmR (Dx b' x y z (EX f hd ev rt tx)) b wr lf).1,(cmR (Dx b' x y z (EX f hd ev rt tx)) b wr lf).2.1,(cmR (Dx b' x y z (EX f hd ev rt tx)) b wr lf).2.2.1,(cmR (Dx b' x y z (EX f hd ev rt tx)) b wr lf).2.2.2.1,(cmR (Dx b' x y z (EX f hd ev rt tx)) b wr lf).2.2.2.2,b',x,y,z,l,false,nw,o):=by
 have hb:=g.hb
 have hsl:=Qp f hd ev rt tx
 have hgr:=QD g hu hux hsl (Sr hs) hzl
 unfold A6
 rw [if_neg (by simp),YC hs,Option.bind_some]
 dsimp only
 rw [Xc g hsl hyl hzl,Option.bind_some]
 dsimp only
 unfold cmR
 by_cases hl:(Dx b' x y z (EX f hd ev rt tx)).length≤30
 ·rw [decide_eq_true (show ((((Dx b' x y z (EX f hd ev rt tx)).length:Nat):Int)≤30) by omega),if_neg (by simp),KH (MT (by omega) hk),Option.bind_some,Zz hgr hb.2 hl,Option.bind_some]
  dsimp only
  have hpl:=TO (Dx b' x y z (EX f hd ev rt tx))
  rw [Uy (by omega) (by rw [hbl]; exact QG hgr hb.1 hl),Option.bind_some,if_pos hl]
  generalize El _ b wr lf=q
  obtain ⟨q1,q2⟩:=q
  cases q1 <;> rfl
 ·rw [decide_eq_false (show ¬ ((((Dx b' x y z (EX f hd ev rt tx)).length:Nat):Int)≤30) by omega),if_pos (by simp),KH (MT (by omega) hk),Option.bind_some,if_neg hl]
theorem OH {l:List Kv} {nw:Int} {o:Bool} {on:Bool} {a1 a2 a3 a4 a5:Int} (hb:b.length≤160) (hk:∀ c∈b,c.length=128) :
  A6 b wr on lf a1 a2 a3 a4 a5 b' x y z l true nw o=some (7,b,wr,on,lf,b',x,y,z,l,true,nw,o):=by
 unfold A6
 rw [if_pos rfl,KH (MT hb hk),Option.bind_some]
theorem XP {l:List Kv} {nw:Int} {key:Int} {d:List Int} (hd:d.length≤1000):∃ nw',Br key d b x y z l true nw false=some (b,x,y,z,l,true,nw',false):=by
 unfold Br
 rw [O1 hd,Option.bind_some,if_neg (by simp),if_pos rfl]
 exact ⟨_,rfl⟩
theorem XD {l:List Kv} {nw:Int} (hl:l=[]∨∃ v,l=[(448,v)]):∃ nw',Bf 0 zer (List.replicate 32 zer) b x y z l true nw false=some (0,b,x,y,z,l,true,nw',false):=by
 have hsort:Af l=some l:=by
  rcases hl with rfl | ⟨v,rfl⟩
  ·exact Aeq
  ·exact Acm v
 have hks:Ks l:=by
  rcases hl with rfl | ⟨v,rfl⟩
  ·intro s hs; cases hs
  ·intro s hs; rw [List.mem_singleton] at hs; subst hs; dsimp only; omega
 have hll:l.length≤1000:=by
  rcases hl with rfl | ⟨v,rfl⟩ <;> simp
 have hn:=QX (b:=b) (top:=zer) (root:=0) rfl hks hll
 unfold Bf
 rw [hsort,Option.bind_some,show Fh 0 zer (List.replicate 32 zer) l=_ from hn,Option.bind_some,if_neg (by simp),Option.bind_some]
 dsimp only
 rw [if_pos rfl]
 exact ⟨_,rfl⟩
theorem Y2 {v:Int} {nw:Int}:∃ nw',∀ at_ ok b2 x2 y2 z2,Bb 0 zer (zer.map (lfv b)) [(448,v)] b x y z=some (at_,ok,b2,x2,y2,z2)→
  Bf 0 zer (List.replicate 32 zer) b x y z [(448,v)] false nw false=some (at_,b2,x2,y2,z2,[(448,v)],!ok,nw',false):=by
 have hks:Ks [(448,v)]:=by
  intro s hs; rw [List.mem_singleton] at hs; subst hs; dsimp only; omega
 have hn:=QX (b:=b) (top:=zer) (root:=0) (l:=[(448,v)]) rfl hks (by simp)
 refine ⟨IntKind.wrap .i64 (nw+((ndK b zer [(448,v)]:Nat):Int)),fun at_ ok b2 x2 y2 z2 hset=>?_⟩
 unfold Bf
 rw [Acm,Option.bind_some,show Fh 0 zer (List.replicate 32 zer) [(448,v)]=_ from hn,Option.bind_some,if_neg (by simp),Option.bind_some]
 dsimp only
 rw [if_neg (by simp),show Bb 0 zer (List.replicate 32 zer) [(448,v)] b x y z=_ from hset,Option.bind_some]
end
section
variable {b:Bls} {wr lf ev f:Int} {on:Bool} {t:List UInt8} {r:List Rn} {cs:List (List Prt)}
def okM (b:Bls) (wr lf ev f:Int) (t:List UInt8) (r:List Rn) (cs:List (List Prt)):Prop:=gd b wr lf=true∧wr≤999999900∧(1≤ev∧ev≤30)∧Lq f t r cs=true∧cs.length=0
theorem Aa5 (hb:b.length≤1048576) (h:HB t r cs) (hbad:¬ okM b wr lf ev f t r cs):CB b wr on lf ev f t r cs=some (1,[],0,false,0):=by
 unfold CB
 refine Ok.eq (Ok.bind (Q:=fun v=>v=(ev,true,b,wr,on,lf,f,t,r,cs,0,false,0)) ?_ ?_)
 ·refine Ok.bind_eq (QT hb wr on lf) (Ok.ite (fun _=>Ok.mk rfl) fun h1=>Ok.ite (fun _=>Ok.mk rfl) fun h2=>Ok.bind_eq (CL _ _ _) (Ok.ite (fun _=>Ok.mk rfl) fun h3=>Ok.bind_eq (Hj h f) (Ok.ite (fun _=>Ok.mk rfl) fun h4=>Ok.mk ?_)))
  have h5:¬ cs.length=0:=fun h5=>hbad ⟨by simpa using h1,by simpa using h2,by simpa using h3,by simpa using h4,h5⟩
  rw [decide_eq_true (show (0:Int) < ((cs.length:Nat):Int) by omega)]
 ·rintro _ rfl; exact Ok.yes rfl (Ok.mk rfl)
theorem Aba (hb:b.length≤1048576) (h:HB t r cs) (hbad:¬ okM b wr lf ev f t r cs):B9 b wr on lf ev f t r cs=some (1,[],0,false,0):=by
 unfold B9
 refine Ok.eq (Ok.bind (Q:=fun v=>v=(ev,true,b,wr,on,lf,f,t,r,cs,0,false,0)) ?_ ?_)
 ·refine Ok.bind_eq (QA hb wr on lf) (Ok.ite (fun _=>Ok.mk rfl) fun h1=>Ok.bind_eq (A5 _ _ _) (Ok.ite (fun _=>Ok.mk rfl) fun h3=>Ok.bind_eq (Hn h f) (Ok.ite (fun _=>Ok.mk rfl) fun h4=>Ok.ite (fun _=>Ok.mk rfl) fun h5=>Ok.mk ?_)))
  have h5':¬ (0:Int) < ((cs.length:Nat):Int):=fun hh=>h5 (decide_eq_true hh)
  have h2:¬ wr≤999999900:=fun h2=>hbad ⟨by simpa using h1,h2,by simpa using h3,by simpa using h4,by omega⟩
  rw [decide_eq_true (show (999999900:Int) < wr by omega)]
 ·rintro _ rfl; exact Ok.yes rfl (Ok.mk rfl)
theorem Abr (hb:b.length≤1048576) (h:HB t r cs) (hok:okM b wr lf ev f t r cs) (hbd:Bd b):CB b wr false lf ev f t r cs=some (2,b,wr,false,lf):=by
 obtain ⟨h1,h2,h3,h4,h5⟩:=hok
 unfold CB
 rw [QT hb,h1,Option.bind_some,if_neg (by simp),ino (by omega),CL,decide_eq_true h3,Option.bind_some,if_neg (by simp),Hj h,h4,Option.bind_some,if_neg (by simp),decide_eq_false (show ¬ (0:Int) < ((cs.length:Nat):Int) by omega),Option.bind_some]
 dsimp only
 rw [if_neg (by simp),if_pos (by simp),WH hbd,Option.bind_some]
theorem AaU (hb:b.length≤1048576) (h:HB t r cs) (hok:okM b wr lf ev f t r cs) (hbd:Bd b):B9 b wr false lf ev f t r cs=some (2,b,wr,false,lf):=by
 obtain ⟨h1,h2,h3,h4,h5⟩:=hok
 unfold B9
 rw [QA hb,h1,Option.bind_some,if_neg (by simp),A5,decide_eq_true h3,Option.bind_some,if_neg (by simp),Hn h,h4,Option.bind_some,if_neg (by simp),ino (by omega),decide_eq_false (show ¬ (999999900:Int) < wr by omega),Option.bind_some]
 dsimp only
 rw [if_neg (by simp),if_pos (by simp),KH hbd,Option.bind_some]
end
end Go.V.G
set_option maxRecDepth 100000
namespace Go.V.G
open Go.V
theorem AaR {b:Bls} {wr lf:Int} (h:gd b wr lf=true):(40≤b.length∧b.length≤160)∧∀ c∈b,c.length=128:=by
 unfold gd at h
 simp only [Bool.and_eq_true,decide_eq_true_eq,List.all_eq_true,beq_iff_eq] at h
 exact ⟨h.1,h.2.1⟩
theorem Aeo (b:Bls) (x y:List Int):ID b x y 0=some []:=rfl
theorem wr2 {a c:Nat} (ha:a≤1000) (hc:c≤1000):IntKind.wrap .i64 (IntKind.wrap .i64 (((a:Nat):Int)+((c:Nat):Int))+2)=((a+c+2:Nat):Int):=by
 rw [w64 (n:=((a:Nat):Int)+((c:Nat):Int)) (by omega) (by omega),w64 (by omega) (by omega)]; omega
section
variable {b:Bls} {wr lf ev f:Int} {t:List UInt8} {r:List Rn} {cs:List (List Prt)}
theorem Adi (hu:∀ c∈b,U8s c) (h:HB t r cs) (hok:okM b wr lf ev f t r cs) :
  ∃ q:Rsl,CB b wr true lf ev f t r cs=some q∧B9 b wr true lf ev f t r cs=some q∧(q.2.1.length=b.length∧∀ c∈q.2.1,c.length=128):=by
 obtain ⟨h1,h2,h3,h4,h5⟩:=hok
 obtain ⟨hn,hk⟩:=AaR h1
 have gh:=goodH_iff.1 h4
 have ht:t.length≤120:=by have:=gh.ht; omega
 have hrl:r.length≤120:=by
  obtain ⟨hh,_,h6⟩:=goodRuns_iff.1 gh.hr
  have:=Pu h6.pos
  have:=h6.sum
  omega
 have hel:=MY r
 have hed:(Di r).length≤1000:=by omega
 have heu:U8s (Di r):=AbP r
 have hbd:=MT hn.2 hk
 have g0:=AaY hn hk
 have hux:=WZ 33 (by omega)
 have sb0:SB b (frb 33) [] []:=⟨by omega,by simp,by simp⟩
 have rs0:=g0.rs sb0 hu
 have hh0:=Aeo b (frb 33) []
 obtain ⟨nd1,nd2,_⟩:=YU hed
 have hzs:zs (shs b [] (Bk 3 t))≤3:=by
  have e1:=Fi b [] (Bk 3 t)
  have e2:=EN 3 t
  have e3:zs (shs b [] (Bk 3 t))≤(shs b [] (Bk 3 t)).length:=List.countP_le_length
  omega
 obtain ⟨q0,hfr⟩:=Zj (m:=b.length) hn
 have hS:CB b wr true lf ev f t r cs=if decide (((cnt (frb 33) b.length:Nat):Int) < ((zs (shs b [] (Bk 3 t))+1+nd (Di r).length+2:Nat):Int))=true then some (7,b,wr,true,lf) else
   Option.bind (DG t 0 b (frb 33) [] []) fun c13=>
   Option.bind (FY (Di r) c13.2.1 c13.2.2.1 c13.2.2.2.1 c13.2.2.2.2) fun c14=>
   Option.bind (ED 0 [(448,c14.1)] c14.2.1 c14.2.2.1 c14.2.2.2.1 c14.2.2.2.2) fun c15=>
   Option.bind (Gz b wr true lf c15.2.1 c15.2.2.1 c15.2.2.2.1 c15.2.2.2.2 f f ev c15.1 c13.1) fun c16=>
   some (c16.1,c16.2.1,c16.2.2.1,c16.2.2.2.1,c16.2.2.2.2):=by
  unfold CB
  rw [QT (by omega),h1,Option.bind_some,if_neg (by simp),ino (by omega),CL,decide_eq_true h3,Option.bind_some,if_neg (by simp),Hj h,h4,Option.bind_some,if_neg (by simp),decide_eq_false (show ¬ (0:Int) < ((cs.length:Nat):Int) by omega),Option.bind_some]
  dsimp only
  rw [if_neg (by simp),if_neg (by simp),WH hbd,Option.bind_some,hfr,Option.bind_some,Xr (by omega),Option.bind_some]
  dsimp only
  rw [YI hn.2 (Hu 33),Option.bind_some,UA rs0 hh0 ht,Option.bind_some,TR hed,Option.bind_some,wr2 (by omega) (by omega)]
  rfl
 have hI:B9 b wr true lf ev f t r cs =
   Option.bind (CP t 0 b (frb 33) [] [] [] false 0 false) fun c11=>
   Option.bind (Br 448 (Di r) c11.2.1 c11.2.2.1 c11.2.2.2.1 c11.2.2.2.2.1 c11.2.2.2.2.2.1 c11.2.2.2.2.2.2.1 c11.2.2.2.2.2.2.2.1 c11.2.2.2.2.2.2.2.2) fun c13=>
   Option.bind (Bf 0 zer (List.replicate 32 zer) c13.1 c13.2.1 c13.2.2.1 c13.2.2.2.1 c13.2.2.2.2.1 c13.2.2.2.2.2.1 c13.2.2.2.2.2.2.1 c13.2.2.2.2.2.2.2) fun c15=>
   Option.bind (A6 b wr true lf f f ev c15.1 c11.1 c15.2.1 c15.2.2.1 c15.2.2.2.1 c15.2.2.2.2.1 c15.2.2.2.2.2.1 c15.2.2.2.2.2.2.1 c15.2.2.2.2.2.2.2.1 c15.2.2.2.2.2.2.2.2) fun c16=>
   some (c16.1,c16.2.1,c16.2.2.1,c16.2.2.2.1,c16.2.2.2.2.1):=by
  unfold B9
  rw [QA (by omega),h1,Option.bind_some,if_neg (by simp),A5,decide_eq_true h3,Option.bind_some,if_neg (by simp),Hn h,h4,Option.bind_some,if_neg (by simp),ino (by omega),decide_eq_false (show ¬ (999999900:Int) < wr by omega),Option.bind_some]
  dsimp only
  rw [if_neg (by simp),if_neg (by simp),NQ hbd,Option.bind_some,iy (by omega),iy (by omega),if_pos (by simp [Aa]),Wf,Option.bind_some]
  dsimp only
  refine congrArg (Option.bind _) (funext fun c11=>?_)
  rw [S9 (by omega),Option.bind_some]
  refine congrArg (Option.bind _) (funext fun c13=>?_)
  rw [ZR,Option.bind_some]
  rfl
 have hT:∀ (at_:Int) (ok:Bool) (b2:Bls) (x2 y2 z2:List Int),BU t 0 b (frb 33) [] []=some (at_,ok,b2,x2,y2,z2)→
   ∃ nw,CP t 0 b (frb 33) [] [] [] false 0 false=some (at_,b2,x2,y2,z2,[],!ok,nw,false):=by
  intro at_ ok b2 x2 y2 z2 hl
  unfold CP
  rw [UJ rs0 hh0 ht,Option.bind_some,if_neg (by simp),if_neg (by simp),hl,Option.bind_some]
  exact ⟨_,rfl⟩
 have hR:∀ (b1:Bls) (x1 y1 z1:List Int) (nw at_:Int) (ok:Bool) (b2:Bls) (x2 y2 z2:List Int),BE (Di r) b1 x1 y1 z1=some (at_,ok,b2,x2,y2,z2)→
   ∃ nw',Br 448 (Di r) b1 x1 y1 z1 [] false nw false=some (b2,x2,y2,z2,[(448,at_)],!ok,nw',false):=by
  intro b1 x1 y1 z1 nw at_ ok b2 x2 y2 z2 hl
  unfold Br
  rw [O1 hed,Option.bind_some,if_neg (by simp),if_neg (by simp),hl,Option.bind_some,if_pos (by simp [Aa])]
  exact ⟨_,rfl⟩
 have hfull:∀ (at_:Int) (b2:Bls) (x2 y2 z2:List Int) (l:List Kv) (nw:Int),(l=[]∨∃ v,l=[(448,v)])→
   (Option.bind (Bf 0 zer (List.replicate 32 zer) b2 x2 y2 z2 l true nw false) fun c15=>
   Option.bind (A6 b wr true lf f f ev c15.1 at_ c15.2.1 c15.2.2.1 c15.2.2.2.1 c15.2.2.2.2.1 c15.2.2.2.2.2.1 c15.2.2.2.2.2.2.1 c15.2.2.2.2.2.2.2.1 c15.2.2.2.2.2.2.2.2) fun c16=>
   some (c16.1,c16.2.1,c16.2.2.1,c16.2.2.2.1,c16.2.2.2.2.1))=some (7,b,wr,true,lf):=by
  intro at_ b2 x2 y2 z2 l nw hl
  obtain ⟨nw',e⟩:=XD (b:=b2) (x:=x2) (y:=y2) (z:=z2) (nw:=nw) hl
  rw [e,Option.bind_some]
  dsimp only
  rw [OH hn.2 hk,Option.bind_some]
 rcases VF (near:=0) (t:=t) g0 sb0 hu hux hh0 ht with ⟨A,r0,b2,x2,z2,hLt,hs1,hi1⟩ | ⟨hc,k,b2,x2,z2,hi1⟩
 ·-- the text is laid
  obtain ⟨nw1,e1⟩:=hT _ _ _ _ _ _ hi1
  rw [e1,Option.bind_some] at hI
  dsimp only at hI
  have g1:=hLt.gs g0
  have hb2:=hLt.wk.hb
  have hz2:=hLt.wk.hz
  have sb1:SB b2 x2 [] z2:=⟨by omega,by simp,by omega⟩
  have hct:=hLt.ct
  rcases Xg g1 sb1 hLt.bu hLt.wk.hu heu hed with ⟨hc,⟨fb,fx,fy,fz⟩,hi2⟩ | ⟨l,k0,b3,x3,z3,hl0,hLr,hs2,hi2⟩
  ·-- the record is not
   obtain ⟨nw2,e2⟩:=hR b2 x2 [] z2 nw1 _ _ _ _ _ _ hi2
   rw [show (!true)=false from rfl,e2,Option.bind_some] at hI
   dsimp only at hI
   rw [show (!false)=true from rfl,hfull _ _ _ _ _ _ _ (.inr ⟨_,rfl⟩)] at hI
   rw [hb2] at hc
   rw [iy (by omega)] at hS
   exact ⟨_,hS,hI,rfl,hk⟩
  ·obtain ⟨nw2,e2⟩:=hR b2 x2 [] z2 nw1 _ _ _ _ _ _ hi2
   rw [show (!true)=false from rfl,e2,Option.bind_some] at hI
   dsimp only at hI
   have g2:=hLr.gs g1
   have hb3:=hLr.wk.hb
   have hz3:=hLr.wk.hz
   have sb2:SB b3 x3 [] z3:=⟨by omega,by simp,by omega⟩
   have hct2:=hLr.ct
   rw [hb2] at hct2
   have hll:=hLr.len
   have h0l:0 < l.length:=by omega
   obtain ⟨kk,ek,hkk,_,hkb,_⟩:=hLr.at_ 0 h0l
   rw [hl0] at ek
   have ek:=Option.some.inj ek
   have hset:Pq b3 x3 [] [(448,k0)]=true:=by
    unfold Pq
    rw [decide_eq_true (show ([(448,k0)]:List Kv).length≤64 by simp),Bool.true_and]
    show (SF b3 x3 [] [(448,k0)] 0 && true)=true
    unfold SF
    have hlv:liv b3 x3 [] k0=true:=by
     rw [ek]; exact RP (by omega) (by omega) hkb (by simp)
    show (decide ((0:Int)≤448∧(448:Int)≤1023) && ((decide (k0=0) || liv b3 x3 [] k0) && (decide (0=0) || _)) && true)=true
    rw [hlv]; simp
   have htz:tre b3 x3 [] 0=some zer:=rfl
   have hk0:k0≠0:=by omega
   have hnk:=AeB b3 hk0
   obtain ⟨nw3,e3⟩:=Y2 (b:=b3) (x:=x3) (y:=[]) (z:=z3) (v:=k0) (nw:=nw2)
   rcases AbN g2 sb2 hLr.bu hLr.wk.hu htz hset (by simp) (by intro i j hi; simp at hi) (by simp) with ⟨hc,⟨fb,fx,fy,fz⟩,hi3⟩ | ⟨at_,b4,x4,y4,z4,hSk,hct3,hi3,hs3⟩
   ·rw [show (!true)=false from rfl,e3 _ _ _ _ _ _ hi3,Option.bind_some] at hI
    dsimp only at hI
    rw [show (!false)=true from rfl,OH hn.2 hk,Option.bind_some] at hI
    rw [hb3,hb2] at hc
    rw [iy (by omega)] at hS
    exact ⟨_,hS,hI,rfl,hk⟩
   ·rw [show (!true)=false from rfl,e3 _ _ _ _ _ _ hi3,Option.bind_some] at hI
    dsimp only at hI
    rw [hb3,hb2] at hct3
    rw [ino (by omega),hs1,Option.bind_some] at hS
    dsimp only at hS
    rw [hs2,Option.bind_some] at hS
    dsimp only at hS
    rw [hs3,Option.bind_some] at hS
    dsimp only at hS
    have tn:=hSk.tn g2 hLr.bu htz hset
    obtain ⟨hyr,hyl⟩:=tn.gs.ylen
    have hz4:=hSk.wk.hz
    have hbl:b4.length=b.length:=by rw [tn.bl,hb3,hb2]
    obtain ⟨nx,_,_,_,_,_,_,_,hnn,hend⟩:=hSk.ex
    rw [Adv b3 hk0] at hnn
    rcases hend with ⟨hz,_⟩ | ⟨_,m,rfl,hm,_⟩
    ·rw [hnn] at hz; cases hz
    have hrt:=hLt.rt.1
    have sok:SupOk f f ev m r0:=⟨⟨gh.hf.1,Int.le_refl _⟩,gh.hf.2,h3,by omega,by omega⟩
    rw [Sn sok tn.gs tn.bu tn.ux (by omega) (by omega) hbl.symm hk,Option.bind_some] at hS
    rw [show (!true)=false from rfl,Wt sok tn.gs tn.bu tn.ux (by omega) (by omega) hbl.symm hk,Option.bind_some] at hI
    have hgr:=QD (d:=EX f f ev m r0) tn.gs tn.bu tn.ux (Qp _ _ _ _ _) (Sr sok) (by omega)
    exact ⟨cmR (Dx b4 x4 y4 z4 (EX f f ev m r0)) b wr lf,hS,hI,AdK hgr (by rw [hbl]; exact hn.1) hk⟩
 ·-- the text is not laid
  obtain ⟨nw1,e1⟩:=hT _ _ _ _ _ _ hi1
  rw [e1,Option.bind_some] at hI
  dsimp only at hI
  obtain ⟨nw2,e2⟩:=XP (b:=b2) (x:=x2) (y:=[]) (z:=z2) (l:=[]) (nw:=nw1) (key:=448) hed
  rw [show (!false)=true from rfl,e2,Option.bind_some] at hI
  dsimp only at hI
  rw [hfull _ _ _ _ _ _ _ (.inl rfl)] at hI
  rw [iy (by omega)] at hS
  exact ⟨_,hS,hI,rfl,hk⟩
theorem Tg {on:Bool} (hb:b.length≤1048576) (hu:∀ c∈b,U8s c) (h:HB t r cs) :
  ∃ q:Rsl,CB b wr on lf ev f t r cs=some q∧B9 b wr on lf ev f t r cs=some q∧AL q.2.1≤1000000:=by
 by_cases hok:okM b wr lf ev f t r cs
 ·obtain ⟨hn,hk⟩:=AaR hok.1
  have hw:∀ c:Bls,c.length=b.length→(∀ x∈c,x.length=128)→AL c≤1000000:=by
   intro c hc hk
   have:=Tj (w:=AX) (B:=128) (xs:=c) fun x hx=>by
    have e:AX x=x.length:=rfl
    rw [e,hk x hx]; omega
   have e:AL c=c.length+Aq AX c:=rfl
   rw [e]; omega
  cases on with
  | true=>
   obtain ⟨q,hs,hi,hl,hk2⟩:=Adi hu h hok
   exact ⟨q,hs,hi,hw _ hl hk2⟩
  | false=>exact ⟨_,Abr hb h hok (MT hn.2 hk),AaU hb h hok (MT hn.2 hk),hw _ rfl hk⟩
 ·exact ⟨_,Aa5 hb h hok,Aba hb h hok,by decide⟩
end
end Go.V.G
set_option maxRecDepth 100000
namespace Go.V.G
open Go.V
theorem Aaf {b:List (List Int)} {x:Int} {y:Bool} {z:Int} (h:AL b≤1099511627776) {k:Int} (h0:0≤k) (h1:k≤1099511627776) :
  Gk (mks EJ Bm b k) x y z k=some (k+Aq Bm b):=by
 have:=I6 b
 unfold Gk; rw [Xo h h0 (by omega),Option.bind_some,if_neg (by simp; omega)]
theorem Wj {n:Nat} {l:Int} (h:¬ lft l n < 0):((n:Nat):Int)≤l:=by
 unfold lft at h
 split at h
 ·assumption
 ·exact absurd (by omega) h
theorem AdJ {n:Int} (h:ES (.int .u8) n):0≤n∧n≤255:=by
 have h2:(Lit.int .u8 n).wf=true:=h
 simp [Lit.wf,IntKind.min,IntKind.max,IntKind.bits,IntKind.signed] at h2
 omega
theorem RC {b:Bls} {t:List UInt8} {r:List Rn} {cs:List (List Prt)} (f2:JI b) (hu:∀ c∈b,U8s c) (h:FitH t r cs) (wr:Int) (on:Bool) (lf ev f:Int):Ec b wr on lf ev f t r cs=some true:=by
 unfold Ec
 rw [AcA f2 (by omega) (by omega),Option.bind_some]
 by_cases hs:lft 1048576 (AL b) < 0
 ·rw [if_pos (by simpa using hs)]
 rw [if_neg (by simpa using hs)]
 have hw:=Wj hs
 have hl0:lft 1048576 (AL b)=1048576 - AL b:=by unfold lft; rw [if_pos hw]
 rw [hl0,Zq (a:=f) ⟨h.ht,h.hr,h.hc⟩ (by omega) (by omega),Option.bind_some]
 by_cases hs2:lft (1048576 - ((AL b:Nat):Int)) (Cu (f,t,r,cs)) < 0
 ·rw [if_pos (by simpa using hs2)]
 rw [if_neg (by simpa using hs2)]
 have hw2:=Wj hs2
 have hb:=Aea (f:=f) h (by omega)
 have hbl:=FQ b
 obtain ⟨q,hz1,hz2,hzw⟩:=Tg (b:=b) (wr:=wr) (lf:=lf) (ev:=ev) (f:=f) (on:=on) (by omega) hu hb
 have htd:FJ b wr on lf=some (b,wr,on,lf):=AcG (by omega)
 have hto:Dz f t r cs=some (f,t,r,cs):=Y1 (by omega)
 have hed:E0 b wr on lf b wr on lf=some true:=Yd (by omega)
 have heq:GJ f t r cs f t r cs=some true:=YF (by omega)
 have hcd2:=I6 b
 have hmd:DL b wr on lf 1=_:=TC (by omega) (by omega) (by omega)
 have hmk:Ed f t r cs (1+((Aq Bm b:Nat):Int))=_:=Wm (by omega) (by omega) (by omega)
 have hn:¬ ((1:Int)+((Aq Bm b:Nat):Int)+((YY r cs:Nat):Int) < 0):=by omega
 have hq:E0 q.2.1 q.2.2.1 q.2.2.2.1 q.2.2.2.2 q.2.1 q.2.2.1 q.2.2.2.1 q.2.2.2.2=some true:=Yd (by omega)
 have hcz:=I6 q.2.1
 have hm:DL q.2.1 q.2.2.1 q.2.2.2.1 q.2.2.2.2 1=_:=TC (by omega) (by omega) (by omega)
 have hh:Gk (mks EJ Bm q.2.1 1) q.2.2.1 q.2.2.2.1 q.2.2.2.2 1=_:=Aaf (by omega) (by omega) (by omega)
 have hn2:¬ ((1:Int)+((Aq Bm q.2.1:Nat):Int) < 0):=by omega
 simp only [htd,hto,hz1,hz2,hed,heq,hmd,hmk,hn,hq,hm,hh,hn2,Option.bind_some,Bool.not_true,Bool.false_eq_true,if_false,not_true_eq_false,decide_false]
end Go.V.G
namespace Go.Proofs.YtofhefmbioblbaaGreat
open Go.V
theorem Mm {e1 e2 e3 e4 e5:TypeId} (x0:List (List Int)) (x1:Int) (x2:Bool) (x3 x4 x5:Int) (x6:List UInt8) (x7:List (Int×Int)) (x8:List (List (Int×(Int×List UInt8))))
  (g0:∀ l∈([⟨.sl false e1 (.sl false e2 (.int .u8)),x0⟩,⟨.int .i64,x1⟩,⟨.bool,x2⟩,⟨.int .i64,x3⟩]:List Ae),ES l.1 l.2) (g1:ES (.int .i64) x4)
  (g2:∀ l∈([⟨.int .i64,x5⟩,⟨.str,x6⟩,⟨.sl false e3 (.pair (.int .i64) (.int .i64)),x7⟩,⟨.sl false e4 (.sl false e5 (.pair (.int .i64) (.pair (.int .i64) .str))),x8⟩]:List Ae),ES l.1 l.2):G.Ec x0 x1 x2 x3 x4 x5 x6 x7 x8=some true:=by
 have h1:=g0 ⟨.sl false e1 (.sl false e2 (.int .u8)),x0⟩ (by simp)
 have k1:=g2 ⟨.str,x6⟩ (by simp)
 have k2:=g2 ⟨.sl false e3 (.pair (.int .i64) (.int .i64)),x7⟩ (by simp)
 have k3:=g2 ⟨.sl false e4 (.sl false e5 (.pair (.int .i64) (.pair (.int .i64) .str))),x8⟩ (by simp)
 exact G.RC ⟨h1.1,fun x hx=>(h1.2 x hx).1⟩ (fun x hx y hy=>G.AdJ ((h1.2 x hx).2 y hy)) (G.Adb k1 k2 k3) x1 x2 x3 x4 x5
end Go.Proofs.YtofhefmbioblbaaGreat