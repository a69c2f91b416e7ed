import Derived.Test.YtofhefmbioblbaaGreatQNpA
import Derived.Test.YtofhefmbioblbaaGreatQNpB
import Derived.Test.YtofhefmbioblbaaGreatQNpE
import Derived.Test.YtofhefmbioblbaaGreatQNpJ
import Derived.RangeFuncNested
import Derived.RangeFuncBound
import Derived.RangeFuncCalls
import Derived.RangeFuncLeaves
import Derived.RangeFuncFrom
import Derived.RangeFuncBox
import Derived.Maps.AppendAt
import Derived.Shelf.Abstract
import Derived.Shelf.RegionOpen
import Derived.WalkKit
import Derived.OwnWalkIn
import Derived.TacticsInMore
import Derived.LoopNIn
import Derived.LoopIn
import Derived.RegionIn
import Derived.BigRegionIn
import Derived.Test.YtofhefmbioblbaaGreatProg
set_option linter.unusedVariables false
set_option linter.unusedSimpArgs false
namespace Go.Proofs
open Go.RowKit Go.Shelf
attribute [local go_sem] Oper.semAt_some
def KpC (Bs Bn:Nat) (W W':World):Prop:=W.heap.size<=W'.heap.size/\(∀v,W.cell? ⟨Bs,0,none⟩=some v->W'.cell? ⟨Bs,0,none⟩=some v)/\(∀v,W.cell? ⟨Bn,0,none⟩=some v->W'.cell? ⟨Bn,0,none⟩=some v)
def E7 (k:Nat) (m:Nat):List { k:Nat // k < m }:=((List.range m).take k).pmap (λi h=>⟨i,h⟩) (λi h=>Aqw.1 (ApL h))
theorem Xc {k m:Nat} (h:k<=m):(E7 k m).length=k:=by simp [E7];omega
theorem Vz {k m:Nat} (h:k < m):E7 (k+1) m=E7 k m++[⟨k,h⟩]:=by
 unfold E7;apply List.ext_getElem
 .simp;omega
 .intro i h1 h2;simp only [List.length_pmap,AoQ,List.length_range]at h1;rw [List.getElem_append];split
  .simp
  .rename_i h3;simp only [List.length_pmap,AoQ,List.length_range]at h3;have:i=k:=O
   subst this;simp
set_option maxRecDepth 100000 in
set_option maxHeartbeats 2000000 in
theorem Af6 (F:Fence) (n:Nat) (h7:F.fn 363) (hro:F.round=none) (hn:1<=n) (l Bs Bn m cap:Nat) (oA:Option Addr) (A:Addr) (hA:0 < m->oA=some A) (hcap:2 * m<=cap) (hm:2 * m<=1048576) (J Jx:List { k:Nat // k < m }->World->Prop)
  (hY:∀pre x W,J pre W->pre.length < m->YieldAt F (n - 1) Tryz.prog l #[.slice (some (A.add (2 * x.1))) 2 2] W λe W'=>
   (e=.returned (.bool true)/\J (pre++[x]) W'/\KpC Bs Bn W W')\/(e=.returned (.bool false)/\Jx (pre++[x]) W'))
  (W:World) (hJd:∀pre W,J pre W->J pre W.drew) (hBs:W.cell? ⟨Bs,0,none⟩=some (.slice oA (2 * m) cap)) (hBn:W.cell? ⟨Bn,0,none⟩=some (.int .i64 2)) (h0:J [] W) :
  CallsIn F n Tryz.prog 363 #[.func (.yield l) #[] #[],.pointer (some ⟨Bs,0,none⟩),.pointer (some ⟨Bn,0,none⟩)] W λe W'=>(∃v,e=.returned v)/\
   ((∃ys,ys=E7 m m/\J ys W')\/(∃pre,(∃k,k<=m/\pre=E7 k m)/\Jx pre W')):=by
 refine callsIn_of_wp Tryz.func363 rfl h7 ?_ hro;simp only [Tryz.ntmps363,Apn,AoV,Apd,Nat.reduceAdd,Nat.reduceSub,Array.replicate_succ,Array.replicate_zero,List.push_toArray,List.append_toArray,Ao6,Apj]
 gi_wp2
 gi_loopw [4] (λi wr=>∃k:Nat,k<=m/\i=.int .i64 ((2 * k:Nat):Int)/\J (E7 k m) wr/\wr.cell? ⟨Bs,0,none⟩=some (.slice oA (2 * m) cap)/\wr.cell? ⟨Bn,0,none⟩=some (.int .i64 2))
  (λi _=>2 * m - (intOf i).toNat)
 case atStart=>exact⟨0,ApP _,rfl,h0,hBs,hBn⟩
 case round=>
  obtain ⟨k,hk,rfl,hJs,hs,hb⟩:=hrel;by_cases hlt:k < m
  .have hoA:=hA O;subst hoA;obtain ⟨fn,tmps,assign,body,hy,hR⟩:=hY _ ⟨k,hlt⟩ wr.drew (hJd _ _ hJs) (by rw [Xc hk];exact hlt);dsimp only at hy;have hs':wr.drew.cell? ⟨Bs,0,none⟩=some (.slice (some A) (2 * m) cap):=hs;have hb':wr.drew.cell? ⟨Bn,0,none⟩=some (.int .i64 2):=hb;have e2:(if(((2 * m - 2 * k:Nat):Int)) < 2 then((2 * m - 2 * k:Nat):Int)else 2)=2:=by split <;> omega
   have e3:A.add (2 * k * 1)=A.add (2 * k):=by rw [Nat.mul_one]
   gi_wp2
   gi_region
   all_goals gi_wp2
   all_goals
    refine hR.mono ?_;rintro e W3 (⟨rfl,hJ3,hk3⟩ | ⟨rfl,hJx3⟩)
    .have hs3:=hk3.2.1 _ hs';have hb3:=hk3.2.2 _ hb'
     gi_wp2
     go_roundw
     case rel=>exact⟨k+1,O,Aoz,by rw [Vz hlt];exact hJ3,hs3,hb3⟩
     case measure=>simp [intOf];omega
    .gi_wp2
     refine bodyPost_ret (results_none rfl _ _ _) rfl ?_;exact⟨⟨_,rfl⟩,.inr ⟨_,⟨k+1,O,(Vz hlt).symm⟩,hJx3⟩⟩
  .obtain rfl:k=m:=O
   gi_wp2
   go_end0
   exact⟨⟨_,rfl⟩,.inl ⟨_,rfl,hJs⟩⟩
theorem Acb (F:Fence) (n:Nat) (h7:F.fn 363) (hro:F.round=none) (hn:1<=n) (Bs Bn m cap:Nat) (oA:Option Addr) (A:Addr) (hA:0 < m->oA=some A) (hcap:2 * m<=cap) (hm:2 * m<=1048576) (w:World)
  (hBs:w.cell? ⟨Bs,0,none⟩=some (.slice oA (2 * m) cap)) (hBn:w.cell? ⟨Bn,0,none⟩=some (.int .i64 2)) (hls:Bs < w.heap.size) (hln:Bn < w.heap.size) :
  SeqStopsK F n Tryz.prog 363 #[.pointer (some ⟨Bs,0,none⟩),.pointer (some ⟨Bn,0,none⟩)] (λx:{ k:Nat // k < m }=>#[Value.slice (some (A.add (2 * x.1))) 2 2]) (KpC Bs Bn) (λys=>ys=E7 m m) (λpre=>∃k,k<=m/\pre=E7 k m) m w:=
 λl J Jx W hW hJ hJx hY h0=>by
 have c1:=(hW.cell (p:=⟨Bs,0,none⟩) hls).trans hBs;have c2:=(hW.cell (p:=⟨Bn,0,none⟩) hln).trans hBn;refine(Af6 F n h7 hro hn l Bs Bn m cap oA A hA hcap hm J Jx hY W (λpre W1 h=>hJ pre W1 W1.drew none h ⟨rfl,rfl,rfl,Ao4 _,λ_ _ _=>rfl⟩ (λr e=>by cases e)) c1 c2 h0).mono ?_;rintro e W' ⟨he,⟨ys,rfl,hj⟩ | ⟨pre,hp,hj⟩⟩
 .exact⟨he,.inl ⟨_,rfl,hj⟩⟩
 .exact⟨he,.inr ⟨_,hp,hj⟩⟩
set_option maxHeartbeats 1000000 in
theorem Ajl (F:Fence) (n:Nat) (h5:F.fn 338) (hro:F.round=none) (a:Option Addr) (len cap:Nat) (w:World) :
  CallsIn F n Tryz.prog 338 #[.slice a len cap,.int .i64 2] w λe w'=>e=.returned (.func (.func 363) #[] #[.pointer (some ⟨w.heap.size,0,none⟩),.pointer (some ⟨w.heap.size+1,0,none⟩)])/\
   w'=(w.alloc (.cells #[.slice a len cap] 65)).alloc (.cells #[.int .i64 2] 3):=by
 refine callsIn_of_wp Tryz.func338 rfl h5 ?_ hro;simp only [Tryz.ntmps338,Apn,AoV,Apd,Nat.reduceAdd,Nat.reduceSub,Array.replicate_succ,Array.replicate_zero,List.push_toArray,List.append_toArray,Ao6,Apj]
 gi_wp2
 go_ret
 exact⟨Z,rfl⟩
def TU {m:Nat} (bs:Nat->Int) (x:{ k:Nat // k < m }):List Value:=[.int .i64 (bs (2 * x.1)),.int .i64 (bs (2 * x.1+1))]
def rrF {m:Nat} (bs:Nat->Int) (pre:List { k:Nat // k < m }):List Value:=pre.flatMap (TU bs)
theorem AhT {m:Nat} (bs:Nat->Int) (pre:List { k:Nat // k < m }) (x:{ k:Nat // k < m }):rrF bs (pre++[x])=rrF bs pre++TU bs x:=by simp [rrF]
theorem AjW:(Tryz.prog.info? 181).map (λi=>(i.zero,i.size,i.bytes))=some (some (.agg #[.int .i64 0,.int .i64 0]),2,16):=by kernel_rfl
theorem AmF:Tryz.prog.underlying 35=some (.slice 181):=by kernel_rfl
def rrI {m:Nat} (bs:Nat->Int) (oA:Option Addr) (cap:Nat) (w:World) (pre:List { k:Nat // k < m }) (W:World):Prop:=
 (∃v,Boxed W (w.heap.size+1) 35 v/\W.ownsRow w.heap.size 181 2 v pre.length (rrF bs pre)/\v≠.slice none 0 0)/\
 Boxed W (w.heap.size+2) 65 (.slice oA (2 * m) cap)/\Boxed W (w.heap.size+3) 3 (.int .i64 2)/\Below w.heap.size w W
theorem AkR {m:Nat} (bs:Nat->Int) (oA:Option Addr) (cap:Nat) (w:World) (B:Nat) (hB:w.heap.size<=B):OwnFrom B (rrI (m:=m) bs oA cap w):=by
 rintro pre X Y row ⟨⟨v,hv,hr,hn⟩,h2,h3,hb⟩ hg hrow;have hrow':∀r,row=some r->∃o:Obj,X.heap[r]?=some o/\o.isCells=false:=λr e=>(hrow r e).2
 have hne:∀{B t u},Boxed X B t u->some B≠row:=λhx e'=>by
  obtain ⟨o,ho,hc⟩:=hrow' _ e'.symm;rw [show X.heap[_]?=_ from hx]at ho;cases ho;cases hc
 refine⟨⟨v,hv.kept hg (hne hv),hr.kept hg ?_,hn⟩,h2.kept hg (hne h2),h3.kept hg (hne h3),hb.grown hg hb.size (λk e=>Ao2 hB (hrow k e).1)⟩;rcases hr.2 with⟨rfl,_⟩ | ⟨g,c,cur,rfl,_,hgb,_⟩
 .exact absurd rfl hn
 .refine .inr λe'=>?_
  obtain ⟨o,ho,hc⟩:=hrow' g (by simpa [Value.ownBlock] using e'.symm);rw [hgb]at ho;cases ho;cases hc
theorem AmH {a b:Nat} {A B C:World} (h:KpC a b A B) (k:KpC a b B C):KpC a b A C:=⟨Ao2 h.1 k.1,λv hv=>k.2.1 v (h.2.1 v hv),λv hv=>k.2.2 v (h.2.2 v hv)⟩
theorem Am2 {a b n:Nat} (W:World) (l:Nat) (o o':Obj) (hl:n<=l) (h:W.heap[l]?=some o) (hc:o.isCells=false) (_:o.isWalk=false):KpC a b W (W.putObj l o'):=by
 have hg:=grownBy_putObj' W l o';have hr:∀r,some l=some r->∃o:Obj,W.heap[r]?=some o/\o.isCells=false:=λr e=>by cases e;exact⟨o,h,hc⟩
 exact⟨hg.size,λv hv=>cell_kept hv hg hr,λv hv=>cell_kept hv hg hr⟩
theorem AcU {W:World} {b:Nat} {cs:Array Value} {t:TypeId} {fr:Nat×Nat} (h:W.heap[b]?=some (.cells cs t fr)) (j:Nat):W.cell? ((⟨b,0,none⟩:Addr).add j)=cs[j]?:=by
 have e:(⟨b,0,none⟩:Addr).add j=⟨b,j,none⟩:=by
  unfold Addr.add;split
  .subst_vars;rfl
  .simp
 rw [e];unfold World.cell?;rw [h];rfl
theorem Adf {F:Fence} {n:Nat} {ops:Array Oper} {Q:Exit->Act->World->Prop} {S:World->Prop} {p1 p2:String} {af1 af2:Array Edge} (hdf:OW ops=true)
  (h11:ops[11]?=some ⟨some 25,.call ⟨.builtin .append,#[.tmp 14,.tmp 24],#[35,35]⟩,35,p1,af1,none⟩) (h12:ops[12]?=some ⟨none,.store 35 (.tmp 4) (.tmp 25),0,p2,af2,none⟩)
  (listed:Array Bool) (r1:Region.ready .any ops listed=[11]) (r2:Region.ready .any ops (listed.setIfInBounds 11 true)=[12]) (r3:Region.ready .any ops ((listed.setIfInBounds 11 true).setIfInBounds 12 true)=[])
  (a:Act) (W1 w1:World) (B:Nat) (v sl v':Value) (e14:a.eval (.tmp 14)=v) (e24:a.eval (.tmp 24)=sl) (e4:a.eval (.tmp 4)=.pointer (some ⟨B,0,none⟩)) (hsz:a.tmps.size=30)
  (hrun:(Builtin.append_ #[35,35] 35 #[v,sl]).run Tryz.prog W1=.ok v' w1) (hv1:Boxed w1 B 35 v)
  (hsl:∃o l c,v'=.slice o l c) (hS1:S w1) (hS2:S (w1.setCell ⟨B,0,none⟩ v')) (hQ:∀a',Q .normal a' (w1.setCell ⟨B,0,none⟩ v')) :
  Fh F n Tryz.prog .any ops Q S 2 listed a W1:=by
 refine IdZ r1 Z λi hi=>?_
 rw [AoZ]at hi;subst hi;refine G7 v' h11 (Hb hdf _ _ h11) rfl (by simp [Oper.about,resolve,go_sem]) ?_ ⟨hS1,?_⟩
 .simp only [execOp,resolve,Sem.run_bind,Sem.run_pure,Result.andThen_ok,invoke,builtin,List.map_toArray,Apk,AqC,e14,e24,hrun]
 refine IdZ r2 Z λi hi=>?_
 rw [AoZ]at hi;subst hi;refine AbB h12 (Hb hdf _ _ h12) rfl rfl ?_ ⟨hS2,Y4 r3 (hQ _) _⟩;have hc:=hv1.cell;have hf:=hv1.frozen;have e4':∀v',(a.put (some 25) v').eval (.tmp 4)=.pointer (some ⟨B,0,none⟩):=by intro v';rw [<- e4];exact Act.eval_put (λd hd=>by cases hd;intro h;cases h)
 have e25:∀v',(a.put (some 25) v').eval (.tmp 25)=v':=by intro v';simp [Act.put,Act.eval,hsz]
 simp only [execOp,e4',e25];obtain ⟨_,_,_,rfl⟩:=hsl
 go_simp
set_option maxRecDepth 100000 in
set_option maxHeartbeats 2000000 in
theorem Anb (F:Fence) (n:Nat) (h14:F.fn 291) (h47:F.fn 338) (h86:F.fn 363) (h44:F.fn 339) (hro:F.round=none) (hn:3<=n) (oA:Option Addr) (A:Addr) (m cap:Nat) (hA:0 < m->oA=some A) (hcap:2 * m<=cap) (hm:2 * m<=1048576)
  (bs:Nat->Int) (w:World) (hAb:0 < m->A.block < w.heap.size) (hbs:∀j,j < 2 * m->w.cell? (A.add j)=some (.int .u8 (bs j))/\0<=bs j/\bs j<=255) (ok:Bool)
  (hsr:∀(v:Value) (W:World),W.ownsRow w.heap.size 181 2 v m (rrF bs (E7 m m))->CallsIn F (n - 1) Tryz.prog 339 #[v] W λe W'=>e=.returned (.bool ok)/\Below W.heap.size W W') :
  CallsIn F n Tryz.prog 291 #[.slice oA (2 * m) cap] w λe W'=>((ok=false/\e=.returned (.tuple #[.slice none 0 0,.bool false]))\/(ok=true/\∃v,e=.returned (.tuple #[v,.bool true])/\W'.ownsRow w.heap.size 181 2 v m (rrF bs (E7 m m))))/\Below w.heap.size w W':=by
 have h1:1<=n:=O
 refine callsIn_of_wp_marks Tryz.func291 rfl h14 ?_ hro;simp only [Tryz.ntmps291,Apn,AoV,Apd,Nat.reduceAdd,Nat.reduceSub,Array.replicate_succ,Array.replicate_zero,List.push_toArray,List.append_toArray,Ao6,Apj];have hmod:(((2 * m:Nat):Int)).tmod 2=0:=by rw [Int.tmod_eq_emod_of_nonneg O];omega
 gi_wp2_with (gi_at_call 338;refine(Ajl F (n - 1) h47 hro _ _ _ _).mono ?_;rintro e w' ⟨rfl,rfl⟩)
 have hB1:Boxed ((((w.alloc (.cells #[] 181)).alloc (.cells #[.slice (some ⟨w.heap.size,0,none⟩) 0 0] 35)).alloc (.cells #[.slice oA (2 * m) cap] 65)).alloc (.cells #[.int .i64 2] 3)) (w.heap.size+1) 35 (.slice (some ⟨w.heap.size,0,none⟩) 0 0):=by
  have:=Boxed.new (w.alloc (.cells #[] 181)) 35 (.slice (some ⟨w.heap.size,0,none⟩) 0 0);rw [World.size_alloc]at this;exact(this.alloc _).alloc _
 have hB2:Boxed ((((w.alloc (.cells #[] 181)).alloc (.cells #[.slice (some ⟨w.heap.size,0,none⟩) 0 0] 35)).alloc (.cells #[.slice oA (2 * m) cap] 65)).alloc (.cells #[.int .i64 2] 3)) (w.heap.size+2) 65 (.slice oA (2 * m) cap):=by
  have:=Boxed.new ((w.alloc (.cells #[] 181)).alloc (.cells #[.slice (some ⟨w.heap.size,0,none⟩) 0 0] 35)) 65 (.slice oA (2 * m) cap);rw [World.size_alloc,World.size_alloc]at this;exact this.alloc _
 have hB3:Boxed ((((w.alloc (.cells #[] 181)).alloc (.cells #[.slice (some ⟨w.heap.size,0,none⟩) 0 0] 35)).alloc (.cells #[.slice oA (2 * m) cap] 65)).alloc (.cells #[.int .i64 2] 3)) (w.heap.size+3) 3 (.int .i64 2):=by
  have:=Boxed.new (((w.alloc (.cells #[] 181)).alloc (.cells #[.slice (some ⟨w.heap.size,0,none⟩) 0 0] 35)).alloc (.cells #[.slice oA (2 * m) cap] 65)) 3 (.int .i64 2);rw [World.size_alloc,World.size_alloc,World.size_alloc]at this;exact this
 have hrow0:((((w.alloc (.cells #[] 181)).alloc (.cells #[.slice (some ⟨w.heap.size,0,none⟩) 0 0] 35)).alloc (.cells #[.slice oA (2 * m) cap] 65)).alloc (.cells #[.int .i64 2] 3)).ownsRow w.heap.size 181 2 (.slice (some ⟨w.heap.size,0,none⟩) 0 0) 0 []:=by
  have h0:(w.alloc (.cells #[] 181)).ownsRow w.heap.size 181 2 (.slice (some ⟨w.heap.size,0,none⟩) 0 0) 0 []:=
   ⟨rfl,.inr ⟨w.heap.size,0,#[],rfl,Ao4 _,World.alloc_heap_new w _,Ao4 _,by simp [maxLen],rfl,rfl⟩⟩
  exact((h0.alloc _).alloc _).alloc _
 refine wpIn_rangeFunc_ownF hro h1 (gf:=363) (lb:=#[.pointer (some ⟨w.heap.size+2,0,none⟩),.pointer (some ⟨w.heap.size+3,0,none⟩)]) rfl h86 (enters_of Tryz.func363 (by kernel_rfl) rfl)
  (Acb F (n - 1) h86 hro O (w.heap.size+2) (w.heap.size+3) m cap oA A hA hcap hm _ ?c1 ?c2 Z Z) ?kt ?kb (Below.refl _ _) (λ_=>rfl)
  (rrI bs oA cap w) (λ_ _ _=>False) ?own (λ_ _ _ _ _ hs _ _=>hs) ?Pw
  (λx=>{ tmps:=#[Value.slice oA (2 * m) cap,undef,Value.slice none 0 0,Value.bool false,Value.pointer (some ⟨w.heap.size+1,0,none⟩),Value.slice (some (A.add (2 * x.1))) 2 2,Value.slice oA (2 * m) cap,
     Value.int IntKind.i64 (2 * (m:Int)),Value.int IntKind.i64 0,Value.bool false,Value.slice (some ⟨w.heap.size,0,none⟩) 0 0,Value.slice oA (2 * m) cap,
     Value.func (Fn.func 363) #[] #[Value.pointer (some ⟨w.heap.size+1+1,0,none⟩),Value.pointer (some ⟨w.heap.size+1+1+1,0,none⟩)],
     Value.slice (some (A.add (2 * x.1))) 2 2,undef,undef,undef,undef,undef,undef,undef,undef,undef,undef,undef,undef,undef,undef,undef,undef],defers:=[] }) ?assign ?body ?done ?stop
 case assign=>
  intro l x W K hK
  gi_wp2
  exact hK
 case c1=>exact hB2.cell
 case c2=>exact hB3.cell
 case kt=>exact AmH
 case kb=>exact Am2
 case own=>exact AkR bs oA cap w _ Aoz
 case Pw=>
  refine⟨⟨_,hB1,hrow0,Z⟩,hB2,hB3,?_⟩;exact((((Below.refl _ w).alloc (Ao4 _) _).alloc Z _).alloc Aoz _).alloc Aoz _
 case body=>
  rintro l pre x W ⟨⟨v,hv,hrow,hvn⟩,h2,h3,hB⟩ hlen;have hx:=x.2;have hoA:=hA O;have hAb':=hAb O;obtain ⟨hc0,hl0⟩:=hbs (2 * x.1) O;obtain ⟨hc1,hl1⟩:=hbs (2 * x.1+1) O;have hblk:∀k,(A.add k).block < w.heap.size:=λk=>by
   have:(A.add k).block=A.block:=by unfold Addr.add;split <;> rfl
   rw [this];exact hAb'
  have hd0:W.cell? (A.add (2 * x.1))=some (.int .u8 (bs (2 * x.1))):=(hB.cell (hblk _)).trans hc0;have hd1:W.cell? (A.add (2 * x.1+1))=some (.int .u8 (bs (2 * x.1+1))):=(hB.cell (hblk _)).trans hc1;have hd0':W.drew.cell? (A.add (2 * x.1))=some (.int .u8 (bs (2 * x.1))):=hd0;have hd1':W.drew.cell? (A.add (2 * x.1+1))=some (.int .u8 (bs (2 * x.1+1))):=hd1;have hd2:W.drew.cell? ((A.add (2 * x.1)).add 1)=some (.int .u8 (bs (2 * x.1+1))):=by rw [Addr.add_add];exact hd1'
  have hd3:W.drew.cell? ((A.add (2 * x.1)).add 0)=some (.int .u8 (bs (2 * x.1))):=by rw [Addr.add_add];exact hd0'
  have e4:(A.add (2 * x.1)).add 1 = { block:=(A.add (2 * x.1)).block,off:=(A.add (2 * x.1)).off+1 }:=rfl;have hd4:W.drew.cell? { block:=(A.add (2 * x.1)).block,off:=(A.add (2 * x.1)).off+1 }=some (.int .u8 (bs (2 * x.1+1))):=by rw [<- e4];exact hd2
  have hw0:IntKind.i64.wrap (bs (2 * x.1))=bs (2 * x.1):=by unfold IntKind.wrap;simp [IntKind.bits,IntKind.signed];omega
  have hw1:IntKind.i64.wrap (bs (2 * x.1+1))=bs (2 * x.1+1):=by unfold IntKind.wrap;simp [IntKind.bits,IntKind.signed];omega
  have hvc:=hv.cell;have hvf:=hv.frozen;have hvc':W.drew.cell? ⟨w.heap.size+1,0,none⟩=some v:=hvc;have hmx:Tryz.prog.follows .mixedOrders=true:=by kernel_rfl
  obtain ⟨i0,hi,hz0,hz1,hz2⟩:=info_parts AjW;obtain ⟨v',w1,hrun,hown',hgrow,hnil,_⟩:=run_append_own_at (P:=Tryz.prog) (W.drew.alloc (.cells #[.int .i64 (bs (2 * x.1)),.int .i64 (bs (2 * x.1+1))] 181)) w.heap.size 35 35 181 i0 _ 2 16 AmF hi hz0 hz1 hz2 rfl AoA v pre.length (rrF bs pre)
   (World.ownsRow.alloc (show W.drew.ownsRow w.heap.size 181 2 v pre.length (rrF bs pre) from hrow) _) ⟨W.heap.size,0,none⟩ 1 1 (TU bs x) rfl (by
    intro j u hj;rw [AcU (b:=W.heap.size) (World.alloc_heap_new W.drew (.cells #[.int .i64 (bs (2 * x.1)),.int .i64 (bs (2 * x.1+1))] 181)) j]
    match j,hj with
    | 0,hj=>simpa [TU] using hj
    | 1,hj=>simpa [TU] using hj
    | j+2,hj=>simp [TU]at hj) (by intro u hu;simp [TU]at hu;rcases hu with rfl | rfl <;> rfl)
   (by simp [maxLen];omega) O (by have:=hB.size;simp;exact Ao2 this (Nat.le_succ _))
  have hn₀:w.heap.size<=W.drew.heap.size:=hB.size;have hrow':W.drew.ownsRow w.heap.size 181 2 v pre.length (rrF bs pre):=hrow;obtain ⟨a1,a2,a3,a4,a5⟩:=Boxed.appended (W:=W.drew) (show Boxed W.drew (w.heap.size+1) 35 v from hv) AoA hrow' hn₀ (Nat.le_succ _) hown' hgrow;have hb1:Below w.heap.size W.drew w1:=by
   refine((Below.refl _ W.drew).alloc hn₀ _).grown hgrow (by simp;exact Ao2 hn₀ (Nat.le_succ _)) λj ej=>?_
   rcases hrow'.2 with⟨rfl,_⟩ | ⟨g,c,cur,rfl,hb,_,_⟩
   .simp [Value.ownBlock]at ej
   .have:g=j:=by simpa [Value.ownBlock] using ej
    omega
  have hvs:∃o l c,v'=.slice o l c:=by
   obtain ⟨g,c,rfl⟩:=ownsRow_succ hown';exact⟨_,_,_,rfl⟩
  have kb:∀c t u,c≠w.heap.size+1->t≠181->Boxed W c t u->Boxed (w1.setCell ⟨w.heap.size+1,0,none⟩ v') c t u:=by
   intro c t u hc ht hx;have h1:Boxed w1 c t u:=((show Boxed W.drew c t u from hx).alloc _).kept hgrow (Boxed.not_row (show Boxed W.drew c t u from hx) ht hrow');exact h1.kept (grownBy_setCell' w1 _ v') (by simpa using hc)
  have b2:=kb _ _ _ O AoA h2;have b3:=kb _ _ _ O AoA h3;have hfin:KeepsOthers W (w1.setCell ⟨w.heap.size+1,0,none⟩ v')/\KpC (w.heap.size+2) (w.heap.size+3) W (w1.setCell ⟨w.heap.size+1,0,none⟩ v')/\rrI bs oA cap w (pre++[x]) (w1.setCell ⟨w.heap.size+1,0,none⟩ v'):=by
   refine⟨⟨a4.size,a4.same⟩,⟨a5.size,λu hu=>?_,λu hu=>?_⟩,⟨v',a2,?_,λe=>?_⟩,b2,b3,?_⟩
   .rw [h2.cell]at hu;rw [<- hu];exact b2.cell
   .rw [h3.cell]at hu;rw [<- hu];exact b3.cell
   .rw [AhT,AoM];exact a3
   .exact hvn (hnil.1 e).1
   .exact hB.trans ⟨a5.os,a5.tape,a5.output,a5.size,a5.block⟩
  have e5:((A.add (2 * x.1)).add 1).block < w.heap.size:=by rw [Addr.add_add];exact hblk _
  have s1:w1.cell? (A.add (2 * x.1))=some (.int .u8 (bs (2 * x.1))):=(hb1.cell (hblk _)).trans hd0';have s2:w1.cell? { block:=(A.add (2 * x.1)).block,off:=(A.add (2 * x.1)).off+1 }=some (.int .u8 (bs (2 * x.1+1))):=(hb1.cell (e4 ▸ e5)).trans hd4;have s3:(w1.setCell ⟨w.heap.size+1,0,none⟩ v').cell? (A.add (2 * x.1))=some (.int .u8 (bs (2 * x.1))):=(a5.cell (hblk _)).trans hd0';have s4:(w1.setCell ⟨w.heap.size+1,0,none⟩ v').cell? { block:=(A.add (2 * x.1)).block,off:=(A.add (2 * x.1)).off+1 }=some (.int .u8 (bs (2 * x.1+1))):=(a5.cell (e4 ▸ e5)).trans hd4
  gi_wp2
  refine SU (λw'=>w'.cell? (A.add (2 * x.1))=some (.int .u8 (bs (2 * x.1)))/\w'.cell? { block:=(A.add (2 * x.1)).block,off:=(A.add (2 * x.1)).off+1 }=some (.int .u8 (bs (2 * x.1+1)))) hmx ?_;refine Dd 1 ?_ rfl (by kernel_rfl) (by kernel_rfl) (by kernel_rfl) (by kernel_rfl) (λ_ _ _ h=>h) ⟨.inl ⟨by rfl,λw' hw'=>?_⟩,λ_=>rfl⟩ ⟨hd0',hd4⟩ ?_
  rotate_left
  .obtain ⟨hw1,hw2⟩:=hw'
   go_simp
   with_reducible rfl
  refine Dd 2 ?_ rfl (by kernel_rfl) (by kernel_rfl) (by kernel_rfl) (by kernel_rfl) (λ_ _ _ h=>h) ⟨.inl ⟨by rfl,λw' hw'=>?_⟩,λ_=>rfl⟩ ⟨hd0',hd4⟩ ?_
  rotate_left
  .obtain ⟨hw1,hw2⟩:=hw'
   go_simp
   with_reducible rfl
  refine Dd 3 ?_ rfl (by kernel_rfl) (by kernel_rfl) (by kernel_rfl) (by kernel_rfl) (λ_ _ _ h=>h) ⟨.inl ⟨by rfl,λw' hw'=>?_⟩,λ_=>rfl⟩ ⟨hd0',hd4⟩ ?_
  rotate_left
  .obtain ⟨hw1,hw2⟩:=hw'
   go_simp
   with_reducible rfl
  refine Dd 4 ?_ rfl (by kernel_rfl) (by kernel_rfl) (by kernel_rfl) (by kernel_rfl) (λ_ _ _ h=>h) ⟨.inl ⟨by rfl,λw' hw'=>?_⟩,λ_=>rfl⟩ ⟨hd0',hd4⟩ ?_
  rotate_left
  .obtain ⟨hw1,hw2⟩:=hw'
   go_simp
   with_reducible rfl
  refine Dd 5 ?_ rfl (by kernel_rfl) (by kernel_rfl) (by kernel_rfl) (by kernel_rfl) (λ_ _ _ h=>h) ⟨.inl ⟨by rfl,λw' hw'=>?_⟩,λ_=>rfl⟩ ⟨hd0',hd4⟩ ?_
  rotate_left
  .obtain ⟨hw1,hw2⟩:=hw'
   go_simp
   with_reducible rfl
  refine Dd 6 ?_ rfl (by kernel_rfl) (by kernel_rfl) (by kernel_rfl) (by kernel_rfl) (λ_ _ _ h=>h) ⟨.inl ⟨by rfl,λw' hw'=>?_⟩,λ_=>rfl⟩ ⟨hd0',hd4⟩ ?_
  rotate_left
  .obtain ⟨hw1,hw2⟩:=hw'
   go_simp
   with_reducible rfl
  refine Dd 7 ?_ rfl (by kernel_rfl) (by kernel_rfl) (by kernel_rfl) (by kernel_rfl) (λ_ _ _ h=>h) ⟨.inl ⟨by rfl,λw' hw'=>?_⟩,λ_=>rfl⟩ ⟨hd0',hd4⟩ ?_
  rotate_left
  .obtain ⟨hw1,hw2⟩:=hw'
   go_simp
   with_reducible rfl
  refine Dd 8 ?_ rfl (by kernel_rfl) (by kernel_rfl) (by kernel_rfl) (by kernel_rfl) (λ_ _ _ h=>h) ⟨.inl ⟨by rfl,λw' hw'=>?_⟩,λ_=>rfl⟩ ⟨hd0',hd4⟩ ?_
  rotate_left
  .obtain ⟨hw1,hw2⟩:=hw'
   go_simp
   with_reducible rfl
  refine Dd 9 ?_ rfl (by kernel_rfl) (by kernel_rfl) (by kernel_rfl) (by kernel_rfl) (λ_ _ _ h=>h) ⟨.inl ⟨by rfl,λw' hw'=>?_⟩,λ_=>rfl⟩ ⟨hd0',hd4⟩ ?_
  rotate_left
  .obtain ⟨hw1,hw2⟩:=hw'
   go_simp
   with_reducible rfl
  refine IdZ (rs:=[0,10]) (by kernel_rfl) Z λi hi=>?_
  rcases AoY.1 hi with rfl | hi
  .refine G7 v rfl (λc hc=>by cases hc) rfl rfl ?_ ⟨⟨hd0',hd4⟩,?_⟩
   .go_simp
   refine IdZ (rs:=[10]) (by kernel_rfl) Z λi hi=>?_
   rw [AoZ]at hi;subst hi;refine G7 (w':=W.drew.alloc (.cells #[.int .i64 (bs (2 * x.1)),.int .i64 (bs (2 * x.1+1))] 181)) (.slice (some ⟨W.heap.size,0,none⟩) 1 1) rfl (λc hc=>by cases hc) rfl rfl ?_ ⟨⟨?_,?_⟩,?_⟩
   .go_simp
   .exact(World.cell?_alloc_lt _ _ _ (World.block_lt_of_cell? _ _ hd0')).trans hd0'
   .exact(World.cell?_alloc_lt _ _ _ (World.block_lt_of_cell? _ _ hd4)).trans hd4
   refine Adf (by kernel_rfl) rfl rfl _ (by kernel_rfl) (by kernel_rfl) (by kernel_rfl) _ _ w1 (w.heap.size+1) v _ v' (by kernel_rfl) (by kernel_rfl) (by kernel_rfl) (by kernel_rfl) hrun a1 hvs ⟨s1,s2⟩ ⟨s3,s4⟩ (λ_=>hfin)
  .rw [AoZ]at hi;subst hi;have hvA:(W.alloc (.cells #[.int .i64 (bs (2 * x.1)),.int .i64 (bs (2 * x.1+1))] 181)).cell? ⟨w.heap.size+1,0,none⟩=some v:=(Boxed.alloc hv _).cell;refine G7 (w':=W.drew.alloc (.cells #[.int .i64 (bs (2 * x.1)),.int .i64 (bs (2 * x.1+1))] 181)) (.slice (some ⟨W.heap.size,0,none⟩) 1 1) rfl (λc hc=>by cases hc) rfl rfl ?_ ⟨⟨?_,?_⟩,?_⟩
   .go_simp
   .exact(World.cell?_alloc_lt _ _ _ (World.block_lt_of_cell? _ _ hd0')).trans hd0'
   .exact(World.cell?_alloc_lt _ _ _ (World.block_lt_of_cell? _ _ hd4)).trans hd4
   refine IdZ (rs:=[0]) (by kernel_rfl) Z λi hi=>?_
   rw [AoZ]at hi;subst hi;refine G7 (w':=W.drew.alloc (.cells #[.int .i64 (bs (2 * x.1)),.int .i64 (bs (2 * x.1+1))] 181)) v rfl (λc hc=>by cases hc) rfl rfl ?_ ⟨⟨?_,?_⟩,?_⟩
   .go_simp
   .exact(World.cell?_alloc_lt _ _ _ (World.block_lt_of_cell? _ _ hd0')).trans hd0'
   .exact(World.cell?_alloc_lt _ _ _ (World.block_lt_of_cell? _ _ hd4)).trans hd4
   refine Adf (by kernel_rfl) rfl rfl _ (by kernel_rfl) (by kernel_rfl) (by kernel_rfl) _ _ w1 (w.heap.size+1) v _ v' (by kernel_rfl) (by kernel_rfl) (by kernel_rfl) (by kernel_rfl) hrun a1 hvs ⟨s1,s2⟩ ⟨s3,s4⟩ (λ_=>hfin)
 case stop=>
  intro D c pre W hD _ h;exact h.elim
 case done=>
  rintro D xs W hD rfl ⟨⟨v,hv,hrow,hvn⟩,h2,h3,hB⟩ hWD;rw [Xc (Ao4 m)]at hrow;obtain ⟨o,l,c,rfl⟩:∃o l c,v=.slice o l c:=by
   rcases hrow.2 with⟨rfl,_⟩ | ⟨g,c,cur,rfl,_⟩ <;> exact⟨_,_,_,rfl⟩
  have hvc:=hv.cell;have hvf:=hv.frozen
  gi_wp2_with (gi_at_call 339;refine(hsr _ _ hrow).mono ?_;rintro e W' ⟨rfl,hW'⟩;have hvW:=(hW'.cell (show(⟨w.heap.size+1,0,none⟩:Addr).block < W.heap.size from hv.lt)).trans hvc)
  all_goals
   have hDlt:D < W.heap.size:=(ApS.1 hWD).1;have hWD':W'.heap[D]?=some (.deferred (some [])):=(hW'.block D hDlt).trans hWD;have hDw:w.heap.size<=D:=by simp only [World.size_alloc]at hD;omega
   have hbl:Below w.heap.size w (W'.putObj D (.deferred none)):=(hB.trans (hW'.mono hB.size)).grown (grownBy_putObj' W' D (.deferred none)) (Ao2 hB.size hW'.size) (λr e=>by cases e;exact hDw);have hr':W'.ownsRow w.heap.size 181 2 (.slice o l c) m (rrF bs (E7 m m)):=by
    rcases hrow.2 with⟨e1,e2⟩ | ⟨g,c',cur,e1,e2,e3,e4⟩
    .exact⟨hrow.1,.inl ⟨e1,e2⟩⟩
    .exact⟨hrow.1,.inr ⟨g,c',cur,e1,e2,(hW'.block g (ApS.1 e3).1).trans e3,e4⟩⟩
   refine⟨Z,.inl ⟨_,_,rfl,run_takeDeferred hWD',?_⟩⟩
  .have hok:ok=false:=by rename_i h;simpa using h
   refine⟨.tuple #[.slice none 0 0,.bool false],?_,.inl ⟨hok,rfl⟩,hbl⟩;simp [results,Tryz.f291,go_sem]
  .have hok:ok=true:=by rename_i h;simpa using h
   refine⟨.tuple #[.slice o l c,.bool true],?_,.inr ⟨hok,_,rfl,ownsRow_putObj hr' _ hWD' rfl⟩,hbl⟩;simp [results,Tryz.f291,go_sem]
theorem Amq (F:Fence) (n:Nat) (h14:F.fn 291) (hro:F.round=none) (oA:Option Addr) (len cap:Nat) (w:World) (ho:len % 2≠0) :
  CallsIn F n Tryz.prog 291 #[.slice oA len cap] w λe W'=>e=.returned (.tuple #[.slice none 0 0,.bool false])/\W'=w:=by
 refine callsIn_of_wp Tryz.func291 rfl h14 ?_ hro;simp only [Tryz.ntmps291,Apn,AoV,Apd,Nat.reduceAdd,Nat.reduceSub,Array.replicate_succ,Array.replicate_zero,List.push_toArray,List.append_toArray,Ao6,Apj];have hmod:¬ ((len:Int).tmod 2=0):=by rw [Int.tmod_eq_emod_of_nonneg O];omega
 gi_wp2
 refine⟨rfl,.tuple #[.slice none 0 0,.bool false],?_,rfl,rfl⟩;simp [results,Tryz.f291,go_sem]
open Go.V
theorem XZ {w:World} {K:Nat->Prop}:∀{xs:List Int} {vs:List Value} {F:List Nat},RpL (Rp w K (.int .u8)) xs vs F->vs=xs.map (Value.int .u8)
 | [],_,_,h=>h.1
 | x::xs,_,_,⟨v1,v2,F1,F2,e1,e2,h1,h2⟩=>by
  have h3:=XZ h2;simp only [Rp]at h1;obtain ⟨rfl,rfl⟩:=h1;rw [e1,h3];rfl
theorem PT {w:World} {K:Nat->Prop}:∀(xs:List (Int×Int)),RpL (Rp w K (.pair (.int .i64) (.int .i64))) xs (xs.flatMap λp=>[Value.int .i64 p.1,Value.int .i64 p.2]) []
 | []=>⟨rfl,rfl⟩
 | x::xs=>⟨[.int .i64 x.1,.int .i64 x.2],_,[],[],rfl,rfl,by simp only [Rp];exact⟨[.int .i64 x.1],[.int .i64 x.2],[],[],rfl,rfl,⟨rfl,rfl⟩,rfl,rfl⟩,PT xs⟩
theorem UX:∀(xs:List Int) (m:Nat),xs.length=2 * m->(G.Cf xs).length=m
 | [],m,h=>by simp only [Apd]at h;simp only [G.Cf,Apd];omega
 | [a],m,h=>by simp only [AoV,Apd]at h;omega
 | a::b::xs,0,h=>by simp only [AoV]at h;omega
 | a::b::xs,m+1,h=>by
  simp only [AoV]at h;simp only [G.Cf,AoV,UX xs m O]
theorem Tc:∀(xs:List Int) (m:Nat),xs.length=2 * m->(G.Cf xs).flatMap (λp=>[Value.int .i64 p.1,Value.int .i64 p.2])=(List.range m).flatMap λk=>[Value.int .i64 (xs.getD (2 * k) 0),Value.int .i64 (xs.getD (2 * k+1) 0)]
 | [],m,h=>by
   simp only [Apd]at h;obtain rfl:m=0:=O
   rfl
 | [a],m,h=>by simp only [AoV,Apd]at h;omega
 | a::b::xs,0,h=>by simp only [AoV]at h;omega
 | a::b::xs,m+1,h=>by
  simp only [AoV]at h;rw [List.range_succ_eq_map,Ap9,List.flatMap_map,G.Cf,Ap9,Tc xs m O];rfl
theorem Af7 (bs:Nat->Int) (m:Nat):rrF bs (E7 m m)=(List.range m).flatMap λk=>[Value.int .i64 (bs (2 * k)),Value.int .i64 (bs (2 * k+1))]:=by
 have e:(E7 m m).map (·.1)=List.range m:=by
  unfold E7;rw [List.map_pmap,List.pmap_eq_map,Ao5 Z];simp
 rw [<- e,List.flatMap_map];rfl
theorem Aki {w:World} {K:Nat->Prop} {base:Nat} {v:Value} {m:Nat} {xs:List (Int×Int)} (hl:xs.length=m) (hK:∀g,base<=g->g < w.heap.size->K g)
  (h:w.ownsRow base 181 2 v m (xs.flatMap λp=>[Value.int .i64 p.1,Value.int .i64 p.2])):Rp w K (.sl false 181 (.pair (.int .i64) (.int .i64))) xs [v] []:=by
 rw [Rp];refine⟨rfl,?_⟩;rcases h.2 with⟨rfl,rfl⟩ | ⟨g,cap,cur,rfl,e2,e3,e4,e5,e6,e7⟩
 .obtain rfl:xs=[]:=Ao1 hl;exact⟨none,0,[],rfl,Ao4 _,⟨rfl,rfl⟩,.inl rfl⟩
 .refine⟨some ⟨g,0,none⟩,cap,_,by rw [show List.length xs=m from hl],by rw [show List.length xs=m from hl];exact e4,PT xs,.inr ⟨⟨g,0,none⟩,rfl,hK g e2 (B5 e3),B5 e3,λj hj=>?_⟩⟩;rw [AcU e3,<- e7,List.getElem?_take,AoJ,Ao8];rw [<- e7,AoQ]at hj;omega
theorem AhV {w:World} {base:Nat} {v:Value} {m:Nat} {xs:List (Int×Int)} (hl:xs.length=m)
  (h:w.ownsRow base 181 2 v m (xs.flatMap λp=>[Value.int .i64 p.1,Value.int .i64 p.2]))  :∃F:List Nat,(∀K:Nat->Prop,Rp w K (.sl true 181 (.pair (.int .i64) (.int .i64))) xs [v] F)/\F.Nodup/\∀g∈F,base<=g/\g < w.heap.size:=by
 rcases h.2 with⟨rfl,rfl⟩ | ⟨g,cap,cur,rfl,e2,e3,e4,e5,e6,e7⟩
 .obtain rfl:xs=[]:=Ao1 hl;exact⟨[],λK=>by rw [Rp];exact .inl ⟨rfl,rfl,rfl⟩,Z,Z⟩
 .refine⟨[g],λK=>?_,Z,λx hx=>by rw [AoZ]at hx;subst hx;exact⟨e2,B5 e3⟩⟩;rw [Rp];refine .inr ⟨g,0,cap,cur,(0,0),[],by rw [show List.length xs=m from hl],rfl,e3,NFt.zero _ (λh=>by cases h),?_,by rw [show List.length xs=m from hl];exact e4,?_⟩
  .rw [e6];simp [Ty.size]
  .rw [ApN,show List.length xs=m from hl,show(Ty.pair (.int .i64) (.int .i64)).size=2 from rfl,e7];exact PT xs
theorem rr_known {x0:List Int} {y:List (Int×Int)×Bool} (hsr:∀(xs:List (Int×Int)) (b:Bool),G.JF xs=some b->B6 Tryz.prog 339 [.one ⟨.sl false 181 (.pair (.int .i64) (.int .i64)),xs⟩] [] ⟨[.one ⟨.bool,b⟩],[],[]⟩)
  (h:G.HO x0=some y):B6 Tryz.prog 291 [.one ⟨.sl false 5 (.int .u8),x0⟩] [] ⟨[.one ⟨.sl true 181 (.pair (.int .i64) (.int .i64)),y.1⟩,.one ⟨.bool,y.2⟩],[],[]⟩:=by
 refine⟨⟨Tryz.f291,Tryz.func291,by kernel_rfl,by kernel_rfl⟩,?_⟩;intro w vals Ro ms F1 F2 hF hR hnd hlt _;obtain ⟨u,us,G1,G2,rfl,rfl,h6,rfl,rfl⟩:=hF;obtain rfl:G1=[]:=h6.2 rfl;have h7:=h6.1;rw [Rp]at h7;obtain ⟨_,A,c,ws,hu,hc,hws,hA⟩:=h7;obtain rfl:u=.slice A x0.length c:=by injection hu
 have hwe:=XZ hws;obtain ⟨rfl,rfl⟩:ms=[]/\F2=[]:=by
  cases ms with
  | nil=>exact⟨rfl,hR.2⟩
  | cons g gs=>obtain ⟨_,_,_,_,e,_⟩:=hR;cases e
 have fin:∀{v:Value} {w':World} {xs:List (Int×Int)} {b:Bool} (F:List Nat),Rp w' (λg=>(Ro g\/w.heap.size<=g\/g∈[])/\g∉[]++(F++([]++[]))) (.sl true 181 (.pair (.int .i64) (.int .i64))) xs [v] F->F.Nodup->
   (∀g∈F,w.heap.size<=g/\g < w'.heap.size)->Below w.heap.size w w'->IY w Ro [] [] [.slice A x0.length c] ⟨[.one ⟨.sl true 181 (.pair (.int .i64) (.int .i64)),xs⟩,.one ⟨.bool,b⟩],[],[]⟩ (.tuple #[v,.bool b]) w':=by
  intro v w' xs b F h1 h2 h3 h4;refine⟨[v,.bool b],F,[],[],rfl,⟨v,[.bool b],F,[],rfl,Z,⟨h1,λe=>by cases e⟩,.bool b,[],[],[],rfl,rfl,⟨by rw [Rp];exact⟨rfl,rfl⟩,λ_=>rfl⟩,rfl,rfl⟩,⟨rfl,rfl⟩,rfl,by simpa using h2,?_,⟨h4.os,h4.tape,h4.output,h4.size,λg hg _=>h4.block g hg⟩,RestOk.nil⟩;intro g hg;have hg':g∈F:=by simpa using hg
  exact⟨(h3 g hg').2,.inr (h3 g hg').1⟩
 have nilR:∀(w':World) (K:Nat->Prop),Rp w' K (.sl true 181 (.pair (.int .i64) (.int .i64))) [] [.slice none 0 0] []:=λw' K=>by rw [Rp];exact .inl ⟨rfl,rfl,rfl⟩
 unfold G.HO at h;split at h
 .rename_i hb;obtain ⟨hb1,hb2⟩:=hb;split at h
  .rename_i he;simp only [AoG]at h;obtain ⟨ok,hok,h⟩:=h;obtain ⟨m,hm⟩:∃m,x0.length=2 * m:=⟨x0.length / 2,O⟩
   have hpl:=UX x0 m hm;have hpf:=Tc x0 m hm;have huf:=Af7 (λj=>x0.getD j 0) m;have hcell:∀ad,A=some ad->0 < m->ad.block < w.heap.size/\∀j,j < 2 * m->w.cell? (ad.add j)=some (.int .u8 (x0.getD j 0)):=by
    intro ad hA0 hm0;rcases hA with rfl | ⟨ad',e1,e2,e3,e4⟩
    .simp only [Apd]at hm;omega
    .obtain rfl:ad'=ad:=by rw [e1]at hA0;injection hA0
     refine⟨e3,λj hj=>?_⟩;have hj':j < x0.length:=by rw [hm];exact hj
     have hwl:ws.length=x0.length:=by rw [hwe];exact Ao9 _
     rw [e4 j (by rw [hwl];exact hj'),hwe,Apl,ApG,AoF hj'];rfl
   obtain ⟨ad,had⟩:∃ad:Addr,0 < m->A=some ad:=by
    cases A with
    | some a=>exact⟨a,λ_=>rfl⟩
    | none=>
     refine⟨⟨0,0,none⟩,λh0=>?_⟩;rcases hA with rfl | ⟨ad',e1,_⟩
     .simp only [Apd]at hm;omega
     .cases e1
   have hin:=Anb Fence.wide 3 trivial trivial trivial trivial rfl (Ao4 3) A ad m c had (by rw [<- hm];exact hc) O (λj=>x0.getD j 0) w (λh0=>(hcell ad (had h0) h0).1)
    (λj hj=>by
     have hj':j < x0.length:=O
     refine⟨(hcell ad (had O) O).2 j hj,?_⟩;show 0<=x0.getD j 0/\x0.getD j 0<=255;rw [ApG,AoF hj'];exact hb2 _ (AoR hj')) ok
    (λv W hown=>by
     rw [huf,<- hpf]at hown;refine callsIn_wide.2 (Calls.mono ((hsr _ _ hok).2 W [v] (λ_=>True) [] [] [] ⟨v,[],[],[],rfl,rfl,⟨Aki hpl (λ_ _ _=>trivial) hown,λ_=>rfl⟩,rfl,rfl⟩ ⟨rfl,rfl⟩ Z (λg hg=>by simp at hg) ⟨AaF W,λ_ _=>trivial⟩) ?_);rintro e w' ⟨v',rfl,vs,F1,F2,F3,rfl,h1,_,_,_,_,h5,_⟩;obtain ⟨u,us,G1,G2,rfl,_,h6,h7⟩:=h1;obtain ⟨rfl,_⟩:=h7;have hu:u=.bool ok:=by
      have:=h6.1;rw [Rp]at this;have h8:=this.1;injection h8
     subst hu;exact⟨rfl,h5.os,h5.tape,h5.output,h5.size,λk hk=>h5.same k hk Z⟩)
   rw [hm];refine Calls.mono (callsIn_wide.1 hin) ?_;rintro e w' ⟨h1 | ⟨h1,v,rfl,h2⟩,hbel⟩
   .obtain ⟨rfl,rfl⟩:=h1;simp only [AoO,Apa,AoD]at h;subst h;exact⟨_,rfl,by rw [<- hm];exact fin [] (nilR _ _) Z Z hbel⟩
   .subst h1;simp only [AoU,AoD]at h;subst h;rw [huf,<- hpf]at h2;obtain ⟨F,f1,f2,f3⟩:=AhV hpl h2;exact⟨_,rfl,by rw [<- hm];exact fin F (f1 _) f2 f3 hbel⟩
  .rename_i ho;simp only [AoD]at h;subst h;refine Calls.mono (callsIn_wide.1 (Amq Fence.wide 3 trivial rfl A x0.length c w ho)) ?_;rintro e w' ⟨rfl,rfl⟩;exact⟨_,rfl,fin [] (nilR _ _) Z Z (Below.refl _ _)⟩
 .cases h
end Go.Proofs