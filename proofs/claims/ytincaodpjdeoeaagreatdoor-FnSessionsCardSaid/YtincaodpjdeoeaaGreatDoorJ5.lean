/-
  A part of the proof of FnSessions (texts of one proof, joined).
-/
import Derived.Test.YtincaodpjdeoeaaGreatDoorJ4
import Derived.Test.YtincaodpjdeoeaaGreatDoorChecked
import Derived.WideKeyEntry
namespace Go.Proofs.YtincaodpjdeoeaaGreatDoor
set_option linter.all false
set_option maxRecDepth 100000
set_option maxHeartbeats 16000000
section
open Go.RowKit
theorem keep5D {B : Nat} {A W W' : World} {a0 a1 a2 a3 a4 : Addr} {x0 x1 x2 x3 x4 : Value} (hB : B≤A.heap.size) (hb : Below W.heap.size W W')
 (h : (W.cell? a0=some x0∧W.cell? a1=some x1∧W.cell? a2=some x2∧W.cell? a3=some x3∧W.cell? a4=some x4)∧Below B A W) :
 (W'.cell? a0=some x0∧W'.cell? a1=some x1∧W'.cell? a2=some x2∧W'.cell? a3=some x3∧W'.cell? a4=some x4)∧Below B A W' :=
 ⟨⟨cell_below hb h.1.1,cell_below hb h.1.2.1,cell_below hb h.1.2.2.1,cell_below hb h.1.2.2.2.1,cell_below hb h.1.2.2.2.2⟩,h.2.trans (hb.mono (Nat.le_trans hB h.2.size))⟩
theorem keep5A {B : Nat} {A W : World} {o o' : Obj} {b : Nat} {x0 x1 x2 x3 x4 : Value} (hB : B≤W.heap.size) (hb : b < W.heap.size)
 (h : ((W.alloc o).cell? ⟨b,0,none⟩=some x0∧(W.alloc o).cell? ⟨b,1,none⟩=some x1∧(W.alloc o).cell? ⟨b,2,none⟩=some x2∧(W.alloc o).cell? ⟨b,3,none⟩=some x3∧(W.alloc o).cell? ⟨b,4,none⟩=some x4)∧Below B A (W.alloc o)) :
 ((W.alloc o').cell? ⟨b,0,none⟩=some x0∧(W.alloc o').cell? ⟨b,1,none⟩=some x1∧(W.alloc o').cell? ⟨b,2,none⟩=some x2∧(W.alloc o').cell? ⟨b,3,none⟩=some x3∧(W.alloc o').cell? ⟨b,4,none⟩=some x4)∧Below B A (W.alloc o'):=by
 have hc : ∀ j v,(W.alloc o).cell? ⟨b,j,none⟩=some v→(W.alloc o').cell? ⟨b,j,none⟩=some v:=fun j v hv=>by
  rw [World.cell?_alloc_old _ _ _ (Nat.ne_of_lt hb)] at hv ⊢
  exact hv
 refine ⟨⟨hc _ _ h.1.1,hc _ _ h.1.2.1,hc _ _ h.1.2.2.1,hc _ _ h.1.2.2.2.1,hc _ _ h.1.2.2.2.2⟩,?_⟩
 obtain ⟨e1,e2,e3,e4,e5⟩:=h.2
 refine ⟨e1,e2,e3,by rw [size_alloc] at e4 ⊢;exact e4,fun k hk=> ?_⟩
 rw [heap_alloc_low _ _ (by omega),← e5 k hk,heap_alloc_low _ _ (by omega)]
theorem keep5C {B : Nat} {A W : World} {b c j : Nat} {v : Value} {x0 x1 x2 x3 x4 : Value} (hB : B≤c) (hb : b ≠ c)
 (h : (W.cell? ⟨b,0,none⟩=some x0∧W.cell? ⟨b,1,none⟩=some x1∧W.cell? ⟨b,2,none⟩=some x2∧W.cell? ⟨b,3,none⟩=some x3∧W.cell? ⟨b,4,none⟩=some x4)∧Below B A W) :
 ((W.setCell ⟨c,j,none⟩ v).cell? ⟨b,0,none⟩=some x0∧(W.setCell ⟨c,j,none⟩ v).cell? ⟨b,1,none⟩=some x1∧(W.setCell ⟨c,j,none⟩ v).cell? ⟨b,2,none⟩=some x2∧(W.setCell ⟨c,j,none⟩ v).cell? ⟨b,3,none⟩=some x3∧(W.setCell ⟨c,j,none⟩ v).cell? ⟨b,4,none⟩=some x4)∧Below B A (W.setCell ⟨c,j,none⟩ v):=by
 have hc : ∀ i u,W.cell? ⟨b,i,none⟩=some u→(W.setCell ⟨c,j,none⟩ v).cell? ⟨b,i,none⟩=some u:=fun i u hu=>by
  have hlt:=World.block_lt_of_cell? _ _ hu
  have hh:=Below.heap_setCell W ⟨c,j,none⟩ v b hb
  unfold World.cell? at hu ⊢
  rw [hh]
  exact hu
 exact ⟨⟨hc _ _ h.1.1,hc _ _ h.1.2.1,hc _ _ h.1.2.2.1,hc _ _ h.1.2.2.2.1,hc _ _ h.1.2.2.2.2⟩,h.2.setCell (by exact hB) v⟩
def IsO (w : World) (v : Value) (xs : List Int) : Prop:=∃ lo hi,OwnI 3 w lo hi v xs
theorem IsO.mk {w : World} {lo hi : Nat} {v : Value} {xs : List Int} (h : OwnI 3 w lo hi v xs) : IsO w v xs:=⟨_,_,h⟩
theorem IsO.ints {w : World} {v : Value} {xs : List Int} (h : IsO w v xs) : Ints w v xs:=by
 obtain ⟨_,_,h⟩:=h
 exact OwnI.ints h
theorem IsO.t {w : World} {v : Value} {xs : List Int} (h : IsO w v xs) : IntsT w v xs:=by
 obtain ⟨_,_,h⟩:=h
 exact IntsT.of_own h
theorem IsO.below {w w' : World} {v : Value} {xs : List Int} (h : IsO w v xs) (hb : Below w.heap.size w w') : IsO w' v xs:=by
 obtain ⟨_,_,h⟩:=h
 exact ⟨_,_,Own.below h hb⟩
theorem IsO.grown {w w' : World} {v : Value} {xs : List Int} {ob : Option Nat} (h : IsO w v xs) (hg : w.grownBy w' ob) (ho : ∀ k,ob=some k → ∃ c fz T,w.heap[k]?=some (.cells c T fz)∧T ≠ 3) : IsO w' v xs:=by
 obtain ⟨_,_,h⟩:=h
 refine ⟨_,_,⟨ownsRow_of_block h.1 fun k hk=>hg.block k (Own.block h hk).2.2 fun e=> ?_,h.2⟩⟩
 obtain ⟨c,fz,T,e1,e2⟩:=ho k e.symm
 exact ne_of_kinds ⟨c,fz,e1⟩ (OwnI.kind h k hk) e2
theorem IsO.setOther {w : World} {v : Value} {xs : List Int} {a : Addr} (h : IsO w v xs) {c : Array Value} {T : TypeId} (hb : w.heap[a.block]?=some (.cells c T (0,0))) (hT : T ≠ 3) (u : Value) : IsO (w.setCell a u) v xs:=by
 obtain ⟨_,_,h⟩:=h
 exact ⟨_,_,OwnI.setOther h (fun e=>ne_of_kinds ⟨_,_,hb⟩ (OwnI.kind h _ e) hT) u⟩
theorem ints_box5 {w : World} {b : Nat} {v : Value} {xs : List Int} {c : Array Value} (h : IsO w v xs) (hb : w.heap[b]?=some (.cells c 61 (0,0))) (v0 v1 v2 v3 v4 : Value) :
 IsO (((((w.setCell ⟨b,0,none⟩ v0).setCell ⟨b,1,none⟩ v1).setCell ⟨b,2,none⟩ v2).setCell ⟨b,3,none⟩ v3).setCell ⟨b,4,none⟩ v4) v xs:=by
 have b0:=heap_setCell_at hb 0 v0
 have b1:=heap_setCell_at b0 1 v1
 have b2:=heap_setCell_at b1 2 v2
 have b3:=heap_setCell_at b2 3 v3
 exact ((((IsO.setOther (a:=⟨b,0,none⟩) h hb (by decide) v0).setOther (a:=⟨b,1,none⟩) b0 (by decide) v1).setOther (a:=⟨b,2,none⟩) b1 (by decide) v2).setOther (a:=⟨b,3,none⟩) b2 (by decide) v3).setOther (a:=⟨b,4,none⟩) b3 (by decide) v4
theorem heap_box5 {w : World} {b j : Nat} (h : j ≠ b) (v0 v1 v2 v3 v4 : Value) :
 (((((w.setCell ⟨b,0,none⟩ v0).setCell ⟨b,1,none⟩ v1).setCell ⟨b,2,none⟩ v2).setCell ⟨b,3,none⟩ v3).setCell ⟨b,4,none⟩ v4).heap[j]?=w.heap[j]?:=by
 rw [Below.heap_setCell _ _ _ _ h,Below.heap_setCell _ _ _ _ h,Below.heap_setCell _ _ _ _ h,Below.heap_setCell _ _ _ _ h,Below.heap_setCell _ _ _ _ h]
theorem grown_below {w w1 w2 : World} {b : Nat} (h : w.grownBy w1 (some b)) (h2 : Below w1.heap.size w1 w2) : w.grownBy w2 (some b):=by
 obtain ⟨a1,a2,a3,a4,a5⟩:=h
 obtain ⟨b1,b2,b3,b4,b5⟩:=h2
 exact ⟨b1.trans a1,b2.trans a2,b3.trans a3,Nat.le_trans a4 b4,fun k hk hne=>(b5 k (Nat.lt_of_lt_of_le hk a4)).trans (a5 k hk hne)⟩
theorem gb_setCellS (w : World) (b j : Nat) (u : Value) : w.grownBy (w.setCell ⟨b,j,none⟩ u) (some b) :=
 ⟨rfl,rfl,rfl,by rw [size_setCell];exact Nat.le_refl _,fun k _ hk=>Below.heap_setCell _ _ _ _ (fun e=>hk (by rw [e]))⟩
theorem grown_thenC {w w1 w2 : World} {ob : Option Nat} {b : Nat} (h : w.grownBy w1 (some b)) (h2 : w1.grownBy w2 ob) (ho : ∀ k,ob=some k→w.heap.size≤k ∨ k=b) : w.grownBy w2 (some b):=by
 obtain ⟨a1,a2,a3,a4,a5⟩:=h
 obtain ⟨b1,b2,b3,b4,b5⟩:=h2
 exact ⟨b1.trans a1,b2.trans a2,b3.trans a3,Nat.le_trans a4 b4,fun k hk hne=>(b5 k (Nat.lt_of_lt_of_le hk a4) fun e=>by
  rcases ho k e.symm with h | h
  ·omega
  ·exact hne (by rw [h])).trans (a5 k hk hne)⟩
theorem copySession_any (v : Value) (xs ys : List Int) (cs : List Cls) (K N : Int) (w : World) (h : SesR w v xs cs ys K N) (hl : cs.length≤100) (hx : xs.length≤1000) (hy : ys.length≤1000) (hp : ∀ i,i < cs.length→(cs.getD i clD).1.length≤1000) :
 Calls Tryz.prog 54 #[v] w fun e w'=> ∃ u,e=.returned u∧SesT w' u xs cs ys K N∧Below w.heap.size w w':=by
 obtain ⟨dp,dc,ds,rfl,h1,h2,h3⟩:=h.ex
 obtain ⟨pp,pk,ep,_,_⟩:=id h1
 obtain ⟨sp,sk,es,_,_⟩:=id h3
 obtain ⟨f,hs1,hf⟩:=id h2
 obtain ⟨cp,ck,ec,⟨hx1,hx2⟩,hxc⟩:=hs1.two
 unfold maxLen at hx2
 rw [ep] at h1 ⊢
 rw [es] at h3 ⊢
 rw [ec] at h2 ⊢
 have HP:=Lib.hid (fun W (hb : Below w.heap.size w W)=>clone_any _ xs W (h1.below hb) (by omega))
 have HS:=Lib.hid (fun W (hb : Below w.heap.size w W)=>clone_any _ ys W (h3.below hb) (by omega))
 have Hf:=Lib.hid hf
 have Hxc:=Lib.hid hxc
 have Hpl:=Lib.hid hp
 clear h h1 h2 h3 ep es ec hf hs1 hxc hp
 go_enter Tryz.func54,Tryz.ntmps54
 go_wp2_with fail
 obtain ⟨W0,hW0⟩ : ∃ W0,W0=((w.alloc (.cells #[.slice pp xs.length pk,.slice cp cs.length ck,.slice sp ys.length sk,.int .i64 K,.int .i64 N] 61)).alloc (.cells #[.slice none 0 0,.slice none 0 0,.slice none 0 0,.int .i64 0,.int .i64 0] 61)):=⟨_,rfl⟩
 have Hb0:=Lib.hid (show Below w.heap.size w W0 by rw [hW0];exact (below_alloc w _).trans ((below_alloc _ _).mono (by rw [size_alloc];omega)))
 have hz0 : W0.heap.size=w.heap.size+2:=by rw [hW0,size_alloc,size_alloc]
 have z0 : W0.heap[w.heap.size]?=some (.cells #[.slice pp xs.length pk,.slice cp cs.length ck,.slice sp ys.length sk,.int .i64 K,.int .i64 N] 61 (0,0)):=by
  rw [hW0,heap_alloc_low _ _ (by rw [size_alloc];omega)];exact heap_alloc_top w _
 have z1 : W0.heap[w.heap.size+1]?=some (.cells #[.slice none 0 0,.slice none 0 0,.slice none 0 0,.int .i64 0,.int .i64 0] 61 (0,0)):=by
  have:=heap_alloc_top (w.alloc (.cells #[.slice pp xs.length pk,.slice cp cs.length ck,.slice sp ys.length sk,.int .i64 K,.int .i64 N] 61)) (.cells #[.slice none 0 0,.slice none 0 0,.slice none 0 0,.int .i64 0,.int .i64 0] 61)
  rw [size_alloc] at this
  rw [hW0];exact this
 rw [← hW0]
 have Z0:=Lib.hid z0
 have Z1:=Lib.hid z1
 obtain ⟨c0,c1,c2,c3,c4,_,_⟩:=blk5s z0
 have Hz0:=Lib.hid hz0
 clear hW0 z0 z1 hz0
 have hS0 : (W0.drew.cell? ⟨w.heap.size,0,none⟩=some (.slice pp xs.length pk)∧W0.drew.cell? ⟨w.heap.size,1,none⟩=some (.slice cp cs.length ck)∧W0.drew.cell? ⟨w.heap.size,2,none⟩=some (.slice sp ys.length sk)∧W0.drew.cell? ⟨w.heap.size,3,none⟩=some (.int .i64 K)∧W0.drew.cell? ⟨w.heap.size,4,none⟩=some (.int .i64 N))∧Below W0.heap.size W0 W0.drew:=⟨⟨c0,c1,c2,c3,c4⟩,(Below.refl _ _).drew⟩
 have hSA : ∀ o : Obj,((W0.alloc o).drew.cell? ⟨w.heap.size,0,none⟩=some (.slice pp xs.length pk)∧(W0.alloc o).drew.cell? ⟨w.heap.size,1,none⟩=some (.slice cp cs.length ck)∧(W0.alloc o).drew.cell? ⟨w.heap.size,2,none⟩=some (.slice sp ys.length sk)∧(W0.alloc o).drew.cell? ⟨w.heap.size,3,none⟩=some (.int .i64 K)∧(W0.alloc o).drew.cell? ⟨w.heap.size,4,none⟩=some (.int .i64 N))∧Below W0.heap.size W0 (W0.alloc o).drew:=fun o=>keep5D (Nat.le_refl _) (below_alloc W0 o).drew ⟨⟨c0,c1,c2,c3,c4⟩,Below.refl _ _⟩
 have HSA:=Lib.hid hSA
 clear hSA
 refine Code.wp_mono (Q:=fun e a W=>e=.normal ∧ ∃ (bK : Nat) (qp qs : Option Addr) (qk ql : Nat),a=⟨#[.agg #[.slice pp xs.length pk,.slice cp cs.length ck,.slice sp ys.length sk,.int .i64 K,.int .i64 N],.pointer (some ⟨w.heap.size,0,none⟩),.pointer (some ⟨w.heap.size+1,0,none⟩),.pointer (some ⟨bK,0,none⟩),undef,undef,.pointer (some ⟨w.heap.size,0,none⟩),.slice pp xs.length pk,.slice qp xs.length qk,.pointer (some ⟨w.heap.size,2,none⟩),.slice sp ys.length sk,.slice qs ys.length ql,.pointer (some ⟨w.heap.size,3,none⟩),.int .i64 K,.pointer (some ⟨w.heap.size,4,none⟩),.int .i64 N,.agg #[.slice qp xs.length qk,.slice none 0 0,.slice qs ys.length ql,.int .i64 K,.int .i64 N],undef,undef,undef,undef,undef,undef,undef,undef,undef,undef,undef,undef,undef,undef,undef,undef,undef,undef,undef,undef],[]⟩∧W.heap[bK]?=some (.cells #[.slice qp xs.length qk,.slice none 0 0,.slice qs ys.length ql,.int .i64 K,.int .i64 N] 61 (0,0))∧IsO W (.slice qp xs.length qk) xs∧IsO W (.slice qs ys.length ql) ys∧Below W0.heap.size W0 W∧W0.heap.size≤bK) ?_ ?_
 case refine_1 =>
  rintro e a W ⟨rfl,bK,qp,qs,qk,ql,rfl,hz,hI1,hI3,hbW,hbK⟩
  have HI1:=Lib.hid hI1
  have HI3:=Lib.hid hI3
  have HZ:=Lib.hid hz
  have HbW:=Lib.hid hbW
  have c1':=cell_below hbW c1
  obtain ⟨d0,d1,d2,d3,d4,df,dz⟩:=blk5s hz
  clear hz hI1 hI3 hbW c0 c1 c2 c3 c4 hS0
  have HbB:=Lib.hid (Hb0.out.trans (HbW.out.mono Hb0.out.size))
  have hz0:=Hz0.out
  have hsW:=HbW.out.size
  go_wp2_with fail
  go_loopg [5,20] cs.length (fun g s5 s20 wr=> ∃ (k : Nat) (uc : Value),k≤cs.length∧g=cs.length - k∧s20=.int .i64 (k : Int)∧Hid (wr.heap[bK]?=some (.cells #[.slice qp xs.length qk,uc,.slice qs ys.length ql,.int .i64 K,.int .i64 N] 61 (0,0)))∧Hid (IsO wr (.slice qp xs.length qk) xs)∧Hid (IsO wr (.slice qs ys.length ql) ys)∧Hid (OwnCd wr W.heap.size wr.heap.size uc (cs.take k))∧Hid (W.grownBy wr (some bK))∧W.heap.size≤wr.heap.size)
  case atStart=>exact ⟨0,_,Nat.zero_le _,rfl,rfl,HZ.out,HI1.out,HI3.out,OwnCd.nil _ _ _,⟨rfl,rfl,rfl,Nat.le_refl _,fun _ _ _=>rfl⟩,Nat.le_refl _⟩
  case round =>
   obtain ⟨k,uc,hk,rfl,rfl,hz,h1,h3,hO,hg,hsz⟩:=hrel
   obtain ⟨wo,rfl⟩ : ∃ x : World,x=wr:=⟨_,rfl⟩
   have HZ:=Lib.hid hz.out
   have H1:=Lib.hid h1.out
   have H3:=Lib.hid h3.out
   have HO:=Lib.hid hO.out
   have HG:=Lib.hid hg.out
   have HB:=Lib.hid (HbB.out.trans ((Below.refl w.heap.size W).grown hg.out (by omega) (fun j hj=>by cases hj;omega)))
   obtain ⟨d0,d1,d2,d3,d4,df,dz⟩:=blk5s hz.out
   clear hz h1 h3 hO hg
   obtain ⟨pu,ku,eu,_,_⟩:=HO.out.shape
   subst eu
   have htl : (cs.take k).length=k:=by rw [List.length_take];omega
   rw [htl] at HZ d1 HO
   by_cases hlt : k < cs.length
   ·obtain ⟨b,rfl,hc⟩:=Hxc.out (by omega)
    obtain ⟨a0,a1⟩:=hc k hlt
    have e0:=cell_below HB.out a0
    have e1:=cell_below HB.out a1
    have hI:=Hf.out k hlt
    have hpl:=Hpl.out k hlt
    obtain ⟨X,hX⟩ : ∃ X,X=cs.getD k clD:=⟨_,rfl⟩
    rw [← hX] at e1 hI hpl
    have HX:=Lib.hid hX
    obtain ⟨zs,c⟩:=X
    dsimp only at e1 hI hpl
    obtain ⟨p1,k1,ez,_,_⟩:=id hI
    rw [ez] at e0 hI
    have HCl:=Lib.hid (fun W' (hb : Below w.heap.size w W')=>clone_any _ zs W' (hI.below hb) (by omega))
    have hkz : (k : Int) < (cs.length : Int):=by omega
    clear hc a0 a1 hX ez hI
    obtain ⟨fd,g1,g2,g3⟩:=HO.out
    rw [htl] at g1
    have G1:=Lib.hid g1
    have G2:=Lib.hid g2
    have G3:=Lib.hid g3
    have Htl:=Lib.hid htl
    have hba:=below_alloc wo (.cells #[.slice p1 zs.length k1,.int .i64 c] 42)
    have zb:=heap_alloc_top wo (.cells #[.slice p1 zs.length k1,.int .i64 c] 42)
    have Hn1:=Lib.hid (show k+1≤maxLen by unfold maxLen;omega)
    have Hn2:=Lib.hid (show (k+1) * 32≤140737488355328 by omega)
    clear g1 g2 g3 htl
    go_wp2_with fail
    generalize hwb : wo.alloc (.cells #[.slice p1 zs.length k1,.int .i64 c] 42)=wb at *
    have hsb : wb.heap.size=wo.heap.size+1:=by rw [← hwb,size_alloc]
    clear hwb
    have zK:=blk_later HZ.out hba
    obtain ⟨d0,d1,d2,d3,d4,df,dz⟩:=blk5s zK
    obtain ⟨m0,m1,mf,mz⟩:=blk2 zb
    have HBb:=Lib.hid (HB.out.trans (hba.mono HB.out.size))
    have HbA:=Lib.hid hba
    have HZb:=Lib.hid zK
    clear zb hba zK
    go_region_law (first
     | (refine step_append_S rfl (.tmp 25) (.tmp 32) 37 rfl 42 _ 2 32 Tryz.underlying37 info_cls rfl (by omega) W.heap.size wo.heap.size _ k (clF (cs.take k) fd) rfl (G1.out.below (HbA.out.trans ((Hbc.out.trans ((below_alloc wc _).mono Hbc.out.size)).mono HbA.out.size))) (by rw [size_alloc];have:=Hbc.out.size;omega) _ _ (fun j=>match j with | 0=>.slice pr zs.length kr | _=>.int .i64 c) rfl (fun j hj=>match j,hj with | 0,_=>cell_of_blk (heap_alloc_top wc _) (j:=0) rfl | 1,_=>cell_of_blk (heap_alloc_top wc _) (j:=1) rfl) (fun j hj=>match j,hj with | 0,_=>rfl | 1,_=>rfl) Hn1.out Hn2.out ?_;intro v' w' hv hg;have zKw:=(hg.block bK (by rw [size_alloc];have:=Hbc.out.size;omega) (fun e=>by have:=G1.out.blocks bK e.symm;omega)).trans (blk_later HZc.out (below_alloc wc _));obtain ⟨n0,n1,n2,n3,n4,nf,nz⟩:=blk5s zKw;have HzK:=Lib.hid zKw;have Hv:=Lib.hid hv;have Hg:=Lib.hid hg;obtain ⟨pv,lv,kv',rfl⟩ : ∃ p l k,v'=.slice p l k:=(by obtain ⟨p,k,e,_⟩:=hv.shape;exact ⟨_,_,_,e⟩);clear zKw hv hg)
     | (refine (if_pos ?_).mpr ?_;rfl;go_simp;refine (HCl.out _ (HBb.out.trans (((Below.refl _ _).drew : Below wb.heap.size wb wb.drew).mono HBb.out.size))).mono ?_;rintro e wc ⟨ur,rfl,hor,hbc⟩;have Hbc:=Lib.hid (show Below wb.heap.size wb wc from (Below.refl _ _).drew.trans hbc);obtain ⟨pr,kr,rfl,_,_⟩:=hor.shape;have Hor:=Lib.hid hor;have HZc:=Lib.hid (blk_later HZb.out Hbc.out);obtain ⟨n0,n1,n2,n3,n4,nf,nz⟩:=blk5s HZc.out;have y0:=cell_below Hbc.out m0;have y1:=cell_below Hbc.out m1;clear hor hbc;dsimp only))
    all_goals go_wp2_with fail
    all_goals go_roundg (cs.length - (k+1))
    all_goals try omega
    all_goals
     have hal:=below_alloc wc (.cells #[.slice pr zs.length kr,.int .i64 c] 42)
     have hA:=HbA.out.trans ((Hbc.out.trans (hal.mono Hbc.out.size)).mono HbA.out.size)
     have hk1 : ∀ j,Value.ownBlock (.slice pu k ku)=some j → ∃ (cc : Array Value) (fz : Nat × Nat) (T : TypeId),(wc.alloc (.cells #[.slice pr zs.length kr,.int .i64 c] 42)).heap[j]?=some (.cells cc T fz)∧T ≠ 3:=fun j hj=>by
      obtain ⟨cc,fz,e⟩:=(G1.out.below hA).kind j hj
      exact ⟨cc,fz,_,e,by decide⟩
     have hs1:=Hbc.out.size
     have hs2:=Hg.out.size
     rw [size_alloc] at hs2
     have hO:=OwnCd.snoc (m:=(zs,c)) (mid:=wb.heap.size) (hi:=wc.heap.size) (by rw [Htl.out];exact (G1.out.below hA).mono (Nat.le_refl _) (by omega)) (fun i hi=>(Own.below (G2.out i hi) hA).mono (Nat.le_refl _) (by omega)) G3.out (Own.below Hor.out hal) (by omega) hs1 Hg.out (by omega) (by rw [Htl.out];exact Hv.out)
     have etk : cs.take (k+1)=cs.take k ++ [(zs,c)]:=by
      rw [HX.out,List.take_succ]
      congr 1
      simp [List.getD_eq_getElem?_getD,hlt]
     refine ⟨k+1,_,by omega,rfl,by go_num,heap_setCell_at HzK.out 1 _,((H1.out.below hA).grown Hg.out hk1).setOther HzK.out (by decide) _,((H3.out.below hA).grown Hg.out hk1).setOther HzK.out (by decide) _,?_,grown_thenC (grown_thenC (grown_below HG.out hA) Hg.out (fun j hj=>.inl (G1.out.blocks j hj).1)) (gb_setCellS w' bK 1 _) (fun j hj=>.inr (by cases hj;rfl)),by rw [size_setCell];omega⟩
     rw [etk]
     exact (hO.keep fun j h1 h2 h3=>Below.heap_setCell _ _ _ _ (by show j ≠ bK;omega)).mono (Nat.le_refl _) (by rw [size_setCell];exact Nat.le_refl _)
   ·obtain rfl : k=cs.length:=by omega
    rw [List.take_length] at HO
    have HR:=Lib.hid HO.out
    have hz1:=(HG.out.block (w.heap.size+1) (by omega) (by intro e;injection e with e;omega)).trans (blk_later Z1.out HbW.out)
    obtain ⟨r0,r1,r2,r3,r4,rf,rl⟩:=blk5s hz1
    have Hz1:=Lib.hid hz1
    clear hz1
    go_wp2_with fail
    obtain ⟨q0,q1,q2,q3,q4,_,_⟩:=blk5s (heap_setCell_at (heap_setCell_at (heap_setCell_at (heap_setCell_at (heap_setCell_at Hz1.out 0 (.slice qp xs.length qk)) 1 (.slice pu cs.length ku)) 2 (.slice qs ys.length ql)) 3 (.int .i64 K)) 4 (.int .i64 N))
    refine bodyPost_ret (v:=.agg #[.slice qp xs.length qk,.slice pu cs.length ku,.slice qs ys.length ql,.int .i64 K,.int .i64 N]) (by simp [results,Tryz.results54,go_sem,q0,q1,q2,q3,q4]) rfl ⟨_,rfl,⟨_,_,_,rfl,?_,?_,?_⟩,?_⟩
    ·exact (ints_box5 H1.out Hz1.out _ _ _ _ _).t
    ·exact RdClT.of_own (HR.out.keep fun j h1 h2 h3=>heap_box5 (by omega) _ _ _ _ _).cl
    ·exact (ints_box5 H3.out Hz1.out _ _ _ _ _).t
    ·exact ((((HB.out.setCell (by show w.heap.size≤w.heap.size+1;omega) _).setCell (by show w.heap.size≤w.heap.size+1;omega) _).setCell (by show w.heap.size≤w.heap.size+1;omega) _).setCell (by show w.heap.size≤w.heap.size+1;omega) _).setCell (by show w.heap.size≤w.heap.size+1;omega) _
 go_region_held3 (fun w'=>(w'.cell? ⟨w.heap.size,0,none⟩=some (.slice pp xs.length pk)∧w'.cell? ⟨w.heap.size,1,none⟩=some (.slice cp cs.length ck)∧w'.cell? ⟨w.heap.size,2,none⟩=some (.slice sp ys.length sk)∧w'.cell? ⟨w.heap.size,3,none⟩=some (.int .i64 K)∧w'.cell? ⟨w.heap.size,4,none⟩=some (.int .i64 N))∧Below W0.heap.size W0 w')
  (first
    | with_reducible assumption
    | (with_reducible exact HSA.out _)
    | ((with_reducible refine keep5D (Nat.le_refl _) hb5 ?_);with_reducible assumption)
    | ((with_reducible refine keep5D (Nat.le_refl _) (below_alloc _ _) ?_);with_reducible assumption)
    | ((with_reducible refine keep5A (o:=.cells #[.slice none 0 0,.slice none 0 0,.slice none 0 0,.int .i64 0,.int .i64 0] 61) ?_ ?_ ?_);all_goals first | with_reducible assumption | (have k1:=HbF.out.size;have k3:=Hz0.out;omega) | (have k1:=HbF.out.size;have k2:=Hb2.out.size;have k3:=Hz0.out;omega))
    | ((with_reducible refine keep5C ?_ ?_ (keep5C ?_ ?_ (keep5C ?_ ?_ (keep5C ?_ ?_ (keep5C ?_ ?_ ?_)))));all_goals first | with_reducible assumption | (have k1:=HbF.out.size;have k3:=Hz0.out;omega) | (have k1:=HbF.out.size;have k2:=Hb2.out.size;have k3:=Hz0.out;omega)))
  (first
    | (have HSEC:=HSEC;go_at_call 38;(with_reducible refine Calls.mono (HP.out _ ?_) ?_);exact Hb0.out.trans ((held_below2 (by assumption)).mono Hb0.out.size);rintro e1 w3 ⟨u1,rfl,u1o,hb5⟩;obtain ⟨qp,qk,rfl,_,_⟩:=u1o.shape;have u1I:=Lib.hid (IsO.mk u1o);clear u1o;have Hb2:=Lib.hid (show Below w2.heap.size w2 w3 by first | exact hb5 | exact (below_alloc w2 _).trans (hb5.mono (below_alloc w2 _).size));clear HSEC;first | (have zx:=blk_later (heap_alloc_top w2 _) hb5;obtain ⟨x0,x1,x2,x3,x4,xf,xl⟩:=blk5s zx) | (have zy:=blk_later zx hb5;obtain ⟨x0,x1,x2,x3,x4,xf,xl⟩:=blk5s zy) | skip)
    | (have HSEC:=HSEC;go_at_call 38;(with_reducible refine Calls.mono (HS.out _ ?_) ?_);exact Hb0.out.trans ((held_below2 (by assumption)).mono Hb0.out.size);rintro e1 w3 ⟨u3,rfl,u3o,hb5⟩;obtain ⟨qs,ql,rfl,_,_⟩:=u3o.shape;have u3I:=Lib.hid (IsO.mk u3o);clear u3o;have Hb2:=Lib.hid (show Below w2.heap.size w2 w3 by first | exact hb5 | exact (below_alloc w2 _).trans (hb5.mono (below_alloc w2 _).size));clear HSEC;first | (have zx:=blk_later (heap_alloc_top w2 _) hb5;obtain ⟨x0,x1,x2,x3,x4,xf,xl⟩:=blk5s zx) | (have zy:=blk_later zx hb5;obtain ⟨x0,x1,x2,x3,x4,xf,xl⟩:=blk5s zy) | skip)
    | (go_at_call 38;(with_reducible refine Calls.mono (HP.out _ ?_) ?_);exact Hb0.out.trans ((held_below2 (by assumption)).mono Hb0.out.size);rintro e1 w2 ⟨u1,rfl,u1o,hb5⟩;obtain ⟨qp,qk,rfl,_,_⟩:=u1o.shape;have u1I:=Lib.hid (IsO.mk u1o);clear u1o;have HbF:=Lib.hid (show Below W0.heap.size W0 w2 by first | exact (Below.refl _ _).drew.trans hb5 | exact (below_alloc W0 _).drew.trans (hb5.mono (below_alloc W0 _).drew.size));have HSEC:=Lib.hid trivial;first | (have zx:=blk_later (w:=(W0.alloc _).drew) (heap_alloc_top W0 _) hb5;obtain ⟨x0,x1,x2,x3,x4,xf,xl⟩:=blk5s zx) | skip)
    | (go_at_call 38;(with_reducible refine Calls.mono (HS.out _ ?_) ?_);exact Hb0.out.trans ((held_below2 (by assumption)).mono Hb0.out.size);rintro e1 w2 ⟨u3,rfl,u3o,hb5⟩;obtain ⟨qs,ql,rfl,_,_⟩:=u3o.shape;have u3I:=Lib.hid (IsO.mk u3o);clear u3o;have HbF:=Lib.hid (show Below W0.heap.size W0 w2 by first | exact (Below.refl _ _).drew.trans hb5 | exact (below_alloc W0 _).drew.trans (hb5.mono (below_alloc W0 _).drew.size));have HSEC:=Lib.hid trivial;first | (have zx:=blk_later (w:=(W0.alloc _).drew) (heap_alloc_top W0 _) hb5;obtain ⟨x0,x1,x2,x3,x4,xf,xl⟩:=blk5s zx) | skip))
 all_goals
  have hbF:=held_below2 (by assumption)
  (with_reducible refine ⟨rfl,_,_,_,_,_,rfl,?_,?_,?_,hbF,?_⟩)
 all_goals first
  | with_reducible exact Nat.le_refl _
  | with_reducible exact HbF.out.size
  | with_reducible exact Nat.le_trans HbF.out.size Hb2.out.size
  | with_reducible exact heap_alloc_top w3 _
  | ((with_reducible refine (heap_setCell_at (heap_setCell_at (heap_setCell_at (heap_setCell_at (heap_setCell_at zy 0 _) 1 _) 2 _) 3 _) 4 _).trans ?_);rfl)
  | ((with_reducible refine (heap_setCell_at (heap_setCell_at (heap_setCell_at (heap_setCell_at (heap_setCell_at zx 0 _) 1 _) 2 _) 3 _) 4 _).trans ?_);rfl)
  | with_reducible exact IsO.below u1I.out (below_alloc w3 _)
  | with_reducible exact IsO.below u1I.out (Hb2.out.trans ((below_alloc w3 _).mono Hb2.out.size))
  | with_reducible exact ints_box5 u1I.out zy _ _ _ _ _
  | with_reducible exact ints_box5 (u1I.out.below Hb2.out) zy _ _ _ _ _
  | with_reducible exact ints_box5 u1I.out zx _ _ _ _ _
  | with_reducible exact ints_box5 (u1I.out.below Hb2.out) zx _ _ _ _ _
  | with_reducible exact IsO.below u3I.out (below_alloc w3 _)
  | with_reducible exact IsO.below u3I.out (Hb2.out.trans ((below_alloc w3 _).mono Hb2.out.size))
  | with_reducible exact ints_box5 u3I.out zy _ _ _ _ _
  | with_reducible exact ints_box5 (u3I.out.below Hb2.out) zy _ _ _ _ _
  | with_reducible exact ints_box5 u3I.out zx _ _ _ _ _
  | with_reducible exact ints_box5 (u3I.out.below Hb2.out) zx _ _ _ _ _
theorem keepT {w W W' : World} {a0 a1 a2 a3 a4 : Addr} {v0 v1 v2 v3 v4 : Value} {b : Nat} {T : TypeId} (hb : Below W.heap.size W W')
 (h : ((W.cell? a0=some v0∧W.cell? a1=some v1∧W.cell? a2=some v2∧W.cell? a3=some v3∧W.cell? a4=some v4) ∧ ∃ y0 y1 y2 y3 y4,W.heap[b]?=some (.cells #[y0,y1,y2,y3,y4] T (0,0)))∧Below w.heap.size w W) :
 ((W'.cell? a0=some v0∧W'.cell? a1=some v1∧W'.cell? a2=some v2∧W'.cell? a3=some v3∧W'.cell? a4=some v4) ∧ ∃ y0 y1 y2 y3 y4,W'.heap[b]?=some (.cells #[y0,y1,y2,y3,y4] T (0,0)))∧Below w.heap.size w W':=by
 obtain ⟨⟨⟨h0,h1,h2,h3,h4⟩,y0,y1,y2,y3,y4,hy⟩,hB⟩:=h
 exact ⟨⟨⟨cell_below hb h0,cell_below hb h1,cell_below hb h2,cell_below hb h3,cell_below hb h4⟩,y0,y1,y2,y3,y4,blk_later hy hb⟩,hB.trans (hb.mono hB.size)⟩
theorem set5_all {w : World} {b : Nat} {x0 x1 x2 x3 x4 : Value} {T : TypeId} (h : w.heap[b]?=some (.cells #[x0,x1,x2,x3,x4] T (0,0))) (y0 y1 y2 y3 y4 : Value) :
 (((((w.setCell ⟨b,0,none⟩ y0).setCell ⟨b,1,none⟩ y1).setCell ⟨b,2,none⟩ y2).setCell ⟨b,3,none⟩ y3).setCell ⟨b,4,none⟩ y4).heap[b]?=some (.cells #[y0,y1,y2,y3,y4] T (0,0)):=by
 have e:=heap_setCell_at (heap_setCell_at (heap_setCell_at (heap_setCell_at (heap_setCell_at h 0 y0) 1 y1) 2 y2) 3 y3) 4 y4
 simpa using e
theorem below_set5 {B : Nat} {a w : World} (h : Below B a w) {b : Nat} (hb : B≤b) (x0 x1 x2 x3 x4 : Value) :
 Below B a (((((w.setCell ⟨b,0,none⟩ x0).setCell ⟨b,1,none⟩ x1).setCell ⟨b,2,none⟩ x2).setCell ⟨b,3,none⟩ x3).setCell ⟨b,4,none⟩ x4) :=
 ((((h.setCell hb _).setCell hb _).setCell hb _).setCell hb _).setCell hb _
theorem keepT_gen {w W W' : World} {b1 : Nat} {v0 v1 v2 v3 v4 z0 z1 z2 z3 z4 : Value} {b : Nat} {T : TypeId} (hh : W'.heap[b1]?=W.heap[b1]?) (hy : W'.heap[b]?=some (.cells #[z0,z1,z2,z3,z4] T (0,0))) (hB : Below w.heap.size w W')
 (h : W.cell? ⟨b1,0,none⟩=some v0∧W.cell? ⟨b1,1,none⟩=some v1∧W.cell? ⟨b1,2,none⟩=some v2∧W.cell? ⟨b1,3,none⟩=some v3∧W.cell? ⟨b1,4,none⟩=some v4) :
 ((W'.cell? ⟨b1,0,none⟩=some v0∧W'.cell? ⟨b1,1,none⟩=some v1∧W'.cell? ⟨b1,2,none⟩=some v2∧W'.cell? ⟨b1,3,none⟩=some v3∧W'.cell? ⟨b1,4,none⟩=some v4) ∧ ∃ y0 y1 y2 y3 y4,W'.heap[b]?=some (.cells #[y0,y1,y2,y3,y4] T (0,0)))∧Below w.heap.size w W':=by
 obtain ⟨h0,h1,h2,h3,h4⟩:=h
 refine ⟨⟨⟨?_,?_,?_,?_,?_⟩,z0,z1,z2,z3,z4,hy⟩,hB⟩
 ·rw [World.cell?_of_block (w:=W) hh];exact h0
 ·rw [World.cell?_of_block (w:=W) hh];exact h1
 ·rw [World.cell?_of_block (w:=W) hh];exact h2
 ·rw [World.cell?_of_block (w:=W) hh];exact h3
 ·rw [World.cell?_of_block (w:=W) hh];exact h4
theorem keepT_set {w W W' : World} {b1 : Nat} {v0 v1 v2 v3 v4 : Value} {b : Nat} {T : TypeId} (hne : b1 ≠ b) (hbw : w.heap.size≤b) (x0 x1 x2 x3 x4 : Value)
 (hW : W'=((((W.setCell ⟨b,0,none⟩ x0).setCell ⟨b,1,none⟩ x1).setCell ⟨b,2,none⟩ x2).setCell ⟨b,3,none⟩ x3).setCell ⟨b,4,none⟩ x4)
 (h : ((W.cell? ⟨b1,0,none⟩=some v0∧W.cell? ⟨b1,1,none⟩=some v1∧W.cell? ⟨b1,2,none⟩=some v2∧W.cell? ⟨b1,3,none⟩=some v3∧W.cell? ⟨b1,4,none⟩=some v4) ∧ ∃ y0 y1 y2 y3 y4,W.heap[b]?=some (.cells #[y0,y1,y2,y3,y4] T (0,0)))∧Below w.heap.size w W) :
 ((W'.cell? ⟨b1,0,none⟩=some v0∧W'.cell? ⟨b1,1,none⟩=some v1∧W'.cell? ⟨b1,2,none⟩=some v2∧W'.cell? ⟨b1,3,none⟩=some v3∧W'.cell? ⟨b1,4,none⟩=some v4) ∧ ∃ y0 y1 y2 y3 y4,W'.heap[b]?=some (.cells #[y0,y1,y2,y3,y4] T (0,0)))∧Below w.heap.size w W':=by
 obtain ⟨⟨hc,y0,y1,y2,y3,y4,hy⟩,hB⟩:=h
 have hh : W'.heap[b1]?=W.heap[b1]?:=by rw [hW];exact heap_box5 (w:=W) hne x0 x1 x2 x3 x4
 have hy5 : W'.heap[b]?=some (.cells #[x0,x1,x2,x3,x4] T (0,0)):=by rw [hW];exact set5_all hy x0 x1 x2 x3 x4
 have hB5 : Below w.heap.size w W':=by rw [hW];exact below_set5 hB hbw x0 x1 x2 x3 x4
 exact keepT_gen hh hy5 hB5 hc
theorem sT_blk {c : Prop} {w W : World} {b : Nat} {T : TypeId} (h : (c ∧ ∃ y0 y1 y2 y3 y4,W.heap[b]?=some (.cells #[y0,y1,y2,y3,y4] T (0,0)))∧Below w.heap.size w W) : ∃ y0 y1 y2 y3 y4,W.heap[b]?=some (.cells #[y0,y1,y2,y3,y4] T (0,0)):=h.1.2
theorem box5_two (w : World) (T : TypeId) (v0 v1 v2 v3 v4 z0 z1 z2 z3 z4 : Value) :
 ((w.alloc (.cells #[v0,v1,v2,v3,v4] T)).alloc (.cells #[z0,z1,z2,z3,z4] T)).heap[w.heap.size]?=some (.cells #[v0,v1,v2,v3,v4] T (0,0)) ∧
 ((w.alloc (.cells #[v0,v1,v2,v3,v4] T)).alloc (.cells #[z0,z1,z2,z3,z4] T)).heap[w.heap.size+1]?=some (.cells #[z0,z1,z2,z3,z4] T (0,0)):=by
 refine ⟨?_,heap_alloc_at _ _ (by simp)⟩
 rw [heap_alloc_low _ _ (by simp)];exact heap_alloc_top _ _
theorem oneWord_ask (v : Value) (xs ys : List Int) (cs : List Cls) (K N : Int) (line : ByteArray) (R : ByteArray→Prop) (w : World) (h : SesT w v xs cs ys K N)
 (l1 : (line.toList == [105,110,118,101,114,115,101])=false) (l2 : (line.toList == [116,114,105,109])=false) (l3 : (line.toList == [115,101,116])=false) (l4 : (line.toList == [116,105,109,101,115])=false) (l5 : (line.toList == [100,117,97,108])=false) (l6 : (line.toList == [115,104,97,112,101])=false)
 (hA : ∀ W,Below w.heap.size w W→Calls Tryz.prog 99 #[v,.string line] W fun e w'=> ∃ s,e=.returned (.string s)∧R s∧Below W.heap.size W w') :
 Calls Tryz.prog 58 #[v,.string line] w fun e w'=> ∃ u s,e=.returned (.tuple #[u,.string s])∧R s∧SesT w' u xs cs ys K N∧Below w.heap.size w w':=by
 have HS:=Lib.hid h
 obtain ⟨pp,pk,cp,ck,sp,sk,rfl,i1,i2,i3⟩:=h.open
 have HA:=Lib.hid hA
 obtain ⟨z1,z2⟩:=box5_two w 61 (.slice pp xs.length pk) (.slice cp cs.length ck) (.slice sp ys.length sk) (.int .i64 K) (.int .i64 N) (.slice none 0 0) (.slice none 0 0) (.slice none 0 0) (.int .i64 0) (.int .i64 0)
 have Z1:=Lib.hid z1
 have Z2:=Lib.hid z2
 have HB0:=Lib.hid (below_alloc2 w (.cells #[.slice pp xs.length pk,.slice cp cs.length ck,.slice sp ys.length sk,.int .i64 K,.int .i64 N] 61) (.cells #[.slice none 0 0,.slice none 0 0,.slice none 0 0,.int .i64 0,.int .i64 0] 61))
 clear z1 z2 hA h i1 i2 i3
 go_enter Tryz.func58,Tryz.ntmps58
 go_wp2_with fail
 have hs0 : ((w.alloc (.cells #[.slice pp xs.length pk,.slice cp cs.length ck,.slice sp ys.length sk,.int .i64 K,.int .i64 N] 61)).alloc (.cells #[.slice none 0 0,.slice none 0 0,.slice none 0 0,.int .i64 0,.int .i64 0] 61)).heap.size=w.heap.size+1+1:=by simp
 generalize (w.alloc (.cells #[.slice pp xs.length pk,.slice cp cs.length ck,.slice sp ys.length sk,.int .i64 K,.int .i64 N] 61)).alloc (.cells #[.slice none 0 0,.slice none 0 0,.slice none 0 0,.int .i64 0,.int .i64 0] 61)=w2 at *
 obtain ⟨c0,c1,c2,c3,c4,cf,hz⟩:=blk5s Z1.out
 have hS0 : ((w2.drew.cell? ⟨w.heap.size,0,none⟩=some (.slice pp xs.length pk)∧w2.drew.cell? ⟨w.heap.size,1,none⟩=some (.slice cp cs.length ck)∧w2.drew.cell? ⟨w.heap.size,2,none⟩=some (.slice sp ys.length sk)∧w2.drew.cell? ⟨w.heap.size,3,none⟩=some (.int .i64 K)∧w2.drew.cell? ⟨w.heap.size,4,none⟩=some (.int .i64 N)) ∧ ∃ y0 y1 y2 y3 y4,w2.drew.heap[w.heap.size+1]?=some (.cells #[y0,y1,y2,y3,y4] 61 (0,0)))∧Below w.heap.size w w2.drew:=⟨⟨⟨c0,c1,c2,c3,c4⟩,_,_,_,_,_,Z2.out⟩,HB0.out.drew⟩
 go_region_held3 (fun w'=>((w'.cell? ⟨w.heap.size,0,none⟩=some (.slice pp xs.length pk)∧w'.cell? ⟨w.heap.size,1,none⟩=some (.slice cp cs.length ck)∧w'.cell? ⟨w.heap.size,2,none⟩=some (.slice sp ys.length sk)∧w'.cell? ⟨w.heap.size,3,none⟩=some (.int .i64 K)∧w'.cell? ⟨w.heap.size,4,none⟩=some (.int .i64 N)) ∧ ∃ y0 y1 y2 y3 y4,w'.heap[w.heap.size+1]?=some (.cells #[y0,y1,y2,y3,y4] 61 (0,0)))∧Below w.heap.size w w')
  (first | with_reducible assumption | (with_reducible exact keepT hb1 (by assumption)) | exact keepT_set (by omega) (by omega) _ _ _ _ _ rfl (by assumption))
  (first
    | (go_at_call 99;refine Calls.mono (HA.out _ ?_) ?_;exact (held_below2 (by with_reducible assumption));rintro e1 w3 ⟨s,rfl,hR,hb1⟩;have HR:=Lib.hid hR;obtain ⟨y0,y1,y2,y3,y4,hy⟩:=sT_blk (by with_reducible assumption);obtain ⟨d0,d1,d2,d3,d4,df,dz⟩:=blk5s (blk_later hy hb1);clear hR))
 have hds : w2.drew.heap.size=w2.heap.size:=rfl
 have hbz : Below w.heap.size w w3:=HB0.out.trans ((below_of_drew hb1).mono (by omega))
 have Hz5:=Lib.hid (set5_all (blk_later Z2.out (below_of_drew hb1)) (.slice pp xs.length pk) (.slice cp cs.length ck) (.slice sp ys.length sk) (.int .i64 K) (.int .i64 N))
 have HB5:=Lib.hid (below_set5 hbz (show w.heap.size≤w.heap.size+1 by omega) (.slice pp xs.length pk) (.slice cp cs.length ck) (.slice sp ys.length sk) (.int .i64 K) (.int .i64 N))
 clear hy d0 d1 d2 d3 d4 df
 obtain ⟨f0,f1,f2,f3,f4,ff,fz⟩:=blk5s Hz5.out
 go_wp2_with fail
 refine bodyPost_ret (v:=.tuple #[.agg #[.slice pp xs.length pk,.slice cp cs.length ck,.slice sp ys.length sk,.int .i64 K,.int .i64 N],.string s]) (by simp [results,Tryz.results58,go_sem,f0,f1,f2,f3,f4,fz]) rfl ⟨_,s,rfl,HR.out,HS.out.below HB5.out,HB5.out⟩
end
section
open Go.RowKit Go.Sort
theorem poR_len' (c : List Int) : ∀ k,k≤c.length→(∀ j,j < k→0≤c.getD j 0∧c.getD j 0 < ((c.length - j : Nat) : Int))→(poR c k).length=c.length - k
 | 0,_,_=>by simp [poR,idL]
 | k+1,hk,h=>by
   have ih:=poR_len' c k (by omega) fun j hj=>h j (by omega)
   have:=h k (by omega)
   unfold poR
   rw [List.length_eraseIdx,if_pos (by omega),ih]
   omega
theorem first_bad (p : Nat→Bool) : ∀ n : Nat,(∃ k,k < n∧p k=false) → ∃ k,k < n∧p k=false ∧ ∀ j,j < k→p j=true
 | 0,⟨k,hk,_⟩=>by omega
 | n+1,h=>by
   by_cases hh : ∃ k,k < n∧p k=false
   ·obtain ⟨k,h1,h2,h3⟩:=first_bad p n hh
    exact ⟨k,by omega,h2,h3⟩
   ·obtain ⟨k,hk,hp⟩:=h
    have hkn : k=n:=by
     by_cases e : k=n
     ·exact e
     ·exact absurd ⟨k,by omega,hp⟩ hh
    subst hkn
    refine ⟨k,hk,hp,fun j hj=> ?_⟩
    cases hpj : p j with
    | true=>rfl
    | false=>exact absurd ⟨j,hj,hpj⟩ hh
theorem poB_bad {c : List Int} (h : poB c=false) : ∃ k,k < c.length ∧ ¬ (0≤c.getD k 0∧c.getD k 0 < ((c.length - k : Nat) : Int)) ∧ ∀ j,j < k→0≤c.getD j 0∧c.getD j 0 < ((c.length - j : Nat) : Int):=by
 unfold poB at h
 rw [List.all_eq_false] at h
 obtain ⟨k,hk,hp⟩:=h
 obtain ⟨k,h1,h2,h3⟩:=first_bad (fun k=>decide (0≤c.getD k 0) && decide (c.getD k 0 < ((c.length - k : Nat) : Int))) c.length ⟨k,List.mem_range.1 hk,by simpa using hp⟩
 refine ⟨k,h1,fun hh=> ?_,fun j hj=> ?_⟩
 ·rw [decide_eq_true hh.1,decide_eq_true hh.2] at h2
  cases h2
 ·have:=h3 j hj
  simpa using this
theorem PermOfCode_no (v : Value) (c : List Int) (w : World) (h : Ints w v c) (h1 : 1≤c.length) (h7 : c.length≤7) (hb : poB c=false) (hc0 : ∀ x ∈ c,0≤x∧x≤1000000) :
 Calls Tryz.prog 68 #[v] w fun e w'=>e=.returned (.slice none 0 0)∧Below w.heap.size w w':=by
 obtain ⟨p,cap,rfl,⟨m1,m2⟩,hq⟩:=h
 obtain ⟨b,off,rfl,hc⟩:=hq (by omega)
 clear hq
 unfold maxLen at m2
 obtain ⟨n,hn⟩ : ∃ n,n=c.length:=⟨_,rfl⟩
 have Hn:=Lib.hid hn
 obtain ⟨K,hK1,hK2,hK3⟩:=poB_bad hb
 have hKc:=hc0 _ (getD_mem hK1)
 have HRl:=Lib.hid (show ∀ k,k≤K→(poR c k).length=n - k from fun k hk=>by rw [hn];exact poR_len' c k (by omega) fun j hj=>hK3 j (by omega))
 have Hat:=Lib.hid (show ∀ k,k < K→0≤c.getD k 0∧c.getD k 0 < ((n - k : Nat) : Int) from fun k hk=>by rw [hn];exact hK3 k hk)
 have HKa:=Lib.hid (show 0≤c.getD K 0∧((n - K : Nat) : Int)≤c.getD K 0∧c.getD K 0≤1000000 by rw [hn];omega)
 rw [← hn] at h1 h7 m1 hc hK1 ⊢
 have Hc:=Lib.hid hc
 have h0:=idL_length n
 clear hn hb hc hK2 hK3 hKc hc0
 go_enter Tryz.func68,Tryz.ntmps68
 go_wp2_with fail
 refine (implIdentity_any n _ h1 h7).mono ?_
 rintro e w1 ⟨u,rfl,ho,hb1⟩
 obtain ⟨pu,ku,rfl,hk1,hk2⟩:=ho.shape
 rw [h0] at hk1 ⊢
 obtain ⟨gu,rfl,_,_,_⟩:=ho.fn.at_ (by rw [h0];exact h1)
 unfold maxLen at hk2
 have keq:=Lib.run_eql_slice_nil (P:=Tryz.prog) w1 24 3 (some ⟨gu,0,none⟩) n ku 0 0 Tryz.underlying24
 have Ho:=Lib.hid (show OwnI 3 w1 w.heap.size w1.heap.size (.slice (some ⟨gu,0,none⟩) n ku) (idL n) by
  have:=ho
  rw [h0] at this
  exact this)
 have Hb1:=Lib.hid hb1
 have hs1:=hb1.size
 clear ho hb1 h0
 go_wp2_with fail
 clear keq
 go_loopg [3,4,6,15] (K+1) (fun g s3 s4 s6 s15 wr=> ∃ (k : Nat),k≤K∧g=K+1 - k∧s15=.int .i64 k∧s3=.slice (some ⟨gu,0,none⟩) (n - k) ku∧Hid (OwnI 3 wr w.heap.size w1.heap.size s3 (poR c k))∧Hid (OwnI 3 wr w1.heap.size wr.heap.size s4 (poO c k))∧Hid (Below w.heap.size w wr)∧w1.heap.size≤wr.heap.size)
 case atStart =>
  refine ⟨0,Nat.zero_le _,rfl,rfl,rfl,?_,?_,Hb1.out.trans ((below_alloc w1 _).mono hs1),by rw [size_alloc];omega⟩
  ·show OwnI _ _ _ _ _ (idL c.length)
   rw [← Hn.out]
   exact Ho.out.below (below_alloc w1 _)
  ·exact (OwnF.ints (xs:=[]) (OwnF.made0 w1 3 (iv []))).mono (Nat.le_refl _) (by rw [size_alloc];exact Nat.le_refl _)
 case round =>
  obtain ⟨k,hk,rfl,rfl,rfl,hR,hO,hb,hsz1⟩:=hrel
  obtain ⟨wo,rfl⟩ : ∃ x : World,x=wr:=⟨_,rfl⟩
  have HR:=Lib.hid hR.out
  have HO:=Lib.hid hO.out
  have Hb:=Lib.hid hb.out
  clear hR hO hb
  have hkz : (k : Int) < (n : Int):=by omega
  have c0 : wo.cell? ⟨b,off+k,none⟩=some (.int .i64 (c.getD k 0)):=cell_below Hb.out (Hc.out k (by omega))
  by_cases hlt : k < K
  ·obtain ⟨r1,r2⟩:=Hat.out k hlt
   obtain ⟨x,hx⟩:=Int.eq_ofNat_of_zero_le r1
   rw [hx] at c0 r2
   have Hx:=Lib.hid hx
   have hxn : x < n - k:=by omega
   have hlen:=HRl.out k (by omega)
   have c1:=HR.out.fn.cell (j:=x) (by rw [hlen];exact hxn)
   obtain ⟨y,hy⟩ : ∃ y,y=(poR c k).getD x 0:=⟨_,rfl⟩
   have c1' : wo.cell? ⟨gu,x,none⟩=some (.int .i64 y):=by rw [hy];exact c1
   have Hy:=Lib.hid hy
   have hx0 : ¬ ((x : Nat) : Int) < 0:=by omega
   have hxl : ¬ (((n - k : Nat) : Int)≤(x : Int)):=by omega
   have hxl2 : (x : Int) < ((n - k : Nat) : Int):=by omega
   obtain ⟨p4,k4,e4,_,_⟩:=HO.out.shape
   subst e4
   have hol:=poO_len c k
   rw [hol] at HO ⊢
   have hofn:=HO.out.fn
   rw [hol] at hofn
   have Ho4:=Lib.hid hofn
   have Hol:=Lib.hid hol
   have hw1 : IntKind.i64.wrap ((x : Int)+1)=(x : Int)+1:=k64 (by omega) (by omega)
   have Hlen:=Lib.hid hlen
   clear c1 hy hlen hx hol hofn r1 r2
   go_wp2_with (at_builtin;go_must (refine wpList_append_F rfl (.tmp 27) (.tmp 32) 24 rfl 3 (.int .i64 0) 8 Tryz.underlying24 info_int rfl w1.heap.size wo.heap.size _ k (iv (poO c k)) rfl (Ho4.out.below (below_alloc wo _)) (by rw [size_alloc];omega) (by rw [size_alloc];omega) _ 1 _ rfl (rd_one _ _ _ rfl) (fun j _=>rfl) (by unfold maxLen;omega) (by omega) ?_;intro v2 w2 ho2 hg2))
   have hbB : Below w1.heap.size (wo.alloc (.cells #[.int .i64 y] 3)) w2:=grownBy_below hg2 Ho4.out.blocks (Nat.le_refl _) (by rw [size_alloc];omega)
   have HR2:=Lib.hid (show OwnI 3 w2 w.heap.size w1.heap.size (.slice (some ⟨gu,0,none⟩) (n - k) ku) (poR c k) from
    Own.keep HR.out fun t _ ht1 ht2=>(hbB.block t ht1).trans ((below_alloc wo _).block t ht2))
   have HO2:=Lib.hid (show OwnI 3 w2 w1.heap.size w2.heap.size v2 (poO c k ++ [y]) from OwnI.snoc1 (by rw [Hol.out];exact ho2))
   have Hb2:=Lib.hid ((Hb.out.trans ((below_alloc wo (.cells #[.int .i64 y] 3)).mono Hb.out.size)).trans (hbB.mono hs1))
   have hs2:=hbB.size
   rw [size_alloc] at hs2
   have HD:=Lib.hid (delete_any gu ku x (n - k) w.heap.size w1.heap.size (poR c k) w2 HR2.out Hlen.out hxn)
   obtain ⟨pv,lv,kv,rfl⟩ : ∃ p l k,v2=.slice p l k:=by obtain ⟨p,k,e,_⟩:=HO2.out.shape;exact ⟨_,_,_,e⟩
   clear ho2 hg2 hbB
   refine HD.out.mono ?_
   rintro e w3 ⟨rfl,hR3,hf3⟩
   have HR3:=Lib.hid hR3
   have HO3:=Lib.hid ((HO2.out.frm hf3 (Or.inr (Nat.le_refl _))).mono (Nat.le_refl _) hf3.size)
   have Hb3:=Lib.hid (Hb2.out.trans (hf3.below (Nat.le_refl _) (by have:=Hb2.out.size;omega)))
   have hs3:=hf3.size
   clear hR3 hf3
   go_wp2_with fail
   go_roundg (K+1 - (k+1))
   case measure=>omega
   case rel =>
    have ex : (c.getD k 0).toNat=x:=by rw [Hx.out];rfl
    refine ⟨k+1,by omega,rfl,by go_num,by rw [Nat.sub_sub],?_,?_,Hb3.out,by omega⟩
    ·show OwnI _ _ _ _ _ ((poR c k).eraseIdx (c.getD k 0).toNat)
     rw [ex]
     exact HR3.out
    ·show OwnI _ _ _ _ _ (poO c k ++ [(poR c k).getD (c.getD k 0).toNat 0])
     rw [ex,← Hy.out]
     exact HO3.out
  ·obtain rfl : k=K:=by omega
   obtain ⟨r1,r2,r3⟩:=HKa.out
   obtain ⟨x,hx⟩:=Int.eq_ofNat_of_zero_le r1
   rw [hx] at c0 r2 r3
   have hx0 : ¬ ((x : Nat) : Int) < 0:=by omega
   have hxl : ((n - k : Nat) : Int)≤(x : Int):=r2
   obtain ⟨p4,k4,e4,_,_⟩:=HO.out.shape
   subst e4
   clear hx r1
   go_wp2_with fail
   go_ret
   exact ⟨rfl,Hb.out⟩
end
section
open Go.RowKit Go.Maps Go.WideMaps
def kls (e : List Int) : List Lit:=e.map fun n=>Lit.int .i64 n
def kv (e : List Int) : Value:=.agg (e.map fun n=>Value.int .i64 n).toArray
def kl (e : List Int) : Lit:=.string (keyBytes (kls e))
def K7 (d : Nat) (e : List Int) : Prop:=e.length=7 ∧ ∀ x ∈ e,0≤x∧x≤(d : Int)
theorem und56 : Tryz.prog.underlying 109=some (.array 7 3):=by kernel_rfl
theorem und41 : Tryz.prog.underlying 105=some (.map 109 3):=by kernel_rfl
theorem undI : Tryz.prog.underlying 3=some (.int .i64):=by kernel_rfl
theorem arr7 : ArrKey Tryz.prog 109 3 7:=⟨und56,by kernel_rfl,by kernel_rfl,by kernel_rfl⟩
theorem types_pos : ∃ m,Tryz.prog.types.size=m+1:=⟨Tryz.prog.types.size - 1,by have : 0 < Tryz.prog.types.size:=of_decide_eq_true (by kernel_rfl);omega⟩
theorem klaw : Keyed Tryz.prog 109:=Keyed.of_law arr7.law
theorem zeroI (w : World) : (zeroValue 3).run Tryz.prog w=.ok (.int .i64 0) w:=by kernel_rfl
theorem wf_of {d : Nat} {x : Int} (hd : d≤1000000) (h : 0≤x∧x≤(d : Int)) : (Lit.int .i64 x).wf=true:=WalkArith.wf_i64 (by omega)
theorem keyOf_kv {e : List Int} {d : Nat} (h : K7 d e) (hd : d≤1000000) : keyOf Tryz.prog 109 (kv e)=some (kl e):=by
 obtain ⟨hl,hr⟩:=h
 match e,hl with
 | [a,b,c,x,y,z,u],_ =>
   have wa:=wf_of hd (hr a (by simp))
   have wb:=wf_of hd (hr b (by simp))
   have wc:=wf_of hd (hr c (by simp))
   have wx:=wf_of hd (hr x (by simp))
   have wy:=wf_of hd (hr y (by simp))
   have wz:=wf_of hd (hr z (by simp))
   have wu:=wf_of hd (hr u (by simp))
   have hkt:=arr7.keyType types_pos
   obtain ⟨m,hm⟩:=types_pos
   unfold keyOf kv kl kls
   simp only [und56]
   rw [if_pos (by simp [hkt,Value.formed,und56,arr7.size]),hm]
   unfold Program.keyLits
   simp only [und56,Value.cells]
   rw [if_pos (by rw [arr7.size];rfl),show List.range 7=[0,1,2,3,4,5,6] from rfl]
   simp [arr7.one,Program.keyLits,undI,wa,wb,wc,wx,wy,wz,wu]
theorem kl_inj {e e' : List Int} {d d' : Nat} (h : K7 d e) (hd : d≤1000000) (h' : K7 d' e') (hd' : d'≤1000000) (hk : kl e=kl e') : e=e':=by
 have a:=keyOf_kv h hd
 have b:=keyOf_kv h' hd'
 rw [← hk] at b
 have:=klaw.inj a b
 unfold kv at this
 injection this with this
 have:=congrArg Array.toList this
 simp only [List.toList_toArray] at this
 exact (List.map_inj_right (fun x y hxy=>by injection hxy)).1 this
abbrev DU:=DataW Unit
def coef : DU→Int
 | .lit (.int _ c)=>c
 | _=>0
def SmL (h : Lit→Int) : List (Lit × DU)→Int
 | []=>0
 | p :: l=>coef p.2 * h p.1+SmL h l
def SmD (D : DU) (h : Lit→Int) : Int:=match D with
 | .map es=>SmL h es
 | _=>0
theorem SmL_perm (h : Lit→Int) {l l' : List (Lit × DU)} (hp : l.Perm l') : SmL h l=SmL h l':=by
 induction hp with
 | nil=>rfl
 | cons x _ ih=>simp only [SmL,ih]
 | swap x y l=>simp only [SmL];omega
 | trans _ _ a b=>exact a.trans b
theorem SmL_split (h : Lit→Int) (f : Lit × DU→Bool) : ∀ l : List (Lit × DU),SmL h l=SmL h (l.filter f)+SmL h (l.filter fun p=> !f p)
 | []=>rfl
 | p :: l=>by
   have ih:=SmL_split h f l
   cases hf : f p <;> simp [SmL,List.filter_cons,hf,ih] <;> omega
theorem find_one {l : List (Lit × DU)} {k : Lit} (hd : l.Pairwise fun p q=>p.1 ≠ q.1) (hk : WideAt.IsKeyLit k) (h : Lit→Int) :
 SmL h (l.filter fun p=>p.1.sameKey k)=coef ((DataW.map l).atKey k (.lit (.int .i64 0))) * h k:=by
 induction l with
 | nil=>simp [SmL,DataW.atKey,coef]
 | cons p l ih =>
   rw [List.pairwise_cons] at hd
   cases hs : p.1.sameKey k with
   | true =>
     have e:=WideAt.sameKey_eq hs
     have hn : l.filter (fun p=>p.1.sameKey k)=[]:=by
      rw [List.filter_eq_nil_iff]
      intro q hq hqs
      exact hd.1 q hq (by rw [e,WideAt.sameKey_eq hqs])
     rw [List.filter_cons,if_pos hs,hn]
     simp [SmL,DataW.atKey,List.find?_cons,e,WideAt.sameKey_self hk]
   | false =>
     rw [List.filter_cons,if_neg (by rw [hs];decide),ih hd.2]
     simp [DataW.atKey,List.find?_cons,hs]
theorem SmD_del {D : DU} (hD : Tidy D) {k : Lit} (hk : WideAt.IsKeyLit k) (h : Lit→Int) : SmD D h=SmD (D.del k) h+coef (D.atKey k (.lit (.int .i64 0))) * h k:=by
 obtain ⟨es,rfl,hd⟩:=hD
 have:=SmL_split h (fun p=>p.1.sameKey k) es
 rw [find_one hd hk] at this
 show SmL h es=SmL h (es.filter fun p=> !p.1.sameKey k)+_
 omega
theorem SmD_put {D : DU} (hD : Tidy D) {k : Lit} (h : Lit→Int) (d : DU) : SmD (D.put k d) h=SmD (D.del k) h+coef d * h k:=by
 obtain ⟨es,rfl,hd⟩:=hD
 show SmL h (DataW.insert (k,d) (es.filter fun p=> !p.1.sameKey k))=SmL h (es.filter fun p=> !p.1.sameKey k)+_
 rw [SmL_perm h (WideShapes.insert_perm _ _)]
 exact Int.add_comm _ _
theorem del_put {D : DU} (hD : Tidy D) {k : Lit} (hk : WideAt.IsKeyLit k) (h : Lit→Int) (d : DU) : SmD ((D.put k d).del k) h=SmD (D.del k) h:=by
 have a:=SmD_del (hD.put hk d) hk h
 rw [SmD_put hD h d,atKey_put_same hD.isMap hk] at a
 omega
def SmK (D : DU) (left : Lit→Bool) (h : Lit→Int) : Int:=match D with
 | .map es=>SmL h (es.filter fun p=>left p.1)
 | _=>0
theorem SmK_all {D : DU} (hD : Tidy D) (hk : ∀ l,has D l=true→WideAt.IsKeyLit l) (hm : ∀ es,D=.map es → ∀ p ∈ es,WideAt.IsKeyLit p.1) (h : Lit→Int) : SmK D (has D) h=SmD D h:=by
 obtain ⟨es,rfl,hd⟩:=hD
 show SmL h (es.filter fun p=>has (.map es) p.1)=SmL h es
 rw [List.filter_eq_self.2]
 intro p hp
 exact List.any_eq_true.2 ⟨p,hp,WideAt.sameKey_self (hm es rfl p hp)⟩
theorem SmK_none {D : DU} {left : Lit→Bool} (hl : ∀ l,left l=false) (h : Lit→Int) : SmK D left h=0:=by
 cases D <;> try rfl
 rename_i es
 show SmL h (es.filter fun p=>left p.1)=0
 rw [List.filter_eq_nil_iff.2 (fun p _=>by rw [hl];decide)]
 rfl
theorem SmK_step {D : DU} (hD : Tidy D) {left : Lit→Bool} {k : Lit} (hk : WideAt.IsKeyLit k) (hl : left k=true) (h : Lit→Int) :
 SmK D left h=coef (D.atKey k (.lit (.int .i64 0))) * h k+SmK D (fun z=>left z && !z.sameKey k) h:=by
 obtain ⟨es,rfl,hd⟩:=hD
 show SmL h (es.filter fun p=>left p.1)=_+SmL h (es.filter fun p=>left p.1 && !p.1.sameKey k)
 rw [SmL_split h (fun p=>p.1.sameKey k) (es.filter fun p=>left p.1),List.filter_filter,List.filter_filter,← find_one hd hk]
 congr 1
 ·congr 1
  apply List.filter_congr
  intro p _
  cases hs : p.1.sameKey k with
  | true=>rw [WideAt.sameKey_eq hs,hl];rfl
  | false=>simp
 ·congr 1
  apply List.filter_congr
  intro p _
  rw [Bool.and_comm]
abbrev Pl:=List (List Int × Int)
def Ev (P : Pl) (g : List Int→Int) : Int:=match P with
 | []=>0
 | p :: l=>p.2 * g p.1+Ev l g
theorem Ev_append (P Q : Pl) (g : List Int→Int) : Ev (P ++ Q) g=Ev P g+Ev Q g:=by
 induction P with
 | nil=>simp [Ev]
 | cons p l ih=>simp only [List.cons_append,Ev,ih];omega
def M64 : Int:=18446744073709551616
def Cg (a b : Int) : Prop:=∃ m,a=b+M64 * m
theorem Cg.refl (a : Int) : Cg a a:=⟨0,by simp⟩
theorem Cg.of (a b : Int) (h : a=b) : Cg a b:=h ▸ Cg.refl a
theorem Cg.symm {a b : Int} (h : Cg a b) : Cg b a:=by
 obtain ⟨m,rfl⟩:=h
 exact ⟨-m,by rw [Int.mul_neg];omega⟩
theorem Cg.trans {a b c : Int} (h : Cg a b) (h' : Cg b c) : Cg a c:=by
 obtain ⟨m,rfl⟩:=h
 obtain ⟨m',rfl⟩:=h'
 exact ⟨m'+m,by rw [Int.mul_add];omega⟩
theorem Cg.add {a b c e : Int} (h : Cg a b) (h' : Cg c e) : Cg (a+c) (b+e):=by
 obtain ⟨m,rfl⟩:=h
 obtain ⟨m',rfl⟩:=h'
 exact ⟨m+m',by rw [Int.mul_add];omega⟩
theorem Cg.mul {a b c e : Int} (h : Cg a b) (h' : Cg c e) : Cg (a * c) (b * e):=by
 obtain ⟨m,rfl⟩:=h
 obtain ⟨m',rfl⟩:=h'
 refine ⟨m * e+b * m'+M64 * m * m',?_⟩
 simp only [Int.add_mul,Int.mul_add,Int.mul_assoc,Int.mul_left_comm,Int.mul_comm]
 omega
theorem Cg.neg {a b : Int} (h : Cg a b) : Cg (-a) (-b):=by
 obtain ⟨m,rfl⟩:=h
 exact ⟨-m,by rw [Int.mul_neg];omega⟩
open Classical in
noncomputable def unkl (l : Lit) : List Int:=if h : ∃ e,l=kl e∧K7 1000000 e then h.choose else []
theorem K7.mono {d d' : Nat} {e : List Int} (h : K7 d e) (hd : d≤d') : K7 d' e:=⟨h.1,fun x hx=>by have:=h.2 x hx;omega⟩
theorem unkl_kl {e : List Int} {d : Nat} (h : K7 d e) (hd : d≤1000000) : unkl (kl e)=e:=by
 have hx : ∃ e',kl e=kl e'∧K7 1000000 e':=⟨e,rfl,h.mono hd⟩
 unfold unkl
 rw [dif_pos hx]
 exact (kl_inj (h.mono hd) (Nat.le_refl _) hx.choose_spec.2 (Nat.le_refl _) hx.choose_spec.1).symm
structure PolM (d : Nat) (D : DU) (P : Pl) : Prop where
 tidy : Tidy D
 keys : ∀ l,has D l=true → ∃ e,l=kl e∧K7 d e
 sum : ∀ g : List Int→Int,Cg (SmD D fun l=>g (unkl l)) (Ev P g)
 nz : ∀ l,has D l=true → ∀ z,D.atKey l z ≠ .lit (.int .i64 0)
theorem PolM.empty (d : Nat) : PolM d (.map []) []:=⟨tidy_empty,fun l h=>by simp [has] at h,fun g=>Cg.refl _,fun l h=>by simp [has] at h⟩
theorem PolM.mono {d d' : Nat} {D : DU} {P : Pl} (h : PolM d D P) (hd : d≤d') : PolM d' D P :=
 ⟨h.tidy,fun l hl=>by obtain ⟨e,h1,h2⟩:=h.keys l hl;exact ⟨e,h1,h2.mono hd⟩,h.sum,h.nz⟩
theorem kl_lit (e : List Int) : WideAt.IsKeyLit (kl e):=trivial
def addD (D : DU) (k : Lit) (s : Int) : DU:=if s=0 then (D.put k (.lit (.int .i64 s))).del k else D.put k (.lit (.int .i64 s))
theorem PolM.add {d : Nat} {D : DU} {P : Pl} (h : PolM d D P) (hd : d≤1000000) {e : List Int} (he : K7 d e) {c0 c s : Int}
 (hat : D.atKey (kl e) (.lit (.int .i64 0))=.lit (.int .i64 c0)) (hs : Cg s (c0+c)) : PolM d (addD D (kl e) s) (P ++ [(e,c)]):=by
 have ht:=h.tidy.put (kl_lit e) (.lit (.int .i64 s))
 have hput : ∀ l,has (D.put (kl e) (.lit (.int .i64 s))) l=true → ∃ e',l=kl e'∧K7 d e':=fun l hl=>by
  by_cases hk : l=kl e
  ·exact ⟨e,hk,he⟩
  ·rw [has_put_other hk] at hl
   exact h.keys l hl
 have hsum : ∀ g : List Int→Int,Cg (SmD (addD D (kl e) s) fun l=>g (unkl l)) (Ev (P ++ [(e,c)]) g):=fun g=>by
  have a:=SmD_del h.tidy (kl_lit e) (fun l=>g (unkl l))
  have b:=SmD_put h.tidy (k:=kl e) (fun l=>g (unkl l)) (.lit (.int .i64 s))
  have b2:=del_put h.tidy (kl_lit e) (fun l=>g (unkl l)) (.lit (.int .i64 s))
  have e1 : (SmD (addD D (kl e) s) fun l=>g (unkl l))=(SmD (D.del (kl e)) fun l=>g (unkl l))+s * g e:=by
   unfold addD
   split
   ·rename_i h0
    rw [b2,h0];simp
   ·rw [b];simp only [coef,unkl_kl he hd]
  rw [e1,Ev_append]
  rw [hat] at a
  simp only [coef,unkl_kl he hd] at a
  have hsm:=h.sum g
  rw [a] at hsm
  have h1 : Cg (s * g e) (c0 * g e+c * g e):=by rw [← Int.add_mul];exact hs.mul (Cg.refl _)
  have h2:=(Cg.refl (SmD (D.del (kl e)) fun l=>g (unkl l))).add h1
  have h3:=hsm.add (Cg.refl (c * g e))
  refine h2.trans ?_
  rw [← Int.add_assoc]
  simpa [Ev] using h3
 unfold addD at hsum ⊢
 split at hsum
 ·rename_i h0
  rw [if_pos h0]
  refine ⟨ht.del _,fun l hl=> ?_,hsum,fun l hl z=> ?_⟩
  ·by_cases hk : l=kl e
   ·exact ⟨e,hk,he⟩
   ·rw [has_del_other hk] at hl
    exact hput l hl
  ·by_cases hk : l=kl e
   ·rw [hk,has_del_same] at hl;cases hl
   ·rw [has_del_other hk,has_put_other hk] at hl
    rw [atKey_del_other hk,atKey_put_other hk]
    exact h.nz l hl z
 ·rename_i h0
  rw [if_neg h0]
  refine ⟨ht,hput,hsum,fun l hl z=> ?_⟩
  by_cases hk : l=kl e
  ·rw [hk,atKey_put_same h.tidy.isMap (kl_lit e)]
   intro e2
   injection e2 with e2
   injection e2 with _ e2
   exact h0 e2
  ·rw [has_put_other hk] at hl
   rw [atKey_put_other hk]
   exact h.nz l hl z
end
section
open Go.RowKit Go.Maps Go.WideMaps Go.WideElems Go.MapKept Go.ChangeMaps Go.ChangeShapes
section
variable {H : Type} {P : Program} {w : World} {t k e : TypeId} {R : Value→Option (DataW H × List MemPlace)} {b : Nat} {es : Array MapEntry} {clock : Nat}
theorem entry_es (K : KeyLaw P k) (ht : P.underlying t=some (.map k e)) {z : Value} (hz : ∀ u : World,(zeroValue e).run P u=.ok z u) (hb : w.heap[b]?=some (.map es clock)) (F : Fit P k R es clock)
 {key : Value} {kl : Lit} (hkey : keyOf P k key=some kl) {v0 : Value} {st : Nat} {es1 : Array MapEntry} {clock1 : Nat}
 (hrun : (Instr.mapEntry t (.map (some b)) key).run P w=.ok (.tuple #[v0,goInt st]) (setBlock w b (.map es1 clock1))) :
 (es1=es ∧ ∃ e0 ∈ es.toList,e0.key=key∧v0=e0.val) ∨ (es1=es.push ⟨key,z,clock⟩∧v0=z ∧ ∀ x ∈ es.toList,x.key ≠ key):=by
 have hs : ∀ {es' : Array MapEntry} {c' : Nat},setBlock w b (.map es1 clock1)=setBlock w b (.map es' c')→es1=es':=fun h=>by
  have h1:=heap_setBlock_same hb (.map es1 clock1)
  rw [h,heap_setBlock_same hb] at h1
  injection h1 with h1
  injection h1 with h1 _
  exact h1.symm
 rcases K.find w hkey es.toList F.keys with ⟨h1,h2⟩ | ⟨j,e0,h1,h2,h3⟩
 ·have e1 : (Instr.mapEntry t (.map (some b)) key).run P w=.ok (.tuple #[z,goInt clock]) (setBlock w b (.map (es.push ⟨key,z,clock⟩) (clock+1))):=by
   simp [Instr.mapEntry,run_underlying ht,MapKept.run_getObj_map hb,K.check w false hkey,h1,hz,MapKept.run_setObj_map _ hb,Result.andThen,setBlock]
  rw [e1] at hrun
  injection hrun with hv hw
  injection hv with hv
  have : z=v0:=by
   have:=congrArg (fun a=>a[0]?) hv
   simpa using this
  exact .inr ⟨hs hw.symm,this.symm,h2⟩
 ·have hj : es[j]?=some e0:=by simpa using h2
  have e1 : (Instr.mapEntry t (.map (some b)) key).run P w=.ok (.tuple #[e0.val,goInt e0.born]) (setBlock w b (.map (es.modify j fun e=> { e with key:=key }) clock)):=by
   simp [Instr.mapEntry,run_underlying ht,MapKept.run_getObj_map hb,K.check w false hkey,h1,hj,h3,K.stays w hkey,MapKept.run_setObj_map _ hb,Result.andThen,setBlock]
  have hsame : es.modify j (fun e=> { e with key:=key })=es:=by
   apply Array.ext'
   rw [Array.toList_modify,modify_eq_set _ _ _ _ h2]
   have : ({ e0 with key:=key } : MapEntry)=e0:=by rw [← h3]
   rw [this]
   exact set_self _ _ _ h2
  rw [e1,hsame] at hrun
  injection hrun with hv hw
  injection hv with hv
  have : e0.val=v0:=by
   have:=congrArg (fun a=>a[0]?) hv
   simpa using this
  exact .inl ⟨hs hw.symm,e0,List.mem_of_getElem? h2,h3,this.symm⟩
theorem look_at (K : KeyLaw P k) (ht : P.underlying t=some (.map k e)) {u : World} (hb : u.heap[b]?=some (.map es clock)) (hks : ∀ x ∈ es.toList,∃ l,keyOf P k x.key=some l)
 {key : Value} {kl : Lit} (hkey : keyOf P k key=some kl) {v0 : Value} (hv : ∀ x ∈ es.toList,x.key=key→x.val=v0) (hex : ∃ x ∈ es.toList,x.key=key) :
 (Instr.lookup t (.map (some b)) key false).run P u=.ok v0 u:=by
 rcases K.find u hkey es.toList hks with ⟨h1,h2⟩ | ⟨j,e0,h1,h2,h3⟩
 ·obtain ⟨x,hx,hxk⟩:=hex
  exact absurd hxk (h2 x hx)
 ·have e1:=hv e0 (List.mem_of_getElem? h2) h3
  simp [Instr.lookup,run_underlying ht,MapKept.run_getObj_map hb,K.check u _ hkey,h1,e1,Result.andThen]
theorem entry_look (K : KeyLaw P k) (ht : P.underlying t=some (.map k e)) {z : Value} (hz : ∀ u : World,(zeroValue e).run P u=.ok z u) (hb : w.heap[b]?=some (.map es clock)) (F : Fit P k R es clock)
 {key : Value} {kl : Lit} (hkey : keyOf P k key=some kl) {v0 : Value} {st : Nat} {es1 : Array MapEntry} {clock1 : Nat}
 (hrun : (Instr.mapEntry t (.map (some b)) key).run P w=.ok (.tuple #[v0,goInt st]) (setBlock w b (.map es1 clock1))) :
 (Instr.lookup t (.map (some b)) key false).run P (setBlock w b (.map es1 clock1))=.ok v0 (setBlock w b (.map es1 clock1))∧(Instr.lookup t (.map (some b)) key false).run P w=.ok v0 w:=by
 have hne : es.toList.Pairwise (fun x y=>x.key ≠ y.key):=((stamped_iff es clock).1 F.stamped).2.2
 rcases entry_es K ht hz hb F hkey hrun with ⟨rfl,e0,he,hk,rfl⟩ | ⟨rfl,rfl,h2⟩
 ·have hall : ∀ x ∈ es1.toList,x.key=key→x.val=e0.val:=fun x hx hxk=>by rw [entry_eq_of_key hne hx he (hxk.trans hk.symm)]
  exact ⟨look_at K ht (heap_setBlock_same hb _) F.keys hkey hall ⟨e0,he,hk⟩,look_at K ht hb F.keys hkey hall ⟨e0,he,hk⟩⟩
 ·refine ⟨look_at K ht (heap_setBlock_same hb _) (fun x hx=> ?_) hkey (fun x hx hxk=> ?_) ⟨⟨key,v0,clock⟩,by simp,rfl⟩,?_⟩
  ·simp only [Array.toList_push,List.mem_append,List.mem_singleton] at hx
   rcases hx with hx | rfl
   ·exact F.keys x hx
   ·exact ⟨kl,hkey⟩
  ·simp only [Array.toList_push,List.mem_append,List.mem_singleton] at hx
   rcases hx with hx | rfl
   ·exact absurd hxk (h2 x hx)
   ·rfl
  ·rcases K.find w hkey es.toList F.keys with ⟨h1,_⟩ | ⟨j,e0,_,h3,h4⟩
   ·simp [Instr.lookup,run_underlying ht,MapKept.run_getObj_map hb,K.check w _ hkey,h1,hz,Result.andThen]
   ·exact absurd h4 (h2 e0 (List.mem_of_getElem? h3))
end
end
end Go.Proofs.YtincaodpjdeoeaaGreatDoor
