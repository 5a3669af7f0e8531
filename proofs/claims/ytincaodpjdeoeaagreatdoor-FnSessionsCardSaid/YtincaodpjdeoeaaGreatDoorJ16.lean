/-
  A part of the proof of FnSessions (texts of one proof, joined).
-/
import Derived.Test.YtincaodpjdeoeaaGreatDoorJ15
namespace Go.Proofs.YtincaodpjdeoeaaGreatDoor
set_option linter.all false
set_option maxRecDepth 100000
set_option maxHeartbeats 16000000
section
open Go.RowKit Go.Lib
def LayC (wB : World) (lo lo2 bo rows : Nat) (most : Int) (f : Nat) : Prop :=
 ∀ (sh ct old : List Int) (r left : Nat) (u : Option (List Int)) (put : List Int) (cs : List Cls) (m : Nat) (w : World) (vs vc vo vu vp : Value),LayP rows most sh ct old r left u put→ct.length * (rows+1)≤f+r →
   Env wB lo lo2 bo cs m w→IntsK wB.heap.size w vs sh→IntsK wB.heap.size w vc ct→IntsK wB.heap.size w vo old→UnR wB.heap.size w vu u→IntsK wB.heap.size w vp put →
   m+(layL most f sh ct old r left u put).length < 1000 →
   Calls Tryz.prog 79 #[vs,vc,vo,.int .i64 (r : Int),.int .i64 (left : Int),vu,vp,.int .i64 most,.func (.func 74) #[] #[.pointer (some ⟨bo,0,none⟩)]] w fun e w' =>
    e=.returned (.tuple #[])∧Env wB lo lo2 bo (cntL (layL most f sh ct old r left u put) cs) (m+(layL most f sh ct old r left u put).length) w'∧FrX lo (fun k=>k=bo) w w'
theorem fill_set {xs : List Int} {n k : Nat} (hl : xs.length=n) (hk : k < n) : (xs.take k ++ List.replicate (n - k) 0).set k (xs.getD k 0)=xs.take (k+1) ++ List.replicate (n - (k+1)) 0:=by
 have h1 : (xs.take k).length=k:=by simp;omega
 rw [List.set_append_right _ _ (by omega),h1,Nat.sub_self]
 obtain ⟨d,hd⟩ : ∃ d,n - k=d+1:=⟨n - k - 1,by omega⟩
 have h2 : xs.take (k+1)=xs.take k ++ [xs.getD k 0]:=by
  rw [List.take_add_one,List.getElem?_eq_getElem (by omega)]
  simp [List.getD_eq_getElem?_getD,List.getElem?_eq_getElem (show k < xs.length by omega)]
 rw [hd,show n - (k+1)=d by omega,List.replicate_succ,List.set_cons_zero,h2,List.append_assoc]
 rfl
theorem blkF_drew {w : World} {k : Nat} {o : Obj} (h : w.heap[k]?=some o) : w.drew.heap[k]?=some o:=h
theorem belF_al {a w : World} {B : Nat} (h : Below B a w) (hB : B≤a.heap.size) (o : Obj) : Below B a (w.alloc o):=h.trans ((below_alloc w o).mono (Nat.le_trans hB h.size))
theorem keepB {a : Addr} {v : Value} {w0 w w' : World} (hb : Below w.heap.size w w') (h : w.cell? a=some v∧Below w0.heap.size w0 w) : w'.cell? a=some v∧Below w0.heap.size w0 w':=⟨cell_below hb h.1,h.2.trans (hb.mono h.2.size)⟩
section
variable {wB : World} {lo lo2 bo rows : Nat} {most : Int}
theorem lay_see (sh old : List Int) (c0 : Int) (u : Option (List Int)) (put : List Int) (cs : List Cls) (m : Nat) (w : World) (vs vc vo vu vp : Value) (h16 : sh.length≤16) (hE : Env wB lo lo2 bo cs m w) (hs : IntsK wB.heap.size w vs sh) (hc : IntsK wB.heap.size w vc [c0]) (hm : m+1 < 1000) :
 Calls Tryz.prog 79 #[vs,vc,vo,.int .i64 (sh.length : Int),.int .i64 0,vu,vp,.int .i64 most,.func (.func 74) #[] #[.pointer (some ⟨bo,0,none⟩)]] w fun e w' =>
  e=.returned (.tuple #[])∧Env wB lo lo2 bo (cntL [sh] cs) (m+1) w'∧FrX lo (fun k=>k=bo) w w':=by
 have HS:=Lib.hid (seeF_any wB lo lo2 bo m vs sh cs w hE hs.ints (by omega) (by omega))
 obtain ⟨ps,ks,rfl,_,_⟩:=hs.shape
 obtain ⟨pc,kc,rfl,_,_⟩:=hc.shape
 rw [show [c0].length=1 from rfl]
 obtain ⟨n,hn⟩ : ∃ n,n=sh.length:=⟨_,rfl⟩
 rw [← hn] at HS ⊢
 clear hE hs hc hm hn h16
 go_enter Tryz.func79,Tryz.ntmps79
 go_wp2_with fail
 refine HS.out.mono ?_
 rintro e w1 ⟨rfl,hE1,hF1⟩
 have HE1:=Lib.hid hE1
 have HF1:=Lib.hid hF1
 clear hE1 hF1
 go_wp2_with fail
 (try simp only [Exit.inBlock,Exit.then])
 refine bodyPost_ret (results_none rfl _ _ _) rfl ?_
 exact ⟨rfl,HE1.out,HF1.out⟩
theorem lay_left (left n : Nat) (hl : 0 < left) (vc vo vu vp : Value) (ps : Option Addr) (ks : Nat) (w : World) (hl2 : left≤1000) (hn : n≤16) :
 Calls Tryz.prog 79 #[.slice ps n ks,vc,vo,.int .i64 (n : Int),.int .i64 (left : Int),vu,vp,.int .i64 most,.func (.func 74) #[] #[.pointer (some ⟨bo,0,none⟩)]] w fun e w' =>
  e=.returned (.tuple #[])∧w'=w:=by
 have hl3 : (0 : Int) < (left : Int):=by omega
 go_enter Tryz.func79,Tryz.ntmps79
 go_wp2_with fail
 (try simp only [Exit.inBlock,Exit.then])
 refine bodyPost_ret (results_none rfl _ _ _) rfl ?_
 exact ⟨rfl,rfl⟩
theorem lay_up (f : Nat) (ih : LayC wB lo lo2 bo rows most f) (sh old : List Int) (c0 c1 : Int) (cs' : List Int) (u : Option (List Int)) (put : List Int) (cs : List Cls) (m : Nat) (w : World) (vs vc vo vu vp : Value) (hP : LayP rows most sh (c0 :: c1 :: cs') old rows 0 u put) (hf : (c0 :: c1 :: cs').length * (rows+1)≤f+1+rows)
 (hE : Env wB lo lo2 bo cs m w) (hs : IntsK wB.heap.size w vs sh) (hc : IntsK wB.heap.size w vc (c0 :: c1 :: cs')) (hp : IntsK wB.heap.size w vp put) (hm : m+(layL most f sh (c1 :: cs') sh 0 c1.toNat (some (prefL put)) (List.replicate rows 0)).length < 1000) :
 Calls Tryz.prog 79 #[vs,vc,vo,.int .i64 (rows : Int),.int .i64 0,vu,vp,.int .i64 most,.func (.func 74) #[] #[.pointer (some ⟨bo,0,none⟩)]] w fun e w' =>
  e=.returned (.tuple #[])∧Env wB lo lo2 bo (cntL (layL most f sh (c1 :: cs') sh 0 c1.toNat (some (prefL put)) (List.replicate rows 0)) cs) (m+(layL most f sh (c1 :: cs') sh 0 c1.toNat (some (prefL put)) (List.replicate rows 0)).length) w'∧FrX lo (fun k=>k=bo) w w':=by
 have hls:=hP.ls
 have hlp:=hP.lp
 have h16:=hP.r16
 have hcb:=hP.bc 1 (by simp)
 have hc1 : 0≤c1∧c1≤1000:=by simpa using hcb
 have hU:=hP.up
 obtain ⟨O,hO⟩ : ∃ O : Obj,O=.cells (madeCells #[Value.int .i64 0] rows) 3:=⟨_,rfl⟩
 have hmk:=run_make_row' (P:=Tryz.prog) 24 3 (.int .i64 0) 8 Tryz.underlying24 info_int rfl .i64 .i64 rows (by omega) (by omega)
 rw [← hO] at hmk
 have hOz : O=.cells (ivs (List.replicate rows 0)).toArray 3:=by rw [hO,madeF_zeros]
 obtain ⟨n0,hn0⟩ : ∃ n0,n0=w.heap.size:=⟨_,rfl⟩
 have HC:=Lib.hid (show ∀ (WX : World) (vo' vn : Value) (gz : Nat) (cp : Nat) (pc : Value),Below w.heap.size w WX→IntsK wB.heap.size WX vo' sh→IntsK wB.heap.size WX pc (c1 :: cs')→UnR wB.heap.size WX vn (some (prefL put))→WX.heap[gz]?=some O →
  Calls Tryz.prog 79 #[vs,pc,vo',.int .i64 0,.int .i64 c1,vn,.slice (some ⟨gz,0,none⟩) rows rows,.int .i64 most,.func (.func 74) #[] #[.pointer (some ⟨bo,0,none⟩)]] WX fun e w' =>
   e=.returned (.tuple #[])∧Env wB lo lo2 bo (cntL (layL most f sh (c1 :: cs') sh 0 c1.toNat (some (prefL put)) (List.replicate rows 0)) cs) (m+(layL most f sh (c1 :: cs') sh 0 c1.toNat (some (prefL put)) (List.replicate rows 0)).length) w'∧FrX lo (fun k=>k=bo) w w' from fun WX vo' vn gz cp pc hb h1 h2 h3 h4=>by
  have hz : Arr WX gz (List.replicate rows 0):=by unfold Arr;rw [h4,hOz]
  have hzI:=IntsK.of_arr (B:=wB.heap.size) hz (by rw [List.length_replicate];unfold maxLen;omega)
  rw [List.length_replicate] at hzI
  have:=ih sh (c1 :: cs') sh 0 c1.toNat (some (prefL put)) (List.replicate rows 0) cs m WX vs pc vo' vn (.slice (some ⟨gz,0,none⟩) rows rows) hU (by
   simp only [List.length_cons] at hf ⊢
   have e1:=Nat.add_mul (cs'.length+1) 1 (rows+1)
   omega) (hE.below hb) (hs.below hb) h2 h1 h3 hzI hm
  rw [Int.toNat_of_nonneg hc1.1] at this
  exact this.mono fun e w' ⟨he,hE',hF⟩=>⟨he,hE',(FrX.of_below hb).trans hF⟩)
 have hpo:=hP.putOk
 have hsum:=fun k (hk : k≤rows)=>sumTo2_bnd (fun i hi=>hP.bp i hi) k hk
 have HSum:=Lib.hid hsum
 have Hbp:=Lib.hid hP.bp
 have hE0:=Lib.hid hE
 have Hs:=Lib.hid hs
 have Hc:=Lib.hid hc
 have Hp:=Lib.hid hp
 have Hlp:=Lib.hid hlp
 have Hls:=Lib.hid hls
 obtain ⟨ps,ks,rfl,_,_⟩:=hs.shape
 obtain ⟨pc,kc,rfl,hck1,hck2⟩:=hc.shape
 obtain ⟨pp,kp,rfl,_,_⟩:=hp.shape
 rw [hls] at HC ⊢
 rw [hlp] at ⊢
 obtain ⟨nc,hnc⟩ : ∃ nc,nc=(c0 :: c1 :: cs').length:=⟨_,rfl⟩
 rw [← hnc] at hck1 ⊢
 have hnc1 : ((nc : Int) == 1)=false:=by simp at hnc ⊢;omega
 have Hnc:=Lib.hid hnc
 have Hmk:=Lib.hid hmk
 have HO:=Lib.hid hOz
 clear hE hs hc hp hm hP hU hpo hsum hls hlp hnc hO hOz hf ih hn0
 go_enter Tryz.func79,Tryz.ntmps79
 have hmk:=Hmk.out
 go_wp2_with fail
 have Hb0:=Lib.hid (below_alloc w O)
 have Hz0:=Lib.hid (show Arr (w.alloc O) w.heap.size (List.replicate rows 0) by rw [HO.out];exact heap_alloc_top _ _)
 obtain ⟨gz,hgz⟩ : ∃ gz,gz=w.heap.size:=⟨_,rfl⟩
 rw [← hgz] at Hz0 Hb0 ⊢
 have Hgz:=Lib.hid hgz
 clear hgz
 go_loopg [19,20,21,43] rows (fun g s19 s20 s21 s43 wr=> ∃ k : Nat,k≤rows∧g=rows - k∧s43=.int .i64 (k : Int)∧s19=.int .i64 (sumTo2 put k)∧Hid (Below gz w wr)∧Hid (Arr wr gz ((prefL put).take k ++ List.replicate (rows - k) 0)))
 case atStart=>exact ⟨0,Nat.zero_le _,rfl,rfl,rfl,Hb0,by rw [List.take_zero,List.nil_append,Nat.sub_zero];exact Hz0⟩
 case round =>
  obtain ⟨k,hk,rfl,rfl,rfl,hb,ha⟩:=hrel
  obtain ⟨wo,rfl⟩ : ∃ x : World,x=wr:=⟨_,rfl⟩
  by_cases hlt : k < rows
  ·have hkr : (k : Int) < (rows : Int):=by omega
   obtain ⟨_,_,e,_,hcp⟩:=Hp.out.ints
   injection e with e1 e2 e3
   subst e1 e3
   obtain ⟨bp,op,rfl,hcq⟩:=hcp (by rw [Hlp.out];omega)
   have hbw : Below w.heap.size w wo:=by rw [← Hgz.out];exact hb.out
   have c1:=cell_below hbw (hcq k (by rw [Hlp.out];exact hlt))
   have hbk:=Hbp.out k hlt
   obtain ⟨x,hx⟩ : ∃ x,x=put.getD k 0:=⟨_,rfl⟩
   unfold iv at c1
   rw [← hx] at c1 hbk
   obtain ⟨z,hz⟩ : ∃ z,z=sumTo2 put k:=⟨_,rfl⟩
   have hzb:=HSum.out k hk
   rw [← hz] at hzb ⊢
   have Hsz:=Lib.hid (show sumTo2 put (k+1)=z+x by rw [sumTo2,hz,hx])
   have Hz:=Lib.hid hz
   obtain ⟨x0,hx0⟩:=(show ∃ x0,((prefL put).take k ++ List.replicate (rows - k) 0).getD k 0=x0 from ⟨_,rfl⟩)
   have hal : ((prefL put).take k ++ List.replicate (rows - k) 0).length=rows:=by simp [prefL_len,Hlp.out];omega
   have c2:=ha.out.cell (j:=k) (by omega)
   have c2f:=ha.out.free k
   have hset:=ha.out.set k z
   rw [show z=(prefL put).getD k 0 by rw [prefL_getD (by rw [Hlp.out];exact hlt),hz],fill_set (by rw [prefL_len,Hlp.out]) hlt,show (prefL put).getD k 0=z by rw [prefL_getD (by rw [Hlp.out];exact hlt),hz]] at hset
   have Hset:=Lib.hid hset
   have Hb1:=Lib.hid (hb.out.setCell (p:=⟨gz,k,none⟩) (Nat.le_refl _) (.int .i64 z))
   have hk16 : (k : Int) * 1000≤16000:=by omega
   clear hcp hcq hx hz hx0 hal hset hbw hb ha e2
   go_wp2_with fail
   go_roundg (rows - (k+1))
   case measure=>omega
   case rel=>exact ⟨k+1,by omega,rfl,by go_num,by rw [Hsz.out],Hb1,Hset⟩
  ·obtain rfl : k=rows:=by omega
   rw [Nat.sub_self,List.replicate_zero,List.append_nil,List.take_of_length_le (by rw [prefL_len,Hlp.out];exact Nat.le_refl _)] at ha
   obtain ⟨_,_,e,_,hcp⟩:=Hc.out.ints
   injection e with e1 e2 e3
   subst e1 e3
   obtain ⟨bc,oc,rfl,hcq⟩:=hcp (by simp)
   have hbw : Below w.heap.size w wo:=by rw [← Hgz.out];exact hb.out
   have c1':=cell_below hbw (hcq 1 (by simp))
   have hi1 : iv (c0 :: c1 :: cs') 1=.int .i64 c1:=rfl
   rw [hi1] at c1'
   have hc1b : (1 : Int) < (nc : Int):=by have:=Hnc.out;simp at this;omega
   have hs1 : (1 : Int)≤(nc : Int):=by omega
   have hs2 : (nc : Int)≤(kc : Int):=by omega
   have hcz : kc ≠ 1:=by have:=Hnc.out;simp at this;omega
   have HCl:=Lib.hid (show ∀ wx,Below wo.heap.size wo wx→Calls Tryz.prog 38 #[.slice ps k ks] wx fun e w'=> ∃ u,e=.returned u∧IntsK wB.heap.size w' u sh∧Below wx.heap.size wx w'∧Below wo.heap.size wo w' from fun wx hx=>by
    have h:=clone_any (.slice ps sh.length ks) sh wx ((Hs.out.below hbw).below hx).ints (by rw [Hls.out];omega)
    rw [Hls.out] at h
    exact h.mono fun e w' ⟨u,he,ho,hb⟩=>⟨u,he,.of_own ho,hb,hx.trans (hb.mono hx.size)⟩)
   have HK:=Lib.hid (show ∀ w',FrX lo (fun k=>k=bo) w w'→w'.cell? ⟨bc,oc+1,none⟩=some (.int .i64 c1) from fun w' hF=>by
    obtain ⟨_,_,e,_,hcp⟩:=Hc.out.frx hF hE0.out.wb_lo hE0.out.wb_le (by obtain ⟨u,hu,_⟩:=hE0.out.out;exact ⟨_,_,hu⟩)
    injection e with e1 e2 e3
    obtain ⟨b',o',e4,_,hcq⟩:=hcp (by simp)
    rw [← e1] at e4
    injection e4 with e4
    injection e4 with e5 e6
    have:=hcq 1 (by simp)
    rw [← e5,← e6] at this
    exact this)
   have HL:=Lib.hid (show ∀ (WX : World) (vo' : Value) (g' : Nat),Below wo.heap.size wo WX→IntsK wB.heap.size WX vo' sh→WX.heap[g']?=some O→Calls Tryz.prog 79 #[.slice ps k ks,.slice (some ⟨bc,oc+1,none⟩) (nc - 1) (kc - 1),vo',.int .i64 0,.int .i64 c1,.slice (some ⟨gz,0,none⟩) k k,.slice (some ⟨g',0,none⟩) k k,.int .i64 most,.func (.func 74) #[] #[.pointer (some ⟨bo,0,none⟩)]] WX fun e w' =>
    e=.returned (.tuple #[])∧Env wB lo lo2 bo (cntL (layL most f sh (c1 :: cs') sh 0 c1.toNat (some (prefL put)) (List.replicate k 0)) cs) (m+(layL most f sh (c1 :: cs') sh 0 c1.toNat (some (prefL put)) (List.replicate k 0)).length) w'∧FrX lo (fun k=>k=bo) w w'∧w'.cell? ⟨bc,oc+1,none⟩=some (.int .i64 c1) from fun WX vo' g' hw h1 h4 =>
    Calls.mono (HC.out WX vo' _ g' 0 _ (hbw.trans (hw.mono hbw.size)) h1 (by
     have h:=((Hc.out.below hbw).below hw)
     rw [Hnc.out]
     exact IntsK.drop1 h) (by
     have h:=IntsK.of_arr (B:=wB.heap.size) (ha.out.below hw) (by rw [prefL_len,Hlp.out];unfold maxLen;omega)
     rw [prefL_len,Hlp.out] at h
     exact ⟨h,_,_,_,rfl⟩) h4) fun e w' ⟨he,hE',hF⟩=>⟨he,hE',hF,HK.out w' hF⟩)
   clear e2 hcp hcq hb ha
   go_wp2_with fail
   go_region_held3 (fun w'=>w'.cell? ⟨bc,oc+1,none⟩=some (.int .i64 c1))
    (first | with_reducible assumption | exact c1' | exact cell_below (below_alloc _ _) (by assumption) | exact cell_below bC (by assumption) | exact hS9)
    (first
      | (go_at_call 38;with_reducible refine Calls.mono (HCl.out _ (by (repeat (first | assumption | with_reducible refine Below.drew ?_ | with_reducible refine belF_al ?_ (Nat.le_refl _) _ | exact Below.refl _ _)))) ?_;rintro e wC ⟨uC,rfl,oC,bC,bC2⟩)
      | (go_at_call 79;with_reducible refine Calls.mono (HL.out _ _ _ (by (repeat (first | assumption | with_reducible refine Below.drew ?_ | with_reducible refine belF_al ?_ (Nat.le_refl _) _ | exact Below.refl _ _))) (by first | exact oC | exact oC.below (below_alloc _ _)) (by (repeat (first | with_reducible exact heap_alloc_top _ _ | with_reducible refine blk_later ?_ bC | with_reducible refine blkF_drew ?_)))) ?_;rintro e w9 ⟨rfl,hE9,hF9,hS9⟩))
   all_goals
    go_wp2_with fail
    (try simp only [Exit.inBlock,Exit.then])
    refine bodyPost_ret (results_none rfl _ _ _) rfl ?_
    exact ⟨rfl,hE9,hF9⟩
end
theorem OwnI.setF {T : TypeId} {w : World} {lo hi g n cap t : Nat} {D : List Int} (h : OwnI T w lo hi (.slice (some ⟨g,0,none⟩) n cap) D) (ht : t < D.length) (x : Int) : OwnI T (w.setCell ⟨g,t,none⟩ (.int .i64 x)) lo hi (.slice (some ⟨g,0,none⟩) n cap) (D.set t x):=by
 refine OwnF.ints ?_
 rw [List.length_set]
 refine (h.fn.set t _).congr fun j hj=> ?_
 unfold iv
 by_cases e : j=t
 ·subst e;simp [List.getD_eq_getElem?_getD,ht]
 ·simp [e,List.getD_eq_getElem?_getD,List.getElem?_set_ne (fun h=>e h.symm)]
theorem OwnI.head {T : TypeId} {w : World} {lo hi : Nat} {v : Value} {xs : List Int} (h : OwnI T w lo hi v xs) (h0 : 0 < xs.length) : ∃ g cap,v=.slice (some ⟨g,0,none⟩) xs.length cap∧xs.length≤cap∧cap≤maxLen∧lo≤g∧g < hi ∧ ∀ j,w.frozen? ⟨g,j,none⟩=false:=by
 rcases h.1.2 with ⟨e,_⟩ | ⟨g,cap,cur,e,hl,hz,h1,h2,_⟩
 ·obtain ⟨p,c,e2,_⟩:=h.ints
  rw [e] at e2
  injection e2 with _ e3
  omega
 ·exact ⟨g,cap,e,h1,h2,hl,h.2 g (by rw [e];rfl),fun j=>free_of_blk hz j⟩
theorem OwnI.cellF {T : TypeId} {w : World} {lo hi g n cap : Nat} {xs : List Int} (h : OwnI T w lo hi (.slice (some ⟨g,0,none⟩) n cap) xs) {j : Nat} (hj : j < xs.length) : w.cell? ⟨g,j,none⟩=some (.int .i64 (xs.getD j 0)):=by
 obtain ⟨p,c,e,_,hc⟩:=h.ints
 obtain ⟨b,o,e2,hq⟩:=hc (by omega)
 injection e with e3
 rw [← e3] at e2
 injection e2 with e2
 injection e2 with e4 e5
 have:=hq j hj
 rw [← e4,← e5,Nat.zero_add] at this
 exact this
def unBad (u : Option (List Int)) (r : Nat) (x : Int) : Bool:=match u with
 | none=>false
 | some l=>decide (l.getD r 0 < x)
theorem unBad_some (l : List Int) (r : Nat) (x : Int) : unBad (some l) r x=decide (l.getD r 0 < x):=rfl
theorem layOk_not (old : List Int) (most : Int) (u : Option (List Int)) (put : List Int) (r k : Nat) : (!layOk old most u put r k)=((decide (0 < r) && decide (old.getD (r - 1) 0 < old.getD r 0+(k : Int))) || decide (most < old.getD r 0+(k : Int)) || unBad u r (sumI (put.take r)+(k : Int))):=by
 unfold layOk
 rw [Bool.not_not]
 cases u <;> rfl
section
variable {wB : World} {lo lo2 bo rows : Nat} {most : Int}
theorem lay_row (f : Nat) (ih : LayC wB lo lo2 bo rows most f) (sh ct old : List Int) (r left : Nat) (u : Option (List Int)) (put : List Int) (cs : List Cls) (m : Nat) (w : World) (vs vc vo vu vp : Value) (hP : LayP rows most sh ct old r left u put) (hr : r < rows) (hf : ct.length * (rows+1)≤f+1+r)
 (hE : Env wB lo lo2 bo cs m w) (hs : IntsK wB.heap.size w vs sh) (hc : IntsK wB.heap.size w vc ct) (ho : IntsK wB.heap.size w vo old) (hu : UnR wB.heap.size w vu u) (hp : IntsK wB.heap.size w vp put)
 (M : Nat) (hM1 : M≤left+1) (hM2 : ∀ j,j < M→layOk old most u put r j=true) (hM3 : M=left+1 ∨ layOk old most u put r M=false) (hm : m+(upTo (rowL most f sh ct old r left u put) M).length < 1000) :
 Calls Tryz.prog 79 #[vs,vc,vo,.int .i64 (r : Int),.int .i64 (left : Int),vu,vp,.int .i64 most,.func (.func 74) #[] #[.pointer (some ⟨bo,0,none⟩)]] w fun e w' =>
  e=.returned (.tuple #[])∧Env wB lo lo2 bo (cntL (upTo (rowL most f sh ct old r left u put) M) cs) (m+(upTo (rowL most f sh ct old r left u put) M).length) w'∧FrX lo (fun k=>k=bo) w w':=by
 obtain ⟨F,hF⟩ : ∃ F,F=rowL most f sh ct old r left u put:=⟨_,rfl⟩
 rw [← hF] at hm ⊢
 have hls:=hP.ls
 have hlo:=hP.lo
 have hlp:=hP.lp
 have h16:=hP.r16
 have hbl:=hP.bl
 have hbm:=hP.bm
 have hkeep:=hE.out
 have HN:=Lib.hid (show ∀ (k : Nat) (wo WX : World) (us up : Value),k < M→k≤left→Env wB lo lo2 bo (cntL (upTo F k) cs) (m+(upTo F k).length) wo→FrX lo (fun k=>k=bo) w wo→Below wo.heap.size wo WX→IntsK wB.heap.size WX us (sh.set r (sh.getD r 0+(k : Int)))→IntsK wB.heap.size WX up (put.set r (k : Int)) →
  Calls Tryz.prog 79 #[us,vc,vo,.int .i64 ((r : Int)+1),.int .i64 ((left : Int) - (k : Int)),vu,up,.int .i64 most,.func (.func 74) #[] #[.pointer (some ⟨bo,0,none⟩)]] WX fun e w' =>
   e=.returned (.tuple #[])∧Env wB lo lo2 bo (cntL (upTo F (k+1)) cs) (m+(upTo F (k+1)).length) w'∧FrX lo (fun k=>k=bo) w w' from fun k wo WX us up hkM hkl hEo hFo hb h1 h2=>by
  have hzb : ∃ c fz,w.heap[bo]?=some (.cells c 44 fz):=by obtain ⟨q,e,_⟩:=hE.out;exact ⟨_,_,e⟩
  have hle:=upTo_le F (show k+1≤M from hkM)
  have hup:=upTo_succ F k
  rw [hup,List.length_append] at hle
  have hFk : F k=layL most f (sh.set r (sh.getD r 0+(k : Int))) ct old (r+1) (left - k) u (put.set r (k : Int)):=by rw [hF];rfl
  have:=ih (sh.set r (sh.getD r 0+(k : Int))) ct old (r+1) (left - k) u (put.set r (k : Int)) (cntL (upTo F k) cs) (m+(upTo F k).length) WX us vc vo vu up (hP.next hr hkl (hM2 k hkM)) (by omega) (hEo.below hb) h1
   ((hc.frx hFo hE.wb_lo hE.wb_le hzb).below hb) ((ho.frx hFo hE.wb_lo hE.wb_le hzb).below hb) ((hu.frx hFo hE.wb_lo hE.wb_le hzb).below hb) h2 (by rw [← hFk];omega)
  rw [← hFk,← cntL_append,← hup,Nat.add_assoc,← List.length_append,← hup,show ((left - k : Nat) : Int)=(left : Int) - (k : Int) by omega,show ((r+1 : Nat) : Int)=(r : Int)+1 by omega] at this
  exact this.mono fun e w' ⟨he,hE',hF'⟩=>⟨he,hE',(hFo.trans (FrX.of_below hb)).trans hF'⟩)
 have hput:=hP.putOk
 have hsum:=sumTo2_bnd (fun i hi=>hP.bp i hi) r (by omega)
 have hzb : ∃ c fz,w.heap[bo]?=some (.cells c 44 fz):=by obtain ⟨q,e,_⟩:=hE.out;exact ⟨_,_,e⟩
 have HKs:=Lib.hid (show ∀ wo,FrX lo (fun k=>k=bo) w wo→IntsK wB.heap.size wo vs sh from fun wo h=>hs.frx h hE.wb_lo hE.wb_le hzb)
 have HKo:=Lib.hid (show ∀ wo,FrX lo (fun k=>k=bo) w wo→IntsK wB.heap.size wo vo old from fun wo h=>ho.frx h hE.wb_lo hE.wb_le hzb)
 have HKp:=Lib.hid (show ∀ wo,FrX lo (fun k=>k=bo) w wo→IntsK wB.heap.size wo vp put from fun wo h=>hp.frx h hE.wb_lo hE.wb_le hzb)
 have HKu:=Lib.hid (show ∀ wo,FrX lo (fun k=>k=bo) w wo→UnR wB.heap.size wo vu u from fun wo h=>hu.frx h hE.wb_lo hE.wb_le hzb)
 have HS:=Lib.hid (show ∀ pp kp,vp=.slice pp rows kp→Calls Tryz.prog 81 #[.slice pp r kp] w fun e w'=>e=.returned (.int .i64 (sumTo2 put r))∧Qt w w' from fun pp kp e=>by
  have hi:=hp.ints
  rw [e,← hlp] at hi
  have h:=Ints.take hi r (by omega)
  rw [← sumI_take (by omega)]
  exact sumInts_any _ (put.take r) w h ⟨by rw [List.length_take];have:=hput.1;omega,fun k hk=>by
   rw [List.length_take] at hk
   have:=hput.2 k (by omega)
   rw [show (put.take r).getD k 0=put.getD k 0 by simp [List.getD_eq_getElem?_getD,List.getElem?_take,show k < r by omega]]
   exact this⟩)
 obtain ⟨ps,ks,rfl,hs1,hs2⟩:=hs.shape
 obtain ⟨pc,kc,rfl,_,_⟩:=hc.shape
 obtain ⟨po,ko,rfl,ho1,ho2⟩:=ho.shape
 obtain ⟨pp,kp,rfl,hp1,hp2⟩:=hp.shape
 rw [hls] at HKs hs1 ⊢
 rw [hlo] at HKo ho1 HN ⊢
 rw [hlp] at HKp HS hp1 ⊢
 have HS:=Lib.hid (HS.out pp kp rfl)
 obtain ⟨bf,hbf⟩ : ∃ bf,bf=sumTo2 put r:=⟨_,rfl⟩
 rw [← hbf] at HS hsum
 have Hbf:=Lib.hid hbf
 have hrr : (r : Int) < (rows : Int):=by omega
 have hrz : (r : Int)≤(kp : Int):=by omega
 have hrne : ((r : Int) == (rows : Int))=false:=by simp;omega
 have HE:=Lib.hid hE
 have HP:=Lib.hid hP
 have HM1:=Lib.hid hM1
 have HM2:=Lib.hid hM2
 have HM3:=Lib.hid hM3
 have Hls:=Lib.hid hls
 have Hlo:=Lib.hid hlo
 have Hlp:=Lib.hid hlp
 unfold maxLen at hs2 ho2 hp2
 clear hkeep hput hzb hE hP hs hc ho hu hp hM1 hM2 hM3 hm hF ih hf hls hlo hlp hbf
 go_enter Tryz.func79,Tryz.ntmps79
 go_wp2_with fail
 refine HS.out.mono ?_
 rintro e w1 ⟨rfl,hq1⟩
 have Hq1:=Lib.hid hq1
 clear hq1
 go_wp2_with fail
 go_loopg [23,24,25] (left+1) (fun g s23 s24 s25 wr=> ∃ k : Nat,k≤M∧g=left+1 - k∧s23=.int .i64 (k : Int)∧Hid (Env wB lo lo2 bo (cntL (upTo F k) cs) (m+(upTo F k).length) wr)∧Hid (FrX lo (fun k=>k=bo) w wr))
 case atStart=>exact ⟨0,Nat.zero_le _,rfl,rfl,HE.out.below (Hq1.out.below _),FrX.of_below (Hq1.out.below _)⟩
 case round =>
  obtain ⟨k,hk,rfl,rfl,hEw,hFw⟩:=hrel
  obtain ⟨wo,rfl⟩ : ∃ x : World,x=wr:=⟨_,rfl⟩
  by_cases hkl : k≤left
  ·have hkli : (k : Int)≤(left : Int):=by omega
   have hkz : (k : Int)≤1000:=by omega
   obtain ⟨bl,hbl⟩ : ∃ b,b=layOk old most u put r k:=⟨_,rfl⟩
   have Hbl:=Lib.hid hbl
   clear hbl
   go_upto_region 17 with fail
   go_cut [119] from 80 to 119 (fun s119 wc=>s119=.bool (!bl)∧Qt wo wc)
   case first =>
    obtain ⟨_,_,e,_,hcp⟩:=HKo.out wo hFw.out
    injection e with e1 e2 e3
    subst e1 e3
    obtain ⟨b3,o3,rfl,_,hcq⟩:=hcp (by rw [Hlo.out];omega)
    have HU:=Lib.hid (HKu.out wo hFw.out)
    have hbo:=HP.out.bo
    have cA:=hcq r (by rw [Hlo.out];omega)
    have hbA:=hbo r hr
    unfold iv at cA
    obtain ⟨a,ha⟩ : ∃ a,a=old.getD r 0:=⟨_,rfl⟩
    rw [← ha] at cA hbA
    have Ha:=Lib.hid ha
    have Hval:=Lib.hid (show (!bl)=((decide (0 < r) && decide (old.getD (r - 1) 0 < a+(k : Int))) || decide (most < a+(k : Int)) || unBad u r (bf+(k : Int))) by
     rw [Hbl.out,ha,Hbf.out,← sumI_take (show r≤put.length by rw [Hlp.out];omega)]
     exact layOk_not old most u put r k)
    have Hcq:=Lib.hid hcq
    have Hbo:=Lib.hid hbo
    clear hcp hcq hbo ha e2 hEw hFw hk
    by_cases hr0 : r=0
    ·subst hr0
     have cA0:=cA
     simp only [Nat.add_zero] at cA0
     by_cases hB : most < a+(k : Int)
     ·have hB' : (most < a+(k : Int))=True:=eq_true hB
      have hv : (!bl)=true:=by rw [Hval.out];rw [decide_eq_true hB,Bool.or_true,Bool.true_or]
      go_big_quiet (fail)
      go_wp2_with fail
      go_meet
      exact ⟨congrArg Value.bool hv.symm,(Qt.refl _).drewN nq⟩
     ·have hB' : (most < a+(k : Int))=False:=eq_false hB
      cases u with
      | none =>
        obtain rfl : vu=.slice none 0 0:=HU.out
        have hv : (!bl)=false:=by rw [Hval.out];rw [decide_eq_false hB];rfl
        go_big_quiet (fail)
        go_wp2_with fail
        go_meet
        exact ⟨congrArg Value.bool hv.symm,(Qt.refl _).drewN nq⟩
      | some l =>
        obtain ⟨⟨_,_,rfl,_,hlc⟩,p9,n9,k9,e9⟩:=HU.out
        have hll:=HP.out.bu l rfl
        injection e9 with e9 e10 e11
        subst e9 e11
        clear e10
        obtain ⟨b4,o4,e4,_,hlq⟩:=hlc (by rw [hll.1];omega)
        injection e4 with e4
        subst e4
        have cL:=hlq 0 (by rw [hll.1];omega)
        have hbL:=hll.2 0 (by omega)
        unfold iv at cL
        obtain ⟨lv,hlv⟩ : ∃ x,x=l.getD 0 0:=⟨_,rfl⟩
        rw [← hlv] at cL hbL
        have hlnr:=hll.1
        have hlri : ((0 : Nat) : Int) < (l.length : Int):=by omega
        have Hlv:=Lib.hid hlv
        try simp only [Nat.add_zero] at cL
        clear hlc hlq hll hlv hlnr
        by_cases hC : lv < bf+(k : Int)
        ·have hC' : (lv < bf+(k : Int))=True:=eq_true hC
         have hv : (!bl)=true:=by rw [Hval.out];rw [unBad_some,← Hlv.out,decide_eq_true hC,Bool.or_true]
         go_big_quiet (fail)
         go_wp2_with fail
         go_meet
         exact ⟨congrArg Value.bool hv.symm,(Qt.refl _).drewN nq⟩
        ·have hC' : (lv < bf+(k : Int))=False:=eq_false hC
         have hv : (!bl)=false:=by rw [Hval.out];rw [decide_eq_false hB];rw [unBad_some,← Hlv.out,decide_eq_false hC];rfl
         go_big_quiet (fail)
         go_wp2_with fail
         go_meet
         exact ⟨congrArg Value.bool hv.symm,(Qt.refl _).drewN nq⟩
    ·obtain ⟨t,rfl⟩ : ∃ t,r=t+1:=⟨r - 1,by omega⟩
     have cT:=Hcq.out t (by rw [Hlo.out];omega)
     have hbT:=Hbo.out t (by omega)
     unfold iv at cT
     obtain ⟨y1,hy1⟩ : ∃ y,y=old.getD t 0:=⟨_,rfl⟩
     rw [← hy1] at cT hbT
     rw [show t+1 - 1=t from rfl,← hy1] at Hval
     have hti : (t : Int) < (rows : Int):=by omega
     have ht1 : ((t+1 : Nat) : Int) - 1=(t : Int):=by omega
     have hT0 : (0 : Int) < (t : Int)+1:=by omega
     have hT1 : ((t : Int)+1).toNat=t+1:=by omega
     have hT2 : (t : Int)+1 < (rows : Int):=by omega
     have hT3 : (0 : Int)≤(t : Int)+1:=by omega
     have ht4 : (0 < t+1)=True:=eq_true (by omega)
     clear hy1
     by_cases hA : y1 < a+(k : Int)
     ·have hA' : (y1 < a+(k : Int))=True:=eq_true hA
      have hv : (!bl)=true:=by rw [Hval.out];rw [decide_eq_true hA,decide_eq_true (show 0 < t+1 by omega)];rfl
      go_big_quiet (fail)
      go_wp2_with fail
      go_meet
      exact ⟨congrArg Value.bool hv.symm,(Qt.refl _).drewN nq⟩
     ·have hA' : (y1 < a+(k : Int))=False:=eq_false hA
      by_cases hB : most < a+(k : Int)
      ·have hB' : (most < a+(k : Int))=True:=eq_true hB
       have hv : (!bl)=true:=by rw [Hval.out];rw [decide_eq_true hB,Bool.or_true,Bool.true_or]
       go_big_quiet (fail)
       go_wp2_with fail
       go_meet
       exact ⟨congrArg Value.bool hv.symm,(Qt.refl _).drewN nq⟩
      ·have hB' : (most < a+(k : Int))=False:=eq_false hB
       cases u with
       | none =>
         obtain rfl : vu=.slice none 0 0:=HU.out
         have hv : (!bl)=false:=by rw [Hval.out];rw [decide_eq_false hA,decide_eq_false hB,Bool.and_false];rfl
         go_big_quiet (fail)
         go_wp2_with fail
         go_meet
         exact ⟨congrArg Value.bool hv.symm,(Qt.refl _).drewN nq⟩
       | some l =>
         obtain ⟨⟨_,_,rfl,_,hlc⟩,p9,n9,k9,e9⟩:=HU.out
         have hll:=HP.out.bu l rfl
         injection e9 with e9 e10 e11
         subst e9 e11
         clear e10
         obtain ⟨b4,o4,e4,_,hlq⟩:=hlc (by rw [hll.1];omega)
         injection e4 with e4
         subst e4
         have cL:=hlq (t+1) (by rw [hll.1];omega)
         have hbL:=hll.2 (t+1) (by omega)
         unfold iv at cL
         obtain ⟨lv,hlv⟩ : ∃ x,x=l.getD (t+1) 0:=⟨_,rfl⟩
         rw [← hlv] at cL hbL
         have hlnr:=hll.1
         have hlri : (((t+1) : Nat) : Int) < (l.length : Int):=by omega
         have Hlv:=Lib.hid hlv
         try simp only [Nat.add_zero] at cL
         clear hlc hlq hll hlv hlnr
         by_cases hC : lv < bf+(k : Int)
         ·have hC' : (lv < bf+(k : Int))=True:=eq_true hC
          have hv : (!bl)=true:=by rw [Hval.out];rw [unBad_some,← Hlv.out,decide_eq_true hC,Bool.or_true]
          go_big_quiet (fail)
          go_wp2_with fail
          go_meet
          exact ⟨congrArg Value.bool hv.symm,(Qt.refl _).drewN nq⟩
         ·have hC' : (lv < bf+(k : Int))=False:=eq_false hC
          have hv : (!bl)=false:=by rw [Hval.out];rw [decide_eq_false hA,decide_eq_false hB,Bool.and_false];rw [unBad_some,← Hlv.out,decide_eq_false hC];rfl
          go_big_quiet (fail)
          go_wp2_with fail
          go_meet
          exact ⟨congrArg Value.bool hv.symm,(Qt.refl _).drewN nq⟩
   case rest =>
    obtain ⟨rfl,hqc⟩:=hcut
    have HEc:=Lib.hid (hEw.out.below (hqc.below _))
    have HFc:=Lib.hid (hFw.out.trans (FrX.of_below (hqc.below _)))
    clear hqc hEw hFw
    cases bl with
    | false =>
      obtain rfl : k=M:=by
       rcases Nat.lt_or_ge k M with h | h
       ·have:=HM2.out k h
        rw [← Hbl.out] at this
        exact absurd this (by decide)
       ·omega
      go_wp2_with fail
      (try simp only [Exit.inBlock,Exit.then])
      first | refine bodyPost_ret (results_none rfl _ _ _) rfl ?_ | refine bodyPost_end (results_none rfl _ _ _) rfl ?_
      exact ⟨rfl,HEc.out,HFc.out⟩
    | true =>
      have hkM : k < M:=by
       rcases Nat.lt_or_ge k M with h | h
       ·exact h
       ·rcases HM3.out with h3 | h3
        ·omega
        ·rw [show M=k by omega,← Hbl.out] at h3
         exact absurd h3 (by decide)
      have HkM:=Lib.hid hkM
      have Hhk:=Lib.hid hkl
      have hbs:=HP.out.bs r hr
      obtain ⟨x,hx⟩ : ∃ x,x=sh.getD r 0:=⟨_,rfl⟩
      have Hx:=Lib.hid hx
      rw [← hx] at hbs
      clear hx hkM hk
      have HCs:=Lib.hid (show Calls Tryz.prog 38 #[.slice ps rows ks] wc fun e w'=> ∃ g c,e=.returned (.slice (some ⟨g,0,none⟩) rows c)∧(rows≤c∧c≤maxLen∧wc.heap.size≤g∧w'.frozen? ⟨g,r,none⟩=false∧w'.cell? ⟨g,r,none⟩=some (.int .i64 x))∧OwnI 3 w' wc.heap.size w'.heap.size (.slice (some ⟨g,0,none⟩) rows c) sh∧Below wc.heap.size wc w' from
       (clone_any _ sh wc (HKs.out wc HFc.out).ints (by rw [Hls.out];omega)).mono fun e w' ⟨u,he,ho,hb⟩=>by
         obtain ⟨g,c,rfl,h1,h2,h3,h4,h5⟩:=ho.head (by rw [Hls.out];omega)
         rw [Hls.out] at h1 he ho
         exact ⟨g,c,he,⟨h1,h2,h3,h5 r,by rw [Hx.out];exact ho.cellF (by rw [Hls.out];exact hr)⟩,ho,hb⟩)
      have HCp:=Lib.hid (show ∀ wx,Below wc.heap.size wc wx→Calls Tryz.prog 38 #[.slice pp rows kp] wx fun e w'=> ∃ g c,e=.returned (.slice (some ⟨g,0,none⟩) rows c)∧(rows≤c∧c≤maxLen∧wx.heap.size≤g∧w'.frozen? ⟨g,r,none⟩=false∧w'.cell? ⟨g,r,none⟩=some (.int .i64 (put.getD r 0)))∧OwnI 3 w' wx.heap.size w'.heap.size (.slice (some ⟨g,0,none⟩) rows c) put∧Below wx.heap.size wx w' from fun wx hwx =>
       (clone_any _ put wx ((HKp.out wc HFc.out).below hwx).ints (by rw [Hlp.out];omega)).mono fun e w' ⟨u,he,ho,hb⟩=>by
         obtain ⟨g,c,rfl,h1,h2,h3,h4,h5⟩:=ho.head (by rw [Hlp.out];omega)
         rw [Hlp.out] at h1 he ho
         exact ⟨g,c,he,⟨h1,h2,h3,h5 r,ho.cellF (by rw [Hlp.out];exact hr)⟩,ho,hb⟩)
      go_wp2_with fail
      refine HCs.out.mono ?_
      rintro e w2 ⟨g2,k2,rfl,⟨hk2,hk2m,hg2,f2,d2⟩,ho2,hb2⟩
      have Ho2:=Lib.hid ho2
      have Hb2:=Lib.hid hb2
      have Hg2:=Lib.hid hg2
      unfold maxLen at hk2m
      have hw1 : wrap64 (x+(k : Int))=x+(k : Int):=by exact w64 (by omega) (by omega)
      clear ho2 hb2 hg2
      go_wp2_with fail
      have Hb3:=Lib.hid (Hb2.out.setCell (p:=⟨g2,r,none⟩) Hg2.out (.int .i64 (x+(k : Int))))
      refine (HCp.out _ Hb3.out).mono ?_
      rintro e w3 ⟨g3,k3,rfl,⟨hk3,hk3m,hg3,f3,d3⟩,ho3,hb3⟩
      have Ho3:=Lib.hid ho3
      have Hb4:=Lib.hid hb3
      have Hg3:=Lib.hid hg3
      unfold maxLen at hk3m
      clear ho3 hb3 hg3
      go_wp2_with fail
      have hgW : wc.heap.size≤g3:=Nat.le_trans Hb3.out.size Hg3.out
      have hbW:=(Hb3.out.trans (Hb4.out.mono Hb3.out.size)).setCell (p:=⟨g3,r,none⟩) hgW (.int .i64 (k : Int))
      have h1:=(Ho2.out.setF (t:=r) (by rw [Hls.out];exact hr) (x+(k : Int))).below Hb4.out
      have hne : g3 ≠ g2:=by
       have q1:=(Own.block Ho2.out (k:=g2) rfl).2.1
       have q2:=Hg3.out
       rw [size_setCell] at q2
       omega
      have h2:=h1.setOther (a:=⟨g3,r,none⟩) (fun e=>hne (by injection e with e;exact e.symm)) (.int .i64 (k : Int))
      have h3:=Ho3.out.setF (t:=r) (by rw [Hlp.out];exact hr) (k : Int)
      refine (HN.out k wc _ _ _ HkM.out Hhk.out HEc.out HFc.out hbW (by rw [← Hx.out];exact IntsK.of_own h2) (IntsK.of_own h3)).mono ?_
      rintro e w9 ⟨rfl,hE9,hF9⟩
      have HE9:=Lib.hid hE9
      have HF9:=Lib.hid hF9
      clear hE9 hF9 h1 h2 h3 hbW hgW hne
      go_wp2_with fail
      go_roundg (left+1 - (k+1))
      case measure=>omega
      case rel=>exact ⟨k+1,HkM.out,rfl,by go_num,HE9,HF9⟩
  ·obtain rfl : k=M:=by have:=HM1.out;omega
   have hkln : ¬ (k : Int)≤(left : Int):=by omega
   go_wp2_with fail
   go_end0
   exact ⟨rfl,hEw.out,hFw.out⟩
theorem layer_any (f : Nat) : LayC wB lo lo2 bo rows most f:=by
 induction f with
 | zero =>
   intro sh ct old r left u put cs m w vs vc vo vu vp hP hf hE hs hc ho hu hp hm
   have h1:=hP.rr
   have h2 : 1≤ct.length:=List.length_pos_iff.2 hP.c1
   have h3:=Nat.mul_le_mul_right (rows+1) h2
   omega
 | succ f ih =>
   intro sh ct old r left u put cs m w vs vc vo vu vp hP hf hE hs hc ho hu hp hm
   have hls:=hP.ls
   have h16:=hP.r16
   by_cases hr : r=rows
   ·subst hr
    rcases Nat.eq_zero_or_pos left with rfl | hl
    ·cases ct with
     | nil=>exact absurd rfl hP.c1
     | cons c0 ct =>
       cases ct with
       | nil =>
         rw [← hls] at hm ⊢
         rw [layL_see] at hm ⊢
         exact lay_see sh old c0 u put cs m w vs vc vo vu vp (by omega) hE hs hc hm
       | cons c1 cs' =>
         have e:=layL_up (most:=most) (f:=f) (sh:=sh) (old:=old) (c0:=c0) (c1:=c1) (cs:=cs') (u:=u) (put:=put)
         rw [hls] at e
         rw [e] at hm ⊢
         exact lay_up f ih sh old c0 c1 cs' u put cs m w vs vc vo vu vp hP hf hE hs hc hp hm
    ·have e:=layL_left (most:=most) (f:=f) (sh:=sh) (ct:=ct) (old:=old) (u:=u) (put:=put) hl
     rw [hls] at e
     rw [e]
     obtain ⟨ps,ks,rfl,_,_⟩:=hs.shape
     rw [hls]
     exact (lay_left left r hl vc vo vu vp ps ks w hP.bl h16).mono fun e w' ⟨he,hw⟩=>⟨he,by rw [hw];exact hE,by rw [hw];exact FrX.refl _ _ _⟩
   ·have hrr : r < rows:=Nat.lt_of_le_of_ne hP.rr hr
    obtain ⟨M,h1,h2,h3,h4⟩:=lay_most (layOk old most u put r) (left+1)
    have e:=layL_row (most:=most) (f:=f) (sh:=sh) (ct:=ct) (old:=old) (r:=r) (left:=left) (u:=u) (put:=put) (by omega)
    rw [h4] at e
    rw [e] at hm ⊢
    exact lay_row f ih sh ct old r left u put cs m w vs vc vo vu vp hP hrr hf hE hs hc ho hu hp M h1 h2 h3 hm
end
structure FilP (a b : List Int) (rows : Nat) (most : Int) : Prop where
 r16 : rows≤16
 la : a.length≤rows
 lb : b.length≤16
 ba : ∀ i,i < a.length→0≤a.getD i 0∧a.getD i 0≤1000
 bb : ∀ i,i < b.length→0≤b.getD i 0∧b.getD i 0≤1000
 bm : 0≤most∧most≤1000
theorem startL_len {a : List Int} {rows : Nat} (h : a.length≤rows) : (startL a rows).length=rows:=by unfold startL;simp;omega
theorem startL_getD {a : List Int} {rows i : Nat} : (startL a rows).getD i 0=a.getD i 0:=by
 unfold startL
 rw [List.getD_eq_getElem?_getD,List.getD_eq_getElem?_getD,List.getElem?_append]
 split
 ·rfl
 ·rw [List.getElem?_replicate,List.getElem?_eq_none (by omega)]
  split <;> rfl
theorem FilP.start {a : List Int} {c : Int} {cs : List Int} {rows : Nat} {most : Int} (h : FilP a (c :: cs) rows most) : LayP rows most (startL a rows) (c :: cs) (startL a rows) 0 c.toNat none (List.replicate rows 0):=by
 have hs : ∀ i,0≤(startL a rows).getD i 0∧(startL a rows).getD i 0≤1000:=fun i=>by
  rw [startL_getD]
  by_cases hi : i < a.length
  ·exact h.ba i hi
  ·rw [List.getD_eq_getElem?_getD,List.getElem?_eq_none (by omega)]
   exact ⟨by decide,by decide⟩
 have hc:=h.bb 0 (by simp)
 refine ⟨h.r16,startL_len h.la,startL_len h.la,List.length_replicate,Nat.zero_le _,fun _ _ _=>rfl,fun i _=>hs i,fun i _=>hs i,fun i hi=> ?_,(fun l hl=>by cases hl),by simp,h.lb,h.bb,?_,h.bm⟩
 ·simp [List.getD_eq_getElem?_getD,List.getElem?_replicate,hi]
 ·simp at hc
  omega
theorem cell_of_bel {w w' : World} {a : Addr} {v : Value} (hb : Below w.heap.size w w') (h : w.cell? a=some v) : w'.cell? a=some v:=cell_below hb h
theorem run_append_make_Z {P : Program} (w : World) (t ti ty e : TypeId) (z : Value) (bytes : Nat) (ht : P.underlying t=some (.slice e)) (hti : P.underlying ti=some (.int .i64))
 (hinfo : (P.info? e).map (fun i=>(i.zero,i.size,i.bytes))=some (some z,1,bytes)) (hzs : z.cells.size=1) (hz1 : ∀ u ∈ z.cells.toList,u.oneCell'=true) (hb : bytes≤1000) (hb0 : 0 < bytes)
 (lo hi' : Nat) (v : Value) (n : Nat) (f : Nat→Value) (hown : OwnF w lo hi' e v n f) (hlo : lo≤w.heap.size) (hhi : hi'≤w.heap.size) (m : Nat) (hnm : n+m≤1000000) :
 ∃ v' w',(Builtin.append_ #[t,ti] ty #[v,.int .i64 (m : Int)]).run P w=.ok v' w'∧OwnF w' lo w'.heap.size e v' (n+m) (fun j=>if j < n then f j else z.cells[0]!)∧w.grownBy w' v.ownBlock:=by
 rcases Nat.eq_zero_or_pos m with rfl | hm
 ·refine ⟨v,w,?_,(hown.mono (Nat.le_refl _) hhi).congr fun j hj=>by rw [if_pos hj],⟨rfl,rfl,rfl,Nat.le_refl _,fun _ _ _=>rfl⟩⟩
  obtain ⟨i,hi,hz,hsz,hby⟩:=info_parts hinfo
  obtain ⟨p,cap,rfl,hnc,_⟩:=hown.shape
  have hwr : IntKind.i64.wrap (0 : Int)=0:=by decide
  cases p <;> simp [Builtin.append_,run_underlying ht,run_underlying hti,sizeOf,typeInfo,zeroValue,hi,hz,hsz,asInt,asIntOf,hwr,hnc,storeCells]
 ·obtain ⟨v',w',h1,h2,h3,_⟩:=run_append_make_F (P:=P) w t ti ty e z bytes ht hti hinfo hzs hz1 hb hb0 lo hi' v n f hown hlo hhi m hm hnm
  exact ⟨v',w',h1,h2,h3⟩
theorem wpList_append_make_Z {P : Program} {w : World} {ops : Array Oper} {rest : List Oper} {o : Oper} {a : Act} {Q : Exit→Act→World→Prop} (hgd : o.guard=none) (s x : Operand) (t ti : TypeId)
 (ho : o.op=.call { callee:=.builtin .append,args:=#[s,x],argTypes:=#[t,ti] })
 (e : TypeId) (z : Value) (bytes : Nat) (ht : P.underlying t=some (.slice e)) (hti : P.underlying ti=some (.int .i64))
 (hinfo : (P.info? e).map (fun i=>(i.zero,i.size,i.bytes))=some (some z,1,bytes)) (hzs : z.cells.size=1) (hz1 : ∀ u ∈ z.cells.toList,u.oneCell'=true) (hb : bytes≤1000) (hb0 : 0 < bytes)
 (lo hi' : Nat) (v : Value) (n : Nat) (f : Nat→Value) (hs : a.eval s=v) (hown : OwnF w lo hi' e v n f) (hlo : lo≤w.heap.size) (hhi : hi'≤w.heap.size) (m : Nat) (hx : a.eval x=.int .i64 (m : Int)) (hnm : n+m≤1000000)
 (h : ∀ v' w',OwnF w' lo w'.heap.size e v' (n+m) (fun j=>if j < n then f j else z.cells[0]!)→w.grownBy w' v.ownBlock→wpList P ops Q rest (a.put o.dst v') w') :
 wpList P ops Q (o :: rest) a w:=by
 refine wpList_plain hgd fun K hK'=> ?_
 obtain ⟨v',w',hr,h2,h3⟩:=run_append_make_Z (P:=P) w t ti o.type e z bytes ht hti hinfo hzs hz1 hb hb0 lo hi' v n f hown hlo hhi m hnm
 unfold Oper.wp
 simp [execOp,ho,resolve,invoke,builtin,hs,hx,hr,Result.andThen]
 exact hK' _ _ (h v' w' h2 h3)
theorem fillings_any (va vb : Value) (a b : List Int) (rows : Nat) (most : Int) (w : World) (ha : Ints w va a) (hb : Ints w vb b) (hP : FilP a b rows most) (hm : (fsL a b rows most).length < 1000) :
 Calls Tryz.prog 41 #[va,vb,.int .i64 (rows : Int),.int .i64 most] w fun e w' =>
  ∃ u lo2,e=.returned u∧w.heap.size≤lo2∧OwnP2 w' w.heap.size lo2 w'.heap.size u (filL a b rows most)∧AscP (filL a b rows most)∧BdP (filL a b rows most) (fsL a b rows most).length∧Below w.heap.size w w':=by
 have h16:=hP.r16
 have hla:=hP.la
 have hlb:=hP.lb
 obtain ⟨m,hmr⟩ : ∃ m,rows=a.length+m:=⟨rows - a.length,by omega⟩
 have HA:=Lib.hid ha
 have HB:=Lib.hid hb
 have HP:=Lib.hid hP
 have Hm:=Lib.hid hm
 obtain ⟨pa,ka,rfl,_,_⟩:=ha
 obtain ⟨pb,kb,rfl,hkb1,hkb2⟩:=hb
 obtain ⟨na,hna⟩ : ∃ n,n=a.length:=⟨_,rfl⟩
 obtain ⟨nb,hnb⟩ : ∃ n,n=b.length:=⟨_,rfl⟩
 rw [← hna] at HA hla hmr ⊢
 rw [← hnb] at HB hkb1 hlb ⊢
 have Hna:=Lib.hid hna
 have Hnb:=Lib.hid hnb
 have hsub : (rows : Int) - (na : Int)=(m : Int):=by omega
 have Hmr:=Lib.hid hmr
 have HCl:=Lib.hid (show Calls Tryz.prog 38 #[.slice pa na ka] w fun e w'=> ∃ u,e=.returned u∧OwnI 3 w' w.heap.size w'.heap.size u a∧Below w.heap.size w w' from
  (by
    have h:=clone_any (.slice pa na ka) a w HA.out (by rw [← hna];omega)
    exact h))
 clear hm hP hna hnb hmr
 go_enter Tryz.func41,Tryz.ntmps41
 go_wp2_with fail
 refine HCl.out.mono ?_
 rintro e w1 ⟨u1,rfl,ho1,hb1⟩
 have Ho1:=Lib.hid ho1
 have Hb1:=Lib.hid hb1
 clear ho1 hb1 HCl
 go_wp2_with (at_builtin;go_must (refine wpList_append_make_Z rfl (.tmp 13) (.tmp 17) 24 3 rfl 3 (.int .i64 0) 8 Tryz.underlying24 Tryz.underlying3 info_int rfl (by intro u hu;simp [Value.cells] at hu;subst hu;rfl) (by decide) (by decide) w.heap.size _ _ na (iv a) rfl (by have h:=Ho1.out.fn;rw [← Hna.out] at h;exact h) Hb1.out.size (Nat.le_refl _) m rfl (by have:=Hmr.out;omega) ?_;intro v2 w2 ho2 hg2))
 all_goals
  have hBw2 : Below w.heap.size w w2:=⟨hg2.os.trans Hb1.out.os,hg2.tape.trans Hb1.out.tape,hg2.output.trans Hb1.out.output,Nat.le_trans Hb1.out.size hg2.size,fun k hk=>(hg2.block k (Nat.lt_of_lt_of_le hk Hb1.out.size) fun e=>by
   have:=(Own.block Ho1.out e.symm).1
   omega).trans (Hb1.out.block k hk)⟩
  have HI2:=Lib.hid (show OwnI 3 w2 w.heap.size w2.heap.size v2 (startL a rows) by
   refine OwnF.ints ?_
   rw [startL_len (by rw [← Hna.out];exact hla),Hmr.out]
   refine ho2.congr fun j hj=> ?_
   unfold iv
   rw [startL_getD]
   by_cases h : j < na
   ·rw [if_pos h]
   ·rw [if_neg h,List.getD_eq_getElem?_getD,List.getElem?_eq_none (by have:=Hna.out;omega)]
    rfl)
  obtain ⟨W0,hW0⟩ : ∃ W0,W0=((w2.alloc (.cells #[] 78)).alloc (.cells #[.slice (some ⟨w2.heap.size,0,none⟩) 0 0] 44)):=⟨_,rfl⟩
  have hs0 : W0.heap.size=w2.heap.size+2:=by rw [hW0,size_alloc,size_alloc]
  have hB0 : Below w2.heap.size w2 W0:=by rw [hW0];exact below_alloc2 _ _ _
  have hz1 : W0.heap[w2.heap.size]?=some (.cells #[] 78 (0,0)):=by rw [hW0];exact blk_later (heap_alloc_top _ _) (below_alloc _ _)
  have hz2 : W0.heap[w2.heap.size+1]?=some (.cells #[.slice (some ⟨w2.heap.size,0,none⟩) 0 0] 44 (0,0)):=by rw [hW0];exact heap_alloc_at _ _ (by rw [size_alloc])
  have hBW:=hBw2.trans (hB0.mono hBw2.size)
  have HE0:=Lib.hid (show Env w w.heap.size w.heap.size (w2.heap.size+1) [] 0 W0 from
   ⟨hBW,hBW.size,hBW.size,Nat.le_refl _,by have:=hBw2.size;omega,⟨_,hz2,fun _=>.slice none 0 0,⟨[],⟨⟨rfl,.inr ⟨w2.heap.size,0,#[],rfl,hBw2.size,hz1,Nat.le_refl _,Nat.zero_le _,rfl,rfl⟩⟩,fun k hk=>by
     have : w2.heap.size=k:=by injection hk
     omega⟩,fun i hi=>absurd hi (Nat.not_lt_zero _)⟩,fun i hi=>absurd hi (Nat.not_lt_zero _)⟩,List.Pairwise.nil,⟨Nat.le_refl _,fun x hx=>absurd hx List.not_mem_nil⟩⟩)
  have HI0:=Lib.hid (HI2.out.below hB0)
  have HBW:=Lib.hid hBW
  have HFin:=Lib.hid (show ∀ w' cs m',Env w w.heap.size w.heap.size (w2.heap.size+1) cs m' w'→FrX w.heap.size (fun k=>k=w2.heap.size+1) W0 w' → ∃ u,w'.cell? ⟨w2.heap.size+1,0,none⟩=some u∧OwnP2 w' w.heap.size w.heap.size w'.heap.size u cs∧AscP cs∧BdP cs m'∧Below w.heap.size w w' from fun w' cs m' hE _=>by
   obtain ⟨u,h1,h2⟩:=hE.out
   exact ⟨u,cell_of_blk h1 (j:=0) rfl,h2,hE.asc,hE.bd,hE.base⟩)
  rw [← hW0]
  clear hg2 ho2 hBw2 hW0 hz1 hz2 hBW hB0
 ·have h0 : ((nb : Int) == 0)=true:=by assumption
  obtain rfl : nb=0:=by simpa using h0
  obtain rfl : b=[]:=List.eq_nil_of_length_eq_zero Hnb.out.symm
  have e1 : filL a [] rows most=sumdL (shL (startL a rows)) 1 []:=rfl
  have e2 : (fsL a [] rows most).length=0+1:=rfl
  refine (seeF_any w w.heap.size w.heap.size (w2.heap.size+1) 0 v2 (startL a rows) [] W0 HE0.out HI0.out.ints (by rw [startL_len (by rw [← Hna.out];exact hla)];omega) (by decide)).mono ?_
  rintro e w9 ⟨rfl,hE9,hF9⟩
  obtain ⟨u,hu,q1,q2,q3,q4⟩:=HFin.out w9 _ _ hE9 hF9
  have Q:=Lib.hid (And.intro q1 (And.intro q2 (And.intro q3 q4)))
  clear q1 q2 q3 q4 hE9 hF9
  go_wp2_with fail
  go_ret
  rw [e1,e2]
  exact ⟨u,w.heap.size,rfl,Nat.le_refl _,Q.out⟩
 ·rename_i h0
  cases b with
  | nil =>
    have:=Hnb.out
    simp at this
    subst this
    exact absurd h0 (by decide)
  | cons c0 cs0 =>
    obtain ⟨p2,k2,rfl,_,_⟩:=HI0.out.shape
    have hsl : (startL a rows).length=rows:=startL_len (by rw [← Hna.out];exact hla)
    rw [hsl] at HI0 ⊢
    have hc0:=HP.out.bb 0 (by simp)
    have hc1 : 0≤c0∧c0≤1000:=by simpa using hc0
    obtain ⟨O,hO⟩ : ∃ O : Obj,O=.cells (madeCells #[Value.int .i64 0] rows) 3:=⟨_,rfl⟩
    have hmk:=run_make_row' (P:=Tryz.prog) 24 3 (.int .i64 0) 8 Tryz.underlying24 info_int rfl .i64 .i64 rows (by omega) (by omega)
    rw [← hO] at hmk
    have hOz : O=.cells (ivs (List.replicate rows 0)).toArray 3:=by rw [hO,madeF_zeros]
    obtain ⟨_,_,e,_,hcp⟩:=HB.out
    injection e with e1 e2 e3
    subst e1 e3
    obtain ⟨bb,ob,rfl,hcq⟩:=hcp (by simp)
    have c1' : W0.cell? ⟨bb,ob,none⟩=some (.int .i64 c0):=cell_of_bel HBW.out (hcq 0 (by simp))
    have hnb2 : 0 < nb:=by have:=Hnb.out;simp at this;omega
    have hnb1 : (0 : Int) < (nb : Int):=by omega
    have hIB : IntsK w.heap.size W0 (.slice (some ⟨bb,ob,none⟩) nb kb) (c0 :: cs0):=.of_ints HB.out HBW.out
    have HLay:=Lib.hid (show ∀ (WX : World) (vo' : Value) (g' : Nat),Below W0.heap.size W0 WX→IntsK w.heap.size WX vo' (startL a rows)→WX.heap[g']?=some O→Calls Tryz.prog 79 #[.slice p2 rows k2,.slice (some ⟨bb,ob,none⟩) nb kb,vo',.int .i64 0,.int .i64 c0,.slice none 0 0,.slice (some ⟨g',0,none⟩) rows rows,.int .i64 most,.func (.func 74) #[] #[.pointer (some ⟨w2.heap.size+1,0,none⟩)]] WX fun e w' =>
     e=.returned (.tuple #[])∧(∃ u,w'.cell? ⟨w2.heap.size+1,0,none⟩=some u∧Hid (OwnP2 w' w.heap.size w.heap.size w'.heap.size u (filL a (c0 :: cs0) rows most)∧AscP (filL a (c0 :: cs0) rows most)∧BdP (filL a (c0 :: cs0) rows most) (fsL a (c0 :: cs0) rows most).length∧Below w.heap.size w w'))∧w'.cell? ⟨bb,ob,none⟩=some (.int .i64 c0) from fun WX vo' g' hw h1 h4=>by
     have hz : Arr WX g' (List.replicate rows 0):=by unfold Arr;rw [h4,hOz]
     have hzI:=IntsK.of_arr (B:=w.heap.size) hz (by rw [List.length_replicate];unfold maxLen;omega)
     rw [List.length_replicate] at hzI
     have hI:=IntsK.of_own (B:=w.heap.size) (HI0.out.below hw)
     have:=layer_any (wB:=w) (lo:=w.heap.size) (lo2:=w.heap.size) (bo:=w2.heap.size+1) (rows:=rows) (most:=most) ((cs0.length+1) * (rows+1)+1) (startL a rows) (c0 :: cs0) (startL a rows) 0 c0.toNat none (List.replicate rows 0) [] 0 WX (.slice p2 rows k2) (.slice (some ⟨bb,ob,none⟩) nb kb) vo' (.slice none 0 0) (.slice (some ⟨g',0,none⟩) rows rows)
      HP.out.start (by simp only [List.length_cons];omega) (HE0.out.below hw) hI (hIB.below hw) h1 rfl hzI (by rw [Nat.zero_add];exact Hm.out)
     rw [Int.toNat_of_nonneg hc1.1,Nat.zero_add] at this
     refine this.mono fun e w' ⟨he,hE',hF⟩=> ?_
     obtain ⟨u,hu,q1,q2,q3,q4⟩:=HFin.out w' _ _ hE' ((FrX.of_below hw).trans hF)
     refine ⟨he,⟨u,hu,Lib.hid ⟨q1,q2,q3,q4⟩⟩,?_⟩
     exact cell_of_bel q4 (hcq 0 (by simp)))
    have HCl:=Lib.hid (show ∀ wx,Below W0.heap.size W0 wx→Calls Tryz.prog 38 #[.slice p2 rows k2] wx fun e w'=> ∃ u,e=.returned u∧IntsK w.heap.size w' u (startL a rows)∧Below wx.heap.size wx w'∧Below W0.heap.size W0 w' from fun wx hx=>by
     have h:=clone_any (.slice p2 rows k2) (startL a rows) wx (by have q:=(HI0.out.below hx).ints;exact q) (by rw [hsl];omega)
     exact h.mono fun e w' ⟨u,he,ho,hb⟩=>⟨u,he,.of_own ho,hb,hx.trans (hb.mono hx.size)⟩)
    clear e2 hcp hcq hIB hO hOz hsl hc0 hs0
    go_wp2_with fail
    go_region_held3 (fun w'=>w'.cell? ⟨bb,ob,none⟩=some (.int .i64 c0))
     (first | with_reducible assumption | exact c1' | exact cell_below (below_alloc _ _) (by assumption) | exact cell_below bC (by assumption) | exact hS9)
     (first
       | (go_at_call 38;with_reducible refine Calls.mono (HCl.out _ (by (repeat (first | assumption | with_reducible refine Below.drew ?_ | with_reducible refine belF_al ?_ (Nat.le_refl _) _ | exact Below.refl _ _)))) ?_;rintro e wC ⟨uC,rfl,oC,bC,bC2⟩)
       | (go_at_call 79;with_reducible refine Calls.mono (HLay.out _ _ _ (by (repeat (first | assumption | with_reducible refine Below.drew ?_ | with_reducible refine belF_al ?_ (Nat.le_refl _) _ | exact Below.refl _ _))) (by first | exact oC | exact oC.below (below_alloc _ _)) (by (repeat (first | with_reducible exact heap_alloc_top _ _ | with_reducible refine blk_later ?_ bC | with_reducible refine blkF_drew ?_)))) ?_;rintro e w9 ⟨rfl,⟨u9,hu9,Q9⟩,hS9⟩))
    all_goals
     go_wp2_with fail
     go_ret
     exact ⟨u9,w.heap.size,rfl,Nat.le_refl _,Q9.out⟩
end
section
open Go.RowKit
def subsW (v : List Int) : List Nat→List Int→List Int→List (List (Int × Int))
 | [],_,h=>if h=v then [[]] else []
 | k :: r,u,h=>subsW v r (sw k u) h ++ (if ascB k h then (subsW v r (sw k u) (sw k h)).map ((u.getD (k+1) 0,u.getD k 0) :: ·) else [])
def sumP (ys : List Int) : List (List (Int × Int))→Int
 | []=>0
 | l :: S=>prodP ys l+sumP ys S
theorem sumP_append (ys : List Int) : ∀ A B,sumP ys (A ++ B)=sumP ys A+sumP ys B
 | [],B=>by simp [sumP]
 | l :: A,B=>by rw [List.cons_append,sumP,sumP,sumP_append ys A B];omega
theorem sumP_map (ys : List Int) (p : Int × Int) : ∀ A,sumP ys (A.map (p :: ·))=(ys.getD p.1.toNat 0 - ys.getD p.2.toNat 0) * sumP ys A
 | []=>by simp [sumP]
 | l :: A=>by rw [List.map_cons,sumP,sumP,sumP_map ys p A,prodP,Int.mul_add]
theorem sumS_subs (v ys : List Int) : ∀ (r : List Nat) (u h : List Int),sumS v ys r u h=sumP ys (subsW v r u h)
 | [],u,h=>by
   rw [sumS,subsW]
   by_cases e : h=v
   ·rw [if_pos e,if_pos e];simp [sumP,prodP]
   ·rw [if_neg e,if_neg e];rfl
 | k :: r,u,h=>by
   rw [sumS,subsW,sumP_append,sumS_subs v ys r]
   congr 1
   cases ascB k h with
   | true=>rw [if_pos rfl,if_pos rfl,sumP_map,sumS_subs v ys r]
   | false=>rfl
def nd (ys : List Int) (p : Int × Int) : Nat:=(ys.getD p.1.toNat 0 - ys.getD p.2.toNat 0).natAbs
def prodN (ys : List Int) : List (Int × Int)→Nat
 | []=>1
 | p :: l=>nd ys p * prodN ys l
theorem prodP_abs (ys : List Int) : ∀ l,(prodP ys l).natAbs=prodN ys l
 | []=>rfl
 | p :: l=>by rw [prodP,prodN,Int.natAbs_mul,prodP_abs ys l];rfl
theorem prodN_perm (ys : List Int) {a b : List (Int × Int)} (h : a.Perm b) : prodN ys a=prodN ys b:=by
 induction h with
 | nil=>rfl
 | cons x _ ih=>rw [prodN,prodN,ih]
 | swap x y l=>simp only [prodN];rw [Nat.mul_left_comm]
 | trans _ _ a b=>exact a.trans b
def normP (p : Int × Int) : Int × Int:=if p.1≤p.2 then p else (p.2,p.1)
theorem prodN_norm (ys : List Int) : ∀ l,prodN ys (l.map normP)=prodN ys l
 | []=>rfl
 | p :: l=>by
   rw [List.map_cons,prodN,prodN,prodN_norm ys l]
   congr 1
   unfold normP nd
   split
   ·rfl
   ·dsimp only;omega
theorem prodN_small (ys : List Int) (hd : ∀ p,nd ys p≤18) : ∀ l,prodN ys l≤18 ^ l.length
 | []=>Nat.le_refl _
 | p :: l=>by rw [prodN,List.length_cons,Nat.pow_succ,Nat.mul_comm (18 ^ _)];exact Nat.mul_le_mul (hd p) (prodN_small ys hd l)
theorem sumP_abs (ys : List Int) (B : Nat) : ∀ S,(∀ l ∈ S,prodN ys l≤B)→(sumP ys S).natAbs≤S.length * B
 | [],_=>by simp [sumP]
 | l :: S,h=>by
   rw [sumP,List.length_cons,Nat.add_mul,Nat.one_mul]
   have a:=sumP_abs ys B S fun x hx=>h x (List.mem_cons_of_mem _ hx)
   have b:=h l List.mem_cons_self
   rw [← prodP_abs] at b
   omega
def six : List (Int × Int):=[(0,1),(1,2),(2,3),(0,2),(1,3),(0,3)]
def sixB (a b c : Nat) : Bool :=
 let d01:=if a≤18 then 18 - a else a - 18
 let d12:=if b≤18 then 18 - b else b - 18
 let d23:=if c≤18 then 18 - c else c - 18
 let d02:=if a+b≤36 then 36 - (a+b) else a+b - 36
 let d13:=if b+c≤36 then 36 - (b+c) else b+c - 36
 let d03:=if a+b+c≤54 then 54 - (a+b+c) else a+b+c - 54
 if 18 < d02 then true else if 18 < d13 then true else if 18 < d03 then true else
 Nat.ble (d01 * d12 * d23 * d02 * d13 * d03) 1000000 && (Nat.ble (d12 * d23 * d02 * d13 * d03) 500000 && (Nat.ble (d01 * d23 * d02 * d13 * d03) 500000 && (Nat.ble (d01 * d12 * d02 * d13 * d03) 500000 && (Nat.ble (d01 * d12 * d23 * d13 * d03) 500000 && (Nat.ble (d01 * d12 * d23 * d02 * d03) 500000 && Nat.ble (d01 * d12 * d23 * d02 * d13) 500000)))))
def sixAll : Bool:=(List.range 37).all fun a=>(List.range 37).all fun b=>(List.range 37).all fun c=>sixB a b c
theorem six_all : sixAll=true:=by decide +kernel
theorem six_at {ys : List Int} (hy9 : ∀ i : Nat,-9≤ys.getD i 0∧ys.getD i 0≤9) : prodN ys six≤1000000 ∧ ∀ i : Fin 6,prodN ys (six.eraseIdx i.val)≤500000:=by
 have h0:=hy9 0
 have h1:=hy9 1
 have h2:=hy9 2
 have h3:=hy9 3
 obtain ⟨y0,e0⟩ : ∃ y,y=ys.getD 0 0:=⟨_,rfl⟩
 obtain ⟨y1,e1⟩ : ∃ y,y=ys.getD 1 0:=⟨_,rfl⟩
 obtain ⟨y2,e2⟩ : ∃ y,y=ys.getD 2 0:=⟨_,rfl⟩
 obtain ⟨y3,e3⟩ : ∃ y,y=ys.getD 3 0:=⟨_,rfl⟩
 rw [← e0] at h0
 rw [← e1] at h1
 rw [← e2] at h2
 rw [← e3] at h3
 have hs:=six_all
 unfold sixAll at hs
 simp only [List.all_eq_true,List.mem_range] at hs
 have hs:=hs (y1 - y0+18).toNat (by omega) (y2 - y1+18).toNat (by omega) (y3 - y2+18).toNat (by omega)
 obtain ⟨d01,g01⟩ : ∃ d,d=(y0 - y1).natAbs:=⟨_,rfl⟩
 obtain ⟨d12,g12⟩ : ∃ d,d=(y1 - y2).natAbs:=⟨_,rfl⟩
 obtain ⟨d23,g23⟩ : ∃ d,d=(y2 - y3).natAbs:=⟨_,rfl⟩
 obtain ⟨d02,g02⟩ : ∃ d,d=(y0 - y2).natAbs:=⟨_,rfl⟩
 obtain ⟨d13,g13⟩ : ∃ d,d=(y1 - y3).natAbs:=⟨_,rfl⟩
 obtain ⟨d03,g03⟩ : ∃ d,d=(y0 - y3).natAbs:=⟨_,rfl⟩
 unfold sixB at hs
 have r01 : (if (y1 - y0+18).toNat≤18 then 18 - (y1 - y0+18).toNat else (y1 - y0+18).toNat - 18)=d01:=by split <;> omega
 have r12 : (if (y2 - y1+18).toNat≤18 then 18 - (y2 - y1+18).toNat else (y2 - y1+18).toNat - 18)=d12:=by split <;> omega
 have r23 : (if (y3 - y2+18).toNat≤18 then 18 - (y3 - y2+18).toNat else (y3 - y2+18).toNat - 18)=d23:=by split <;> omega
 have r02 : (if (y1 - y0+18).toNat+(y2 - y1+18).toNat≤36 then 36 - ((y1 - y0+18).toNat+(y2 - y1+18).toNat) else (y1 - y0+18).toNat+(y2 - y1+18).toNat - 36)=d02:=by split <;> omega
 have r13 : (if (y2 - y1+18).toNat+(y3 - y2+18).toNat≤36 then 36 - ((y2 - y1+18).toNat+(y3 - y2+18).toNat) else (y2 - y1+18).toNat+(y3 - y2+18).toNat - 36)=d13:=by split <;> omega
 have r03 : (if (y1 - y0+18).toNat+(y2 - y1+18).toNat+(y3 - y2+18).toNat≤54 then 54 - ((y1 - y0+18).toNat+(y2 - y1+18).toNat+(y3 - y2+18).toNat) else (y1 - y0+18).toNat+(y2 - y1+18).toNat+(y3 - y2+18).toNat - 54)=d03:=by split <;> omega
 rw [r01,r12,r23,r02,r13,r03] at hs
 rw [if_neg (by omega),if_neg (by omega),if_neg (by omega)] at hs
 simp only [Bool.and_eq_true,Nat.ble_eq] at hs
 have n01 : nd ys (0,1)=d01:=by rw [g01,e0,e1];rfl
 have n12 : nd ys (1,2)=d12:=by rw [g12,e1,e2];rfl
 have n23 : nd ys (2,3)=d23:=by rw [g23,e2,e3];rfl
 have n02 : nd ys (0,2)=d02:=by rw [g02,e0,e2];rfl
 have n13 : nd ys (1,3)=d13:=by rw [g13,e1,e3];rfl
 have n03 : nd ys (0,3)=d03:=by rw [g03,e0,e3];rfl
 obtain ⟨s0,s1,s2,s3,s4,s5,s6⟩:=hs
 refine ⟨?_,fun i=> ?_⟩
 ·simp only [six,prodN,n01,n12,n23,n02,n13,n03,Nat.mul_one]
  simpa only [Nat.mul_assoc] using s0
 ·match i with
  | ⟨0,_⟩=>simp only [six,List.eraseIdx,prodN,n01,n12,n23,n02,n13,n03,Nat.mul_one];simpa only [Nat.mul_assoc] using s1
  | ⟨1,_⟩=>simp only [six,List.eraseIdx,prodN,n01,n12,n23,n02,n13,n03,Nat.mul_one];simpa only [Nat.mul_assoc] using s2
  | ⟨2,_⟩=>simp only [six,List.eraseIdx,prodN,n01,n12,n23,n02,n13,n03,Nat.mul_one];simpa only [Nat.mul_assoc] using s3
  | ⟨3,_⟩=>simp only [six,List.eraseIdx,prodN,n01,n12,n23,n02,n13,n03,Nat.mul_one];simpa only [Nat.mul_assoc] using s4
  | ⟨4,_⟩=>simp only [six,List.eraseIdx,prodN,n01,n12,n23,n02,n13,n03,Nat.mul_one];simpa only [Nat.mul_assoc] using s5
  | ⟨5,_⟩=>simp only [six,List.eraseIdx,prodN,n01,n12,n23,n02,n13,n03,Nat.mul_one];simpa only [Nat.mul_assoc] using s6
  | ⟨k+6,h⟩=>omega
def bndS (S : List (List (Int × Int))) : Bool :=
 (decide (S.length≤9) && S.all fun l=>decide (l.length≤4)) || (decide (S.length≤2) && S.all fun l=>(List.range 6).any fun i=>(l.map normP).isPerm (six.eraseIdx i)) || (decide (S.length≤1) && S.all fun l=>(l.map normP).isPerm six)
def bndB (v w : List Int) : Bool:=bndS (subsW v (fstL w) (idL w.length) (idL w.length))
theorem bnd_all : pair4 bndB=true:=by decide +kernel
theorem FW_bound {n : Nat} {ys v w : List Int} (hy : ys.length=n) (h1 : 1≤n) (h4 : n≤4) (hy9 : ∀ x ∈ ys,-9≤x∧x≤9) (hv : P5 n v) (hw : P5 n w) : (FW n ys v w).natAbs≤1000000:=by
 have hb:=pair4_at bnd_all hv hw h4
 have hwd:=wrd_at hw
 have hval:=sum_val hy h1 (by omega) _ (fstL w) v rfl hv hwd.2.1
 rw [hwd.1,sumS_subs] at hval
 rw [hval]
 unfold bndB at hb
 rw [hw.len] at hb
 obtain ⟨S,hS⟩ : ∃ S,S=subsW v (fstL w) (idL n) (idL n):=⟨_,rfl⟩
 rw [← hS] at hb ⊢
 have yr : ∀ i : Nat,-9≤ys.getD i 0∧ys.getD i 0≤9:=fun i=>by
  by_cases hi : i < ys.length
  ·exact hy9 _ (getD_mem hi)
  ·rw [List.getD_eq_getElem?_getD,List.getElem?_eq_none (by omega)];simp
 have hd : ∀ p,nd ys p≤18:=fun p=>by
  have a:=yr p.1.toNat
  have b:=yr p.2.toNat
  unfold nd
  omega
 have h6:=six_at yr
 unfold bndS at hb
 simp only [Bool.or_eq_true,Bool.and_eq_true,List.all_eq_true,decide_eq_true_eq,List.any_eq_true,List.mem_range] at hb
 rcases hb with (⟨a,b⟩ | ⟨a,b⟩) | ⟨a,b⟩
 ·have:=sumP_abs ys (18 ^ 4) S fun l hl=>Nat.le_trans (prodN_small ys hd l) (Nat.pow_le_pow_right (by omega) (b l hl))
  have:=Nat.mul_le_mul_right (18 ^ 4) a
  omega
 ·have:=sumP_abs ys 500000 S fun l hl=>by
   obtain ⟨i,hi,hp⟩:=b l hl
   rw [← prodN_norm,prodN_perm ys (List.isPerm_iff.1 hp)]
   exact h6.2 ⟨i,hi⟩
  have:=Nat.mul_le_mul_right 500000 a
  omega
 ·have:=sumP_abs ys 1000000 S fun l hl=>by
   rw [← prodN_norm,prodN_perm ys (List.isPerm_iff.1 (b l hl))]
   exact h6.1
  have:=Nat.mul_le_mul_right 1000000 a
  omega
theorem Mg.tmod {N a b : Int} (h : Mg N a b) : (a - b).tmod N=0:=by
 obtain ⟨m,rfl⟩:=h
 have : b+N * m - b=N * m:=by omega
 rw [this]
 exact Int.mul_tmod_right N m
end
end Go.Proofs.YtincaodpjdeoeaaGreatDoor
