/-
  A part of the proof of FnTop (texts of one proof, joined).
-/
import Derived.Test.YtijadclebjcckaaGreatJ24
namespace Go.Proofs.YtijadclebjcckaaGreat
set_option linter.all false
set_option maxRecDepth 100000
set_option maxHeartbeats 16000000
section
open Go.RowKit Go.Shelf Go.Sort Go.Lib
theorem seeU_any (wB : World) (lo lo2 bo n m : Nat) (uL uR uB : Value) (p : Puz) (cs : List Cls) (w : World) (h1 : 1≤n) (h4 : n≤4) (hE : Env wB lo lo2 bo cs m w) (hp : pzB n p=true) (hr : RdPz w uL uR uB p) (hm : m < 1000) :
 Calls Tryz.prog 27 #[.agg #[.int .i64 (n : Int),uL,uR,uB],.pointer (some ⟨bo,0,none⟩)] w fun e w' =>
  e=.returned (.bool true)∧Env wB lo lo2 bo (sumdL (pzK n p) 1 cs) (m+1) w'∧FrX lo (fun k=>k=bo) w w':=by
 have Hp:=Lib.hid hp
 have Hr:=Lib.hid hr
 have HE:=Lib.hid hE
 obtain ⟨pL,kL,rfl,_⟩:=hr.L
 obtain ⟨pR,kR,rfl,_⟩:=hr.R
 obtain ⟨pB,kB,rfl,_⟩:=hr.B
 have hst : strOk (thirdL n p)=true:=by
  unfold pzB at hp
  simp only [Bool.and_eq_true,decide_eq_true_eq] at hp
  exact hp.2
 obtain ⟨nL,hL⟩ : ∃ n,n=p.L.length:=⟨_,rfl⟩
 obtain ⟨nR,hR⟩ : ∃ n,n=p.R.length:=⟨_,rfl⟩
 obtain ⟨nB,hB⟩ : ∃ n,n=p.B.length:=⟨_,rfl⟩
 rw [← hL,← hR,← hB] at Hr ⊢
 obtain ⟨W,hW⟩ : ∃ W,W=w.alloc (.cells #[.int .i64 (n : Int),.slice pL nL kL,.slice pR nR kR,.slice pB nB kB] 56):=⟨_,rfl⟩
 have z0 : W.heap[w.heap.size]?=some (.cells #[.int .i64 (n : Int),.slice pL nL kL,.slice pR nR kR,.slice pB nB kB] 56 (0,0)):=by rw [hW];exact heap_alloc_top _ _
 have hb0 : Below w.heap.size w W:=by rw [hW];exact below_alloc w _
 have Hb0:=Lib.hid hb0
 have HW:=Lib.hid hW
 have HS:=Lib.hid (SidesOf_any n _ _ _ p W h1 h4 (Hr.out.below hb0) Hp.out)
 have Hst:=Lib.hid hst
 have Hm:=Lib.hid hm
 clear hst z0 hb0 hW hL hR hB hr hE hm hp
 go_enter Tryz.func27,Tryz.ntmps27
 go_wp2_with fail
 try rw [← HW.out]
 refine HS.out.mono ?_
 rintro e w1 ⟨u1,u2,u3,rfl,ho3,hb1⟩
 have Hb1:=Lib.hid hb1
 have Ho3:=Lib.hid ho3
 clear hb1 ho3 HS
 go_wp2_with fail
 refine (ShapeOfString_any _ _ _ Ho3.out Hst.out).mono ?_
 rintro e w2 ⟨us,rfl,hos,hb2⟩
 have Hb2:=Lib.hid (Hb1.out.trans (hb2.mono Hb1.out.size))
 have Hos:=Lib.hid hos
 obtain ⟨ps,ks,rfl,_,_⟩:=hos
 clear hb2
 obtain ⟨ns,hns⟩ : ∃ ns,ns=(shL (ssR (thirdL n p) (thirdL n p).length)).length:=⟨_,rfl⟩
 rw [← hns] at Hos ⊢
 have HE2:=Lib.hid ((HE.out.below Hb0.out).below Hb2.out)
 obtain ⟨u,hu1,hu2⟩:=HE2.out.out
 obtain ⟨pu,ku,rfl,_,_⟩:=hu2.shape
 have Hu1:=Lib.hid hu1
 have Hu2:=Lib.hid hu2
 obtain ⟨nc,hnc⟩ : ∃ nc,nc=cs.length:=⟨_,rfl⟩
 rw [← hnc] at Hu1 Hu2
 have Hb02:=Lib.hid (Hb0.out.trans (Hb2.out.mono Hb0.out.size))
 have hbo:=cell_of_blk Hu1.out (j:=0) rfl
 have Hnc:=Lib.hid hnc
 have Hns:=Lib.hid hns
 have hblo : bo < w2.heap.size:=blk_lt Hu1.out
 have hns4 : ns≤4:=by
  rw [hns]
  unfold shL
  rw [List.length_take]
  have h1:=ssR_len (thirdL n p) (thirdL n p).length
  have h2 : (thirdL n p).length=n:=by simp [thirdL]
  omega
 have HSm:=Lib.hid (show Calls Tryz.prog 30 #[.slice pu nc ku,.slice ps ns ks,.int .i64 1] w2 fun e w'=> ∃ u',e=.returned u'∧OwnP2 w' lo lo2 w'.heap.size u' (sumdP (pzK n p) 1 cs)∧FrP lo w2 w' from
  (summed_any _ _ cs (pzK n p) 1 lo lo2 w2.heap.size w2 Hu2.out Hos.out HE2.out.asc (by have:=HE2.out.bd.1;have:=Hm.out;omega) (by
    have : (pzK n p).length=ns:=by rw [hns];rfl
    omega) (HE2.out.bd.get (by have:=Hm.out;omega)) (by omega) HE2.out.lo_le HE2.out.lo2_le (Nat.le_refl _)).mono fun e w' ⟨u',he,ho,hf,_,_⟩=>⟨u',he,ho,hf⟩)
 clear hu1 hu2 hnc hns hns4
 go_wp2_with fail
 refine HSm.out.mono ?_
 rintro e w4 ⟨u4,rfl,ho4,hf4⟩
 obtain ⟨p4,n4,k4,rfl⟩ : ∃ p n k,u4=.slice p n k:=by { obtain ⟨p,k,e,_⟩:=ho4.shape;exact ⟨_,_,_,e⟩ }
 have hz4:=(hf4.block bo hblo (Or.inr (not_pt Hu1.out (by decide)))).trans Hu1.out
 have hE':=Lib.hid (Env.add HE2.out (Below.refl _ _) hf4 hz4 ho4 (by unfold wC;omega))
 have hF':=Lib.hid (show FrX lo (fun k=>k=bo) w (w4.setCell ⟨bo,0,none⟩ (.slice p4 n4 k4)) from ((FrX.of_below Hb02.out).trans (FrX.of_p hf4)).setCell (X:=fun k=>k=bo) (a:=⟨bo,0,none⟩) rfl _)
 have hbo4:=cell_of_blk hz4 (j:=0) rfl
 have hfz4:=free_of_blk hz4 0
 clear hz4 hf4 ho4 hbo hblo
 go_wp2_with fail
 go_ret
 exact ⟨rfl,hE'.out,hF'.out⟩
structure Geo (wB : World) (lo lo2 bo gL gR gB bT kT n N : Nat) (C : Array Value) (va vb : Value) (a b : List Int) : Prop where
 n1 : 1≤n
 n4 : n≤4
 hN : N=n * (n+1) / 2
 LR : gL ≠ gR
 LB : gL ≠ gB
 RB : gR ≠ gB
 oL : bo ≠ gL
 oR : bo ≠ gR
 oB : bo ≠ gB
 Tx : bT ≠ bo∧bT ≠ gL∧bT ≠ gR∧bT ≠ gB
 L : wB.heap.size≤gL∧gL < lo2
 R : wB.heap.size≤gR∧gR < lo2
 B : wB.heap.size≤gB∧gB < lo2
 o2 : bo < lo2
 kT6 : 5≤kT
 kTm : kT≤maxLen
 tri : ∀ i,i < 5 → ∀ j,j < 3→C[i * 3+j]?=some (trU i j)
 fa : Ints wB va a
 al : a.length=n
 fb : Ints wB vb b
 bl : b.length=n
structure Pzs (gL gR gB N A : Nat) (p : Puz) (w : World) : Prop where
 arr : ∃ aL aR aB : List Int,aL.length=N∧aR.length=N∧aB.length=N∧Arr w gL aL∧Arr w gR aR∧Arr w gB aB∧aL.take A=p.L∧aR.take A=p.R∧aB.take A=p.B
def blkX (bo gL gR gB k : Nat) : Prop:=k=bo ∨ k=gL ∨ k=gR ∨ k=gB
theorem Pzs.below {gL gR gB N A : Nat} {p : Puz} {w w' : World} (h : Pzs gL gR gB N A p w) (hb : Below w.heap.size w w') : Pzs gL gR gB N A p w':=by
 obtain ⟨aL,aR,aB,h1,h2,h3,h4,h5,h6,h7⟩:=h.arr
 exact ⟨aL,aR,aB,h1,h2,h3,h4.below hb,h5.below hb,h6.below hb,h7⟩
theorem Pzs.seen {lo bo gL gR gB N A : Nat} {p : Puz} {w w' : World} (h : Pzs gL gR gB N A p w) (hf : FrX lo (fun k=>k=bo) w w') (oL : bo ≠ gL) (oR : bo ≠ gR) (oB : bo ≠ gB) : Pzs gL gR gB N A p w':=by
 obtain ⟨aL,aR,aB,h1,h2,h3,h4,h5,h6,h7⟩:=h.arr
 exact ⟨aL,aR,aB,h1,h2,h3,hf.keep h4 (by decide) (fun e=>oL e.symm),hf.keep h5 (by decide) (fun e=>oR e.symm),hf.keep h6 (by decide) (fun e=>oB e.symm),h7⟩
theorem Pzs.rd {gL gR gB N : Nat} {p : Puz} {w : World} (h : Pzs gL gR gB N N p w) (hN : N≤1000) : RdPz w (.slice (some ⟨gL,0,none⟩) N N) (.slice (some ⟨gR,0,none⟩) N N) (.slice (some ⟨gB,0,none⟩) N N) p:=by
 obtain ⟨aL,aR,aB,h1,h2,h3,h4,h5,h6,h7,h8,h9⟩:=h.arr
 have hm : N≤maxLen:=by unfold maxLen;omega
 have e1:=h4.ints (by rw [h1];exact hm)
 have e2:=h5.ints (by rw [h2];exact hm)
 have e3:=h6.ints (by rw [h3];exact hm)
 rw [List.take_of_length_le (by omega)] at h7 h8 h9
 rw [h1,h7] at e1
 rw [h2,h8] at e2
 rw [h3,h9] at e3
 exact ⟨e1,e2,e3⟩
section
variable {wB : World} {lo lo2 bo gL gR gB bT kT n N : Nat} {C : Array Value} {va vb : Value} {a b : List Int}
theorem leafU_any (G : Geo wB lo lo2 bo gL gR gB bT kT n N C va vb a b) (p : Puz) (cs : List Cls) (m : Nat) (w : World) (hE : Env wB lo lo2 bo cs m w) (hP : Pzs gL gR gB N N p w) (hp : pzB n p=true) (hm : m < 1000) :
 Calls Tryz.prog 62 #[.agg #[.int .i64 (n : Int),.slice (some ⟨gL,0,none⟩) N N,.slice (some ⟨gR,0,none⟩) N N,.slice (some ⟨gB,0,none⟩) N N],va,vb,.slice (some ⟨bT,0,none⟩) 5 kT,.int .i64 (n : Int),.int .i64 0,
  .func (.func 27) #[] #[.pointer (some ⟨bo,0,none⟩)]] w fun e w' =>
  e=.returned (.bool true)∧Env wB lo lo2 bo (finU n [p] cs) (m+1) w'∧FrX lo (blkX bo gL gR gB) w w'∧Pzs gL gR gB N N p w':=by
 have hN10 : N≤1000:=by
  rw [G.hN]
  have:=G.n4
  have:=Nat.mul_le_mul G.n4 (show n+1≤5 by omega)
  omega
 have Hr:=Lib.hid (hP.rd hN10)
 obtain ⟨W,hW⟩ : ∃ W,W=w.alloc (.cells #[.int .i64 (n : Int),.slice (some ⟨gL,0,none⟩) N N,.slice (some ⟨gR,0,none⟩) N N,.slice (some ⟨gB,0,none⟩) N N] 56):=⟨_,rfl⟩
 have z0 : W.heap[w.heap.size]?=some (.cells #[.int .i64 (n : Int),.slice (some ⟨gL,0,none⟩) N N,.slice (some ⟨gR,0,none⟩) N N,.slice (some ⟨gB,0,none⟩) N N] 56 (0,0)):=by rw [hW];exact heap_alloc_top _ _
 have hb0 : Below w.heap.size w W:=by rw [hW];exact below_alloc w _
 have HX:=Lib.hid (show ∀ wq,Below W.heap.size W wq→wq.cell? ⟨w.heap.size,1,none⟩=some (.slice (some ⟨gL,0,none⟩) N N)∧wq.cell? ⟨w.heap.size,2,none⟩=some (.slice (some ⟨gR,0,none⟩) N N)∧wq.cell? ⟨w.heap.size,3,none⟩=some (.slice (some ⟨gB,0,none⟩) N N) from fun wq hq =>
  ⟨cell_below hq (cell_of_blk z0 (j:=1) rfl),cell_below hq (cell_of_blk z0 (j:=2) rfl),cell_below hq (cell_of_blk z0 (j:=3) rfl)⟩)
 have Hb0:=Lib.hid hb0
 have HW:=Lib.hid hW
 have HE:=Lib.hid hE
 have HP:=Lib.hid hP
 have Hp:=Lib.hid hp
 have Hm:=Lib.hid hm
 have HG:=Lib.hid G
 have hlen:=hp
 unfold pzB at hlen
 simp only [Bool.and_eq_true,decide_eq_true_eq] at hlen
 obtain ⟨⟨⟨⟨hl,hr⟩,hb⟩,_⟩,_⟩:=hlen
 rw [← G.hN] at hl hr hb
 have key : ∀ (g : Nat) (xs : List Int),xs.length=N→Ints w (.slice (some ⟨g,0,none⟩) N N) xs → ∀ wx,Below W.heap.size W wx→Calls Tryz.prog 42 #[.slice (some ⟨g,0,none⟩) N N] wx fun e w'=> ∃ q k,e=.returned (.slice q N k)∧Ints w' (.slice q N k) xs∧Below W.heap.size W w'∧Below wx.heap.size wx w':=fun g xs hx hi wx hw =>
  (clone_any _ xs wx ((hi.below hb0).below hw) (by omega)).mono fun e w' ⟨u,he,ho,hb⟩=>by
    obtain ⟨q,k,hu,_,_⟩:=ho.shape
    subst hu
    have hI:=ho.ints
    rw [hx] at he hI
    exact ⟨q,k,he,hI,hw.trans (hb.mono hw.size),hb⟩
 have HL:=Lib.hid (key gL p.L hl Hr.out.L)
 have HR:=Lib.hid (key gR p.R hr Hr.out.R)
 have HB:=Lib.hid (key gB p.B hb Hr.out.B)
 have HC:=Lib.hid (show ∀ wx uL uR uB,Below W.heap.size W wx→RdPz wx uL uR uB p→Calls Tryz.prog 27 #[.agg #[.int .i64 (n : Int),uL,uR,uB],.pointer (some ⟨bo,0,none⟩)] wx fun e w' =>
  e=.returned (.bool true)∧Env wB lo lo2 bo (finU n [p] cs) (m+1) w'∧FrX lo (blkX bo gL gR gB) w w'∧Pzs gL gR gB N N p w'∧(w'.cell? ⟨w.heap.size,1,none⟩=some (.slice (some ⟨gL,0,none⟩) N N)∧w'.cell? ⟨w.heap.size,2,none⟩=some (.slice (some ⟨gR,0,none⟩) N N)∧w'.cell? ⟨w.heap.size,3,none⟩=some (.slice (some ⟨gB,0,none⟩) N N)) from fun wx uL uR uB hw hx =>
  (seeU_any wB lo lo2 bo n m _ _ _ p cs _ G.n1 G.n4 ((hE.below hb0).below hw) hp hx hm).mono fun e w' ⟨he,hE',hF⟩ =>
    ⟨he,hE',(FrX.of_below (hb0.trans (hw.mono hb0.size))).trans (hF.mono fun k e=>.inl e),((hP.below hb0).below hw).seen hF G.oL G.oR G.oB,by
      have z9:=hF.keep (blk_later z0 hw) (by decide) (fun e=>by obtain ⟨u,q,_⟩:=hE.out;have:=blk_lt q;omega)
      exact ⟨cell_of_blk z9 (j:=1) rfl,cell_of_blk z9 (j:=2) rfl,cell_of_blk z9 (j:=3) rfl⟩⟩)
 have x0:=cell_of_blk z0 (j:=0) rfl
 have Hd:=(Below.refl W.heap.size W).drew
 obtain ⟨pa,na,ka,rfl⟩ : ∃ p n k,va=.slice p n k:=by obtain ⟨p,k,e,_⟩:=G.fa;exact ⟨_,_,_,e⟩
 obtain ⟨pb,nb,kb,rfl⟩ : ∃ p n k,vb=.slice p n k:=by obtain ⟨p,k,e,_⟩:=G.fb;exact ⟨_,_,_,e⟩
 clear key hl hr hb z0 hb0 hW hE hP hp hm G hN10 Hr HE HP Hp Hm HG
 go_enter Tryz.func62,Tryz.ntmps62
 go_wp2_with fail
 rw [← HW.out]
 go_wp2_with fail
 go_region_held3 (fun w'=>w'.cell? ⟨w.heap.size,1,none⟩=some (.slice (some ⟨gL,0,none⟩) N N)∧w'.cell? ⟨w.heap.size,2,none⟩=some (.slice (some ⟨gR,0,none⟩) N N)∧w'.cell? ⟨w.heap.size,3,none⟩=some (.slice (some ⟨gB,0,none⟩) N N)) (first | exact HX.out _ (by assumption) | exact hS9) (first
  | (go_at_call 42;with_reducible refine Calls.mono (HL.out _ (by assumption)) ?_;rintro e wL ⟨qL,kL,rfl,oL,cL,bL⟩)
  | (go_at_call 42;with_reducible refine Calls.mono (HR.out _ (by assumption)) ?_;rintro e wR ⟨qR,kR,rfl,oR,cR,bR⟩)
  | (go_at_call 42;with_reducible refine Calls.mono (HB.out _ (by assumption)) ?_;rintro e wZ ⟨qB,kB,rfl,oB,cB,bB⟩)
  | (go_at_call 27;with_reducible refine Calls.mono (HC.out _ _ _ _ (by assumption) ⟨by first | exact oL | exact oL.below bR | exact oL.below bB | exact (oL.below bR).below bB | exact (oL.below bB).below bR,by first | exact oR | exact oR.below bL | exact oR.below bB | exact (oR.below bL).below bB | exact (oR.below bB).below bL,by first | exact oB | exact oB.below bR | exact oB.below bL | exact (oB.below bR).below bL | exact (oB.below bL).below bR⟩) ?_;rintro e w9 ⟨rfl,hE9,hF9,hP9,hS9⟩))
 all_goals
  go_wp2_with fail
  go_ret
  exact ⟨rfl,hE9,hF9,hP9⟩
end
theorem atN_next (r : Nat) : atN (r+1) 0=atN r r+1:=by
 unfold atN
 have : (r+1) * (r+1+1)=r * (r+1)+(r+1) * 2:=by rw [Nat.add_mul,Nat.mul_add r (r+1) 1,Nat.one_mul,Nat.mul_one,Nat.add_mul];omega
 rw [this,Nat.add_mul_div_right _ _ (by omega)]
 omega
theorem at_prev {r k : Nat} (hk : k≤r+1) : atN r k≤atN (r+1) 0:=by
 have:=atN_next r
 unfold atN at this ⊢
 omega
theorem Pzs.back {gL gR gB N A : Nat} {p : Puz} {t : Tr} {w : World} (h : Pzs gL gR gB N (A+1) (p.put t) w) (hl : p.L.length=A) (hr : p.R.length=A) (hb : p.B.length=A) : Pzs gL gR gB N A p w:=by
 obtain ⟨aL,aR,aB,h1,h2,h3,h4,h5,h6,h7,h8,h9⟩:=h.arr
 have key : ∀ (x y : List Int) (z : Int),x.take (A+1)=y ++ [z]→y.length=A→x.take A=y:=fun x y z h e=>by
  have : (x.take (A+1)).take A=(y ++ [z]).take A:=by rw [h]
  rw [List.take_take,Nat.min_eq_left (by omega)] at this
  rw [this,List.take_append_of_le_length (by omega),List.take_of_length_le (by omega)]
 exact ⟨aL,aR,aB,h1,h2,h3,h4,h5,h6,key _ _ _ h7 hl,key _ _ _ h8 hr,key _ _ _ h9 hb⟩
theorem take_set_succ {x y : List Int} {A : Nat} (z : Int) (h : x.take A=y) (hA : A < x.length) : (x.set A z).take (A+1)=y ++ [z]:=by
 rw [List.take_add_one,List.take_set_of_le (Nat.le_refl _),h]
 simp [hA]
theorem take_getD {x y : List Int} {A j : Nat} (h : x.take A=y) (hj : j < A) : x.getD j 0=y.getD j 0:=by
 rw [← h,List.getD_eq_getElem?_getD,List.getD_eq_getElem?_getD,List.getElem?_take,if_pos hj]
section
variable {wB : World} {lo lo2 bo gL gR gB bT kT n N : Nat} {C : Array Value} {va vb : Value} {a b : List Int}
structure Tst (wB : World) (lo lo2 bo gL gR gB bT N : Nat) (C : Array Value) (A : Nat) (p : Puz) (cs : List Cls) (m : Nat) (w : World) : Prop where
 env : Env wB lo lo2 bo cs m w
 pz : Pzs gL gR gB N A p w
 tr : w.heap[bT]?=some (.cells C 128 (0,0))
def TPost (wB : World) (lo lo2 bo gL gR gB n N : Nat) (A : Nat) (p : Puz) (ps : List Puz) (cs : List Cls) (m : Nat) (w : World) (e : Ending) (w' : World) : Prop :=
 e=.returned (.bool true)∧Env wB lo lo2 bo (finU n ps cs) (m+ps.length) w'∧FrX lo (blkX bo gL gR gB) w w'∧Pzs gL gR gB N A p w'
def subT (n : Nat) (a b : List Int) (f r k : Nat) (p : Puz) (t : Tr) : List Puz:=if fitU n a b p r k t then (if k=r then tileU n a b f (r+1) 0 (p.put t) else tileU n a b f r (k+1) (p.put t)) else []
def prevT (n : Nat) (a b : List Int) (f r k : Nat) (p : Puz) (j : Nat) : List Puz:=(triU.take j).flatMap (subT n a b f r k p)
theorem prev_succ (f r k : Nat) (p : Puz) {j : Nat} (hj : j < 5) : prevT n a b f r k p (j+1)=prevT n a b f r k p j ++ subT n a b f r k p (triU.getD j trD):=by
 unfold prevT
 rw [trU_take hj,List.flatMap_append,List.flatMap_singleton]
theorem prev_six (f r k : Nat) (p : Puz) : prevT n a b f r k p 5=tileU n a b (f+1) r k p:=rfl
theorem prev_le (f r k : Nat) (p : Puz) : ∀ d j : Nat,j+d≤5→(prevT n a b f r k p j).length≤(prevT n a b f r k p (j+d)).length
 | 0,j,_=>Nat.le_refl _
 | d+1,j,h=>by
   have:=prev_le f r k p d j (by omega)
   rw [show j+(d+1)=j+d+1 by omega,prev_succ f r k p (by omega),List.length_append]
   omega
structure Put3 (wB : World) (lo lo2 bo gL gR gB bT N : Nat) (C : Array Value) (cs : List Cls) (m : Nat) (aL aR aB : List Int) (W w : World) : Prop where
 env : Env wB lo lo2 bo cs m w
 tr : w.heap[bT]?=some (.cells C 128 (0,0))
 L : Arr w gL aL
 R : Arr w gR aR
 B : Arr w gB aB
 fr : FrX lo (blkX bo gL gR gB) W w
theorem Put3.drew {cs : List Cls} {m : Nat} {aL aR aB : List Int} {W w : World} (h : Put3 wB lo lo2 bo gL gR gB bT N C cs m aL aR aB W w) : Put3 wB lo lo2 bo gL gR gB bT N C cs m aL aR aB W w.drew :=
 have hb : Below w.heap.size w w.drew:=(Below.refl _ _).drew
 ⟨h.env.below hb,blk_later h.tr hb,h.L.below hb,h.R.below hb,h.B.below hb,h.fr.trans (FrX.of_below hb)⟩
theorem Put3.setL {cs : List Cls} {m : Nat} {aL aR aB : List Int} {W w : World} (G : Geo wB lo lo2 bo gL gR gB bT kT n N C va vb a b) (h : Put3 wB lo lo2 bo gL gR gB bT N C cs m aL aR aB W w) (A : Nat) (x : Int) : Put3 wB lo lo2 bo gL gR gB bT N C cs m (aL.set A x) aR aB W (w.setCell ⟨gL,A,none⟩ (.int .i64 x)) :=
 ⟨h.env.setInt (a:=⟨gL,A,none⟩) h.L G.L.1 G.L.2 _,(Below.heap_setCell w ⟨gL,A,none⟩ _ bT G.Tx.2.1).trans h.tr,h.L.set A x,h.R.other (p:=⟨gL,A,none⟩) (fun e=>G.LR e.symm) _,h.B.other (p:=⟨gL,A,none⟩) (fun e=>G.LB e.symm) _,h.fr.setCell (.inr (.inl rfl)) _⟩
theorem Put3.setR {cs : List Cls} {m : Nat} {aL aR aB : List Int} {W w : World} (G : Geo wB lo lo2 bo gL gR gB bT kT n N C va vb a b) (h : Put3 wB lo lo2 bo gL gR gB bT N C cs m aL aR aB W w) (A : Nat) (x : Int) : Put3 wB lo lo2 bo gL gR gB bT N C cs m aL (aR.set A x) aB W (w.setCell ⟨gR,A,none⟩ (.int .i64 x)) :=
 ⟨h.env.setInt (a:=⟨gR,A,none⟩) h.R G.R.1 G.R.2 _,(Below.heap_setCell w ⟨gR,A,none⟩ _ bT G.Tx.2.2.1).trans h.tr,h.L.other (p:=⟨gR,A,none⟩) G.LR _,h.R.set A x,h.B.other (p:=⟨gR,A,none⟩) (fun e=>G.RB e.symm) _,h.fr.setCell (.inr (.inr (.inl rfl))) _⟩
theorem Put3.setB {cs : List Cls} {m : Nat} {aL aR aB : List Int} {W w : World} (G : Geo wB lo lo2 bo gL gR gB bT kT n N C va vb a b) (h : Put3 wB lo lo2 bo gL gR gB bT N C cs m aL aR aB W w) (A : Nat) (x : Int) : Put3 wB lo lo2 bo gL gR gB bT N C cs m aL aR (aB.set A x) W (w.setCell ⟨gB,A,none⟩ (.int .i64 x)) :=
 ⟨h.env.setInt (a:=⟨gB,A,none⟩) h.B G.B.1 G.B.2 _,(Below.heap_setCell w ⟨gB,A,none⟩ _ bT G.Tx.2.2.2).trans h.tr,h.L.other (p:=⟨gB,A,none⟩) G.LB _,h.R.other (p:=⟨gB,A,none⟩) G.RB _,h.B.set A x,h.fr.setCell (.inr (.inr (.inr rfl))) _⟩
theorem stepU_any (G : Geo wB lo lo2 bo gL gR gB bT kT n N C va vb a b) (f r k A nr nk : Nat) (p : Puz) (hA : A=atN r k) (hr : r < n) (hk : k≤r) (hAN : A < N) (hl : p.L.length=A) (hlr : p.R.length=A) (hlb : p.B.length=A)
 (hn1 : k=r→nr=r+1∧nk=0) (hn2 : k ≠ r→nr=r∧nk=k+1)
 (hrec : ∀ t ∈ triU,fitU n a b p r k t=true → ∀ cs m w,Tst wB lo lo2 bo gL gR gB bT N C (A+1) (p.put t) cs m w→m+(subT n a b f r k p t).length≤1000 →
   Calls Tryz.prog 62 #[.agg #[.int .i64 (n : Int),.slice (some ⟨gL,0,none⟩) N N,.slice (some ⟨gR,0,none⟩) N N,.slice (some ⟨gB,0,none⟩) N N],va,vb,.slice (some ⟨bT,0,none⟩) 5 kT,.int .i64 (nr : Int),.int .i64 (nk : Int),
    .func (.func 27) #[] #[.pointer (some ⟨bo,0,none⟩)]] w (TPost wB lo lo2 bo gL gR gB n N (A+1) (p.put t) (subT n a b f r k p t) cs m w))
 (cs : List Cls) (m : Nat) (w : World) (hT : Tst wB lo lo2 bo gL gR gB bT N C A p cs m w) (hm : m+(tileU n a b (f+1) r k p).length≤1000) :
 Calls Tryz.prog 62 #[.agg #[.int .i64 (n : Int),.slice (some ⟨gL,0,none⟩) N N,.slice (some ⟨gR,0,none⟩) N N,.slice (some ⟨gB,0,none⟩) N N],va,vb,.slice (some ⟨bT,0,none⟩) 5 kT,.int .i64 (r : Int),.int .i64 (k : Int),
  .func (.func 27) #[] #[.pointer (some ⟨bo,0,none⟩)]] w (TPost wB lo lo2 bo gL gR gB n N A p (tileU n a b (f+1) r k p) cs m w):=by
 have hn4:=G.n4
 have hn0:=G.n1
 have hN10 : N≤1000:=by
  rw [G.hN]
  have:=Nat.mul_le_mul G.n4 (show n+1≤5 by omega)
  omega
 obtain ⟨W,hW⟩ : ∃ W,W=w.alloc (.cells #[.int .i64 (n : Int),.slice (some ⟨gL,0,none⟩) N N,.slice (some ⟨gR,0,none⟩) N N,.slice (some ⟨gB,0,none⟩) N N] 56):=⟨_,rfl⟩
 have z0 : W.heap[w.heap.size]?=some (.cells #[.int .i64 (n : Int),.slice (some ⟨gL,0,none⟩) N N,.slice (some ⟨gR,0,none⟩) N N,.slice (some ⟨gB,0,none⟩) N N] 56 (0,0)):=by rw [hW];exact heap_alloc_top _ _
 have hb0 : Below w.heap.size w W:=by rw [hW];exact below_alloc w _
 have hnx : ¬ blkX bo gL gR gB w.heap.size:=fun e=>by
  have h2:=hT.env.lo2_le
  have:=G.L.2
  have:=G.R.2
  have:=G.B.2
  have:=G.o2
  unfold blkX at e
  omega
 have HX:=Lib.hid (show ∀ wq,FrX lo (blkX bo gL gR gB) W wq→wq.heap[w.heap.size]?=some (.cells #[.int .i64 (n : Int),.slice (some ⟨gL,0,none⟩) N N,.slice (some ⟨gR,0,none⟩) N N,.slice (some ⟨gB,0,none⟩) N N] 56 (0,0)) from fun wq hq=>hq.keep z0 (by decide) hnx)
 have HTr:=Lib.hid (show ∀ wq,FrX lo (blkX bo gL gR gB) W wq→wq.heap[bT]?=some (.cells C 128 (0,0)) from fun wq hq=>hq.keep (blk_later hT.tr hb0) (by decide) (fun e=>by have:=G.Tx;unfold blkX at e;omega))
 have Hb0:=Lib.hid hb0
 have HW:=Lib.hid hW
 have HG:=Lib.hid G
 have HT0:=Lib.hid hT
 have Hm:=Lib.hid hm
 have HA:=Lib.hid hA
 have Hrec:=Lib.hid hrec
 have Hn1:=Lib.hid hn1
 have Hn2:=Lib.hid hn2
 have Hl:=Lib.hid hl
 have Hlr:=Lib.hid hlr
 have Hlb:=Lib.hid hlb
 obtain ⟨ba,oa,ka,rfl,hca⟩ : ∃ b0 o0 c0,va=.slice (some ⟨b0,o0,none⟩) n c0 ∧ ∀ i,i < n→wB.cell? ⟨b0,o0+i,none⟩=some (.int .i64 (a.getD i 0)):=by
  obtain ⟨p,c0,e,_,h⟩:=G.fa
  rw [G.al] at e h
  obtain ⟨b0,o0,e2,h2⟩:=h (by omega)
  subst e2
  exact ⟨b0,o0,c0,e,h2⟩
 obtain ⟨bb,ob,kb,rfl,hcb⟩ : ∃ b0 o0 c0,vb=.slice (some ⟨b0,o0,none⟩) n c0 ∧ ∀ i,i < n→wB.cell? ⟨b0,o0+i,none⟩=some (.int .i64 (b.getD i 0)):=by
  obtain ⟨p,c0,e,_,h⟩:=G.fb
  rw [G.bl] at e h
  obtain ⟨b0,o0,e2,h2⟩:=h (by omega)
  subst e2
  exact ⟨b0,o0,c0,e,h2⟩
 have Hca:=Lib.hid hca
 have Hcb:=Lib.hid hcb
 have x0:=cell_of_blk z0 (j:=0) rfl
 have hrn : ¬ (r : Int)=(n : Int):=by omega
 clear hn1 hn2 hrec hA hT hm hl hlr hlb G hW hb0 z0 hca hcb
 go_enter Tryz.func62,Tryz.ntmps62
 go_wp2_with fail
 rw [← HW.out]
 go_wp2_with fail
 refine (atF_any r k A _ HA.out (by omega) (by omega)).mono ?_
 rintro e w1 ⟨rfl,rfl⟩
 clear hrn x0
 go_wp2_with fail
 go_loopg [44] 5 (fun g i wr=> ∃ j : Nat,j≤5∧g=5 - j∧i=.int .i64 j∧Hid (Env wB lo lo2 bo (finU n (prevT n a b f r k p j) cs) (m+(prevT n a b f r k p j).length) wr)∧Hid (Pzs gL gR gB N A p wr)∧Hid (FrX lo (blkX bo gL gR gB) W wr))
 case atStart=>exact ⟨0,Nat.zero_le _,rfl,rfl,HT0.out.env.below Hb0.out,HT0.out.pz.below Hb0.out,FrX.refl _ _ _⟩
 case round =>
  obtain ⟨j,hj,rfl,rfl,hE,hP,hF⟩:=hrel
  obtain ⟨wo,rfl⟩ : ∃ x : World,x=wr:=⟨_,rfl⟩
  have HE:=Lib.hid hE.out
  have HP:=Lib.hid hP.out
  have HF:=Lib.hid hF.out
  clear hE hP hF
  by_cases hlt : j < 5
  ·have hjz : (j : Int) < 5:=by omega
   obtain ⟨t,ht⟩ : ∃ t,t=triU.getD j trD:=⟨_,rfl⟩
   have Htm:=Lib.hid (show t ∈ triU by rw [ht];exact trU_mem hlt)
   have zT:=HTr.out _ HF.out
   have c0 : wo.cell? ⟨bT,j * 3,none⟩=some (trU j 0):=cell_of_blk zT (HG.out.tri j hlt 0 (by omega))
   have c1:=cell_of_blk zT (HG.out.tri j hlt 1 (by omega))
   have c2:=cell_of_blk zT (HG.out.tri j hlt 2 (by omega))
   unfold trU at c0 c1 c2
   rw [← ht] at c0 c1 c2
   have Ht:=Lib.hid ht
   have Hlt:=Lib.hid hlt
   obtain ⟨x0,x1,x2⟩:=t
   dsimp only at c0 c1 c2
   obtain ⟨W1,hW1⟩ : ∃ W1,W1=wo.alloc (.cells #[.int .i64 x0,.int .i64 x1,.int .i64 x2] 128):=⟨_,rfl⟩
   have zq : W1.heap[wo.heap.size]?=some (.cells #[.int .i64 x0,.int .i64 x1,.int .i64 x2] 128 (0,0)):=by rw [hW1];exact heap_alloc_top _ _
   have hbq : Below wo.heap.size wo W1:=by rw [hW1];exact below_alloc _ _
   have HW1:=Lib.hid hW1
   have Hzq:=Lib.hid zq
   have Hbq:=Lib.hid hbq
   clear ht zT hW1 zq hbq
   go_upto_region 8 with fail
   rw [← HW1.out]
   clear c0 c1 c2
   have Hbase:=Lib.hid (HE.out.base.trans (Hbq.out.mono HE.out.base.size))
   obtain ⟨q1,hq1⟩ : ∃ c,c=(decide (k=0) && !decide (x0=a.getD (n - 1 - r) 0)):=⟨_,rfl⟩
   have Hq1:=Lib.hid hq1
   clear hq1
   go_cut [48] (fun s48 wc=>s48=.bool q1∧Below W1.heap.size W1 wc)
   case first =>
    have d0:=cell_of_blk Hzq.out (j:=0) rfl
    by_cases hk0 : k=0
    ·subst hk0
     obtain ⟨i,hi⟩ : ∃ i,i=n - 1 - r:=⟨_,rfl⟩
     obtain ⟨n1,hn1⟩ : ∃ n1,n1+1=n:=⟨n - 1,by omega⟩
     have hn1z : (n : Int) - 1=(n1 : Int):=by omega
     have hiz : (n1 : Int) - (r : Int)=(i : Int):=by omega
     have hin : (i : Int) < (n : Int):=by omega
     have hin' : i < n:=by omega
     have cA:=cell_below Hbase.out (Hca.out i hin')
     have hw1 : IntKind.i64.wrap (n1 : Int)=(n1 : Int):=k64 (by omega) (by omega)
     have hw2 : IntKind.i64.wrap (i : Int)=(i : Int):=k64 (by omega) (by omega)
     have hfin : q1 = !decide (x0=a.getD i 0):=by rw [Hq1.out,hi];simp
     obtain ⟨av,hav⟩ : ∃ x,x=a.getD i 0:=⟨_,rfl⟩
     rw [← hav] at cA hfin
     clear hi hn1 hav
     by_cases e : x0=av
     ·have hfin2 : q1=false:=by rw [hfin,e];simp
      have Hf:=Lib.hid hfin2
      have hx0 : (x0 != av)=false:=by simp [e]
      clear hfin hfin2 e
      go_quiet (fail)
      go_wp2_with fail
      go_meet
      exact ⟨by rw [Hf.out],Below.of_drewN _ _⟩
     ·have hfin2 : q1=true:=by rw [hfin];simp [e]
      have Hf:=Lib.hid hfin2
      have hx0 : (x0 != av)=true:=by simp [e]
      clear hfin hfin2
      go_quiet (fail)
      go_wp2_with fail
      go_meet
      exact ⟨by rw [Hf.out],Below.of_drewN _ _⟩
    ·have K0 : ((k : Int)=0)=False:=eq_false (by omega)
     have K1 : ((k : Int) == 0)=false:=by simp;omega
     have Hf:=Lib.hid (show q1=false by rw [Hq1.out];simp [hk0])
     go_quiet (fail)
     go_wp2_with fail
     go_meet
     exact ⟨by rw [Hf.out],Below.of_drewN _ _⟩
   case rest =>
    obtain ⟨rfl,hb8⟩:=hcut
    obtain ⟨w8,rfl⟩ : ∃ x : World,x=wc:=⟨_,rfl⟩
    have Hb8:=Lib.hid hb8
    clear hb8
    have Hskip:=Lib.hid (show fitU n a b p r k (x0,x1,x2)=false → ∀ wx,Below wo.heap.size wo wx→Env wB lo lo2 bo (finU n (prevT n a b f r k p (j+1)) cs) (m+(prevT n a b f r k p (j+1)).length) wx∧Pzs gL gR gB N A p wx∧FrX lo (blkX bo gL gR gB) W wx from fun hno wx hwx=>by
     have e : prevT n a b f r k p (j+1)=prevT n a b f r k p j:=by
      rw [prev_succ f r k p hlt,← Ht.out]
      unfold subT
      rw [if_neg (by rw [hno];decide),List.append_nil]
     rw [e]
     exact ⟨HE.out.below hwx,HP.out.below hwx,HF.out.trans (FrX.of_below hwx)⟩)
    cases q1 with
    | true =>
      go_wp2_with fail
      go_roundg (5 - (j+1))
      case measure=>omega
      case rel =>
       have hno : fitU n a b p r k (x0,x1,x2)=false:=by
        unfold fitU
        dsimp only
        rw [← Hq1.out]
        rfl
       obtain ⟨s1,s2,s3⟩:=Hskip.out hno _ (Hbq.out.trans (Hb8.out.mono Hbq.out.size))
       exact ⟨j+1,by omega,rfl,by go_num,s1,s2,s3⟩
    | false =>
      have Hb8w:=Lib.hid (Hbq.out.trans (Hb8.out.mono Hbq.out.size))
      have Hz8:=Lib.hid (blk_later Hzq.out Hb8.out)
      have Hx8:=Lib.hid (blk_later (HX.out _ HF.out) Hb8w.out)
      have Ht8:=Lib.hid (blk_later (HTr.out _ HF.out) Hb8w.out)
      have HP8:=Lib.hid (HP.out.below Hb8w.out)
      obtain ⟨q2,hq2⟩ : ∃ c,c=(decide (0 < k) && !decide ((x0,p.R.getD (A - 1) 0,p.B.getD (atN (r - 1) (k - 1)) 0) ∈ triU)):=⟨_,rfl⟩
      have Hq2:=Lib.hid hq2
      clear hq2
      have hmix : Tryz.prog.follows .mixedOrders=true:=by kernel_rfl
      have Hmix:=Lib.hid hmix
      clear hmix
      go_upto_region 9 with fail
      go_cut [63] (fun s63 wc=>s63=.bool q2∧Below w8.heap.size w8 wc)
      case first =>
       by_cases hk0 : 0 < k
       ·have hkz0 : (0 : Int) < (k : Int):=by omega
        obtain ⟨k1,hk1⟩ : ∃ k1,k1+1=k:=⟨k - 1,by omega⟩
        obtain ⟨r1,hr1⟩ : ∃ r1,r1+1=r:=⟨r - 1,by omega⟩
        have hkz : (k : Int) - 1=(k1 : Int):=by omega
        have hrz : (r : Int) - 1=(r1 : Int):=by omega
        obtain ⟨A2,hA2⟩ : ∃ A2,A2=atN r1 k1:=⟨_,rfl⟩
        have hA2A : A2 < A:=by
         have h1:=at_prev (r:=r1) (k:=k1) (by omega)
         have h2:=HA.out
         have h3 : atN r k=atN (r1+1) 0+k:=by rw [hr1];unfold atN;omega
         rw [hr1] at h1 h3
         omega
        obtain ⟨A1,hA1⟩ : ∃ A1,A1+1=A:=⟨A - 1,by omega⟩
        have hAz : (A : Int) - 1=(A1 : Int):=by omega
        obtain ⟨aL,aR,aB,l1,l2,l3,gl,gr,gb,t1,t2,t3⟩:=HP8.out.arr
        have hA1N : A1 < N:=by omega
        have hA2N : A2 < N:=by omega
        obtain ⟨y1,hy1⟩ : ∃ y,y=p.R.getD A1 0:=⟨_,rfl⟩
        obtain ⟨y2,hy2⟩ : ∃ y,y=p.B.getD A2 0:=⟨_,rfl⟩
        have gR1 : w8.cell? ⟨gR,A1,none⟩=some (.int .i64 y1):=by rw [hy1,← take_getD t2 (show A1 < A by omega)];exact gr.cell (by omega)
        have gB1 : w8.cell? ⟨gB,A2,none⟩=some (.int .i64 y2):=by rw [hy2,← take_getD t3 hA2A];exact gb.cell (by omega)
        obtain ⟨bt,hbt⟩ : ∃ bt,bt=decide ((x0,y1,y2) ∈ triU):=⟨_,rfl⟩
        have Hf:=Lib.hid (show q2 = !bt by
         rw [Hq2.out,hbt,hy1,hy2,hA2,← hA1,← hk1,← hr1,Nat.add_sub_cancel,Nat.add_sub_cancel,Nat.add_sub_cancel]
         simp)
        have hRd : RdU w8 (.slice (some ⟨bT,0,none⟩) 5 kT):=⟨_,kT,rfl,⟨HG.out.kT6,HG.out.kTm⟩,fun _=>⟨bT,rfl,fun i hi j hj=>cell_of_blk Ht8.out (HG.out.tri i hi j hj)⟩⟩
        have gb0:=fun n' os=>grow_bel w8 n' os
        have e2:=fun n' os=>cell_below (gb0 n' os) (cell_of_blk Hx8.out (j:=2) rfl)
        have e3:=fun n' os=>cell_below (gb0 n' os) (cell_of_blk Hx8.out (j:=3) rfl)
        have f0:=fun n' os=>cell_below (gb0 n' os) (cell_of_blk Hz8.out (j:=0) rfl)
        have f1:=fun n' os=>cell_below (gb0 n' os) gR1
        have f2:=fun n' os=>cell_below (gb0 n' os) gB1
        have p1:=fun n' os=>atZ r1 k1 A2 (grow (atd w8 n') os) hA2 (by omega) (by omega)
        have qC:=fun n' os=>con3U (.slice (some ⟨bT,0,none⟩) 5 kT) x0 y1 y2 bt (grow (atd w8 n') os) (hRd.below (gb0 n' os)) hbt
        have hA1z : (A1 : Int) < (N : Int):=by omega
        have hA2z : (A2 : Int) < (N : Int):=by omega
        have hw1 : IntKind.i64.wrap (k1 : Int)=(k1 : Int):=k64 (by omega) (by omega)
        have hw2 : IntKind.i64.wrap (r1 : Int)=(r1 : Int):=k64 (by omega) (by omega)
        have hw3 : IntKind.i64.wrap (A1 : Int)=(A1 : Int):=k64 (by omega) (by omega)
        have hv1 : wrap64 (k1 : Int)=(k1 : Int):=w64 (by omega) (by omega)
        have hv2 : wrap64 (r1 : Int)=(r1 : Int):=w64 (by omega) (by omega)
        have hv3 : wrap64 (A1 : Int)=(A1 : Int):=w64 (by omega) (by omega)
        clear hk1 hr1 hA2 hA1 l1 l2 l3 gl gr gb t1 t2 t3 hy1 hy2 gR1 gB1 hbt hRd gb0
        refine wp_region_quiet_z Hmix.out (by kernel_rfl) ?_
        repeat (go_big_quiet_step (first | (with_reducible refine grown_z (p1 _ _)) | (with_reducible refine grown_z (qC _ _))))
        refine wpQuiet_nil ?_
        intro _ hw'
        obtain ⟨⟨nq4,osq4⟩,hw''⟩:=hw'
        subst hw''
        clear e2 e3 f0 f1 f2 p1 qC hkz hrz hAz
        go_wp2_with fail
        go_meet
        exact ⟨by rw [Hf.out],grow_bel _ _ _⟩
       ·have hkz0 : ¬ (0 : Int) < (k : Int):=by omega
        have Hf:=Lib.hid (show q2=false by rw [Hq2.out];simp [hk0])
        refine wp_region_quiet_z Hmix.out (by kernel_rfl) ?_
        repeat (go_big_quiet_step (fail))
        refine wpQuiet_nil ?_
        intro _ hw'
        obtain ⟨⟨nq4,osq4⟩,hw''⟩:=hw'
        subst hw''
        go_wp2_with fail
        go_meet
        exact ⟨by rw [Hf.out],grow_bel _ _ _⟩
      case rest =>
       obtain ⟨rfl,hb9⟩:=hcut
       obtain ⟨w9,rfl⟩ : ∃ x : World,x=wc:=⟨_,rfl⟩
       have Hb9w:=Lib.hid (Hb8w.out.trans (hb9.mono Hb8w.out.size))
       have Hz9:=Lib.hid (blk_later Hz8.out hb9)
       clear hb9
       cases q2 with
       | true =>
         go_wp2_with fail
         go_roundg (5 - (j+1))
         case measure=>omega
         case rel =>
          have hno : fitU n a b p r k (x0,x1,x2)=false:=by
           unfold fitU
           dsimp only
           rw [← HA.out,← Hq1.out,← Hq2.out]
           rfl
          obtain ⟨s1,s2,s3⟩:=Hskip.out hno _ Hb9w.out
          exact ⟨j+1,by omega,rfl,by go_num,s1,s2,s3⟩
       | false =>
         have Hbas9:=Lib.hid (HE.out.base.trans (Hb9w.out.mono HE.out.base.size))
         obtain ⟨q3,hq3⟩ : ∃ c,c=(decide (k=r) && !decide (x1=b.getD r 0)):=⟨_,rfl⟩
         have Hq3:=Lib.hid hq3
         clear hq3
         go_upto_region 10 with fail
         go_cut [89] (fun s89 wc=>s89=.bool q3∧Below w9.heap.size w9 wc)
         case first =>
          have d1:=cell_of_blk Hz9.out (j:=1) rfl
          by_cases hkr : k=r
          ·have cB:=cell_below Hbas9.out (Hcb.out r hr)
           obtain ⟨bv,hbv⟩ : ∃ x,x=b.getD r 0:=⟨_,rfl⟩
           rw [← hbv] at cB
           have hfin : q3 = !decide (x1=bv):=by rw [Hq3.out,hbv];simp [hkr]
           have hkri : ((k : Int) == (r : Int))=true:=by simp [hkr]
           have hkrp : ((k : Int)=(r : Int))=True:=eq_true (by omega)
           have hrz : (r : Int) < (n : Int):=by omega
           clear hbv
           by_cases e : x1=bv
           ·have Hf:=Lib.hid (show q3=false by rw [hfin,e];simp)
            have hx1 : (x1 != bv)=false:=by simp [e]
            clear hfin e hkr
            go_quiet (fail)
            go_wp2_with fail
            go_meet
            exact ⟨by rw [Hf.out],Below.of_drewN _ _⟩
           ·have Hf:=Lib.hid (show q3=true by rw [hfin];simp [e])
            have hx1 : (x1 != bv)=true:=by simp [e]
            clear hfin hkr
            go_quiet (fail)
            go_wp2_with fail
            go_meet
            exact ⟨by rw [Hf.out],Below.of_drewN _ _⟩
          ·have hkri : ((k : Int) == (r : Int))=false:=by simp;omega
           have hkrp : ((k : Int)=(r : Int))=False:=eq_false (by omega)
           have Hf:=Lib.hid (show q3=false by rw [Hq3.out];simp [hkr])
           go_quiet (fail)
           go_wp2_with fail
           go_meet
           exact ⟨by rw [Hf.out],Below.of_drewN _ _⟩
         case rest =>
          obtain ⟨rfl,hb10⟩:=hcut
          obtain ⟨w10,rfl⟩ : ∃ x : World,x=wc:=⟨_,rfl⟩
          have Hb10w:=Lib.hid (Hb9w.out.trans (hb10.mono Hb9w.out.size))
          have Hz10:=Lib.hid (blk_later Hz9.out hb10)
          clear hb10
          cases q3 with
          | true =>
            go_wp2_with fail
            go_roundg (5 - (j+1))
            case measure=>omega
            case rel =>
             have hno : fitU n a b p r k (x0,x1,x2)=false:=by
              unfold fitU
              dsimp only
              rw [← HA.out,← Hq1.out,← Hq2.out,← Hq3.out]
              rfl
             obtain ⟨s1,s2,s3⟩:=Hskip.out hno _ Hb10w.out
             exact ⟨j+1,by omega,rfl,by go_num,s1,s2,s3⟩
          | false =>
            obtain ⟨q4,hq4⟩ : ∃ c,c=(decide (r+1=n) && decide (1 < x2)):=⟨_,rfl⟩
            have Hq4:=Lib.hid hq4
            clear hq4
            obtain ⟨n1,hn1⟩ : ∃ n1,n1+1=n:=⟨n - 1,by omega⟩
            have Hn1':=Lib.hid hn1
            clear hn1
            go_upto_region 11 with fail
            go_cut [102] (fun s102 wc=>s102=.bool q4∧w10=wc)
            case first =>
             have d2:=cell_of_blk Hz10.out (j:=2) rfl
             have hnz : (n : Int) - 1=(n1 : Int):=by have:=Hn1'.out;omega
             have hw1 : IntKind.i64.wrap (n1 : Int)=(n1 : Int):=k64 (by omega) (by omega)
             by_cases hrn : r+1=n
             ·have hrp : ((r : Int)=(n1 : Int))=True:=eq_true (by have:=Hn1'.out;omega)
              have hrb : ((r : Int) == (n1 : Int))=true:=by simp;have:=Hn1'.out;omega
              by_cases e : 1 < x2
              ·have Hf:=Lib.hid (show q4=true by rw [Hq4.out];simp [hrn,e])
               go_wp2_with fail
               go_meet
               exact ⟨by rw [Hf.out],rfl⟩
              ·have Hf:=Lib.hid (show q4=false by rw [Hq4.out];simp [e])
               go_wp2_with fail
               go_meet
               exact ⟨by rw [Hf.out],rfl⟩
             ·have hrp : ((r : Int)=(n1 : Int))=False:=eq_false (by have:=Hn1'.out;omega)
              have hrb : ((r : Int) == (n1 : Int))=false:=by simp;have:=Hn1'.out;omega
              have Hf:=Lib.hid (show q4=false by rw [Hq4.out];simp [hrn])
              go_wp2_with fail
              go_meet
              exact ⟨by rw [Hf.out],rfl⟩
            case rest =>
             obtain ⟨rfl,rfl⟩:=hcut
             cases q4 with
             | true =>
               go_wp2_with fail
               go_roundg (5 - (j+1))
               case measure=>omega
               case rel =>
                have hno : fitU n a b p r k (x0,x1,x2)=false:=by
                 unfold fitU
                 dsimp only
                 rw [← HA.out,← Hq1.out,← Hq2.out,← Hq3.out,← Hq4.out]
                 rfl
                obtain ⟨s1,s2,s3⟩:=Hskip.out hno _ Hb10w.out
                exact ⟨j+1,by omega,rfl,by go_num,s1,s2,s3⟩
             | false =>
               have Hfit:=Lib.hid (show fitU n a b p r k (x0,x1,x2)=true by
                unfold fitU
                dsimp only
                rw [← HA.out,← Hq1.out,← Hq2.out,← Hq3.out,← Hq4.out]
                rfl)
               go_upto_region 12 with fail
               have Hx10:=Lib.hid (blk_later (HX.out _ HF.out) Hb10w.out)
               obtain ⟨aL,aR,aB,l1,l2,l3,gl,gr,gb,t1,t2,t3⟩:=(HP.out.below Hb10w.out).arr
               have HPut0:=Lib.hid (show Put3 wB lo lo2 bo gL gR gB bT N C (finU n (prevT n a b f r k p j) cs) (m+(prevT n a b f r k p j).length) aL aR aB W w10 from ⟨HE.out.below Hb10w.out,blk_later (HTr.out _ HF.out) Hb10w.out,gl,gr,gb,HF.out.trans (FrX.of_below Hb10w.out)⟩)
               have L1:=Lib.hid l1
               have L2:=Lib.hid l2
               have L3:=Lib.hid l3
               have T1:=Lib.hid t1
               have T2:=Lib.hid t2
               have T3:=Lib.hid t3
               clear l1 l2 l3 gl gr gb t1 t2 t3
               go_cut [126] (fun s126 wc=>Put3 wB lo lo2 bo gL gR gB bT N C (finU n (prevT n a b f r k p j) cs) (m+(prevT n a b f r k p j).length) (aL.set A x0) (aR.set A x1) (aB.set A x2) W wc)
               case first =>
                have cL:=HPut0.out.L.cell (j:=A) (by rw [L1.out];exact hAN)
                have cR:=HPut0.out.R.cell (j:=A) (by rw [L2.out];exact hAN)
                have cB:=HPut0.out.B.cell (j:=A) (by rw [L3.out];exact hAN)
                have fL:=HPut0.out.L.free A
                have fR:=HPut0.out.R.free A
                have fB:=HPut0.out.B.free A
                obtain ⟨zL,hzL⟩ : ∃ z,z=aL.getD A 0:=⟨_,rfl⟩
                obtain ⟨zR,hzR⟩ : ∃ z,z=aR.getD A 0:=⟨_,rfl⟩
                obtain ⟨zB,hzB⟩ : ∃ z,z=aB.getD A 0:=⟨_,rfl⟩
                rw [← hzL] at cL
                rw [← hzR] at cR
                rw [← hzB] at cB
                have u1:=cell_of_blk Hx10.out (j:=1) rfl
                have u2:=cell_of_blk Hx10.out (j:=2) rfl
                have u3:=cell_of_blk Hx10.out (j:=3) rfl
                have d0:=cell_of_blk Hz10.out (j:=0) rfl
                have d1:=cell_of_blk Hz10.out (j:=1) rfl
                have d2:=cell_of_blk Hz10.out (j:=2) rfl
                have n1:=HG.out.LR
                have n2:=HG.out.LB
                have n3:=HG.out.RB
                have n4 : gR ≠ gL:=fun e=>n1 e.symm
                have n5 : gB ≠ gL:=fun e=>n2 e.symm
                have n6 : gB ≠ gR:=fun e=>n3 e.symm
                have hsz : w.heap.size≤wo.heap.size:=Nat.le_trans Hb0.out.size HF.out.size
                have m1 : gL ≠ w.heap.size:=fun e=>hnx (.inr (.inl e.symm))
                have m2 : gR ≠ w.heap.size:=fun e=>hnx (.inr (.inr (.inl e.symm)))
                have m3 : gB ≠ w.heap.size:=fun e=>hnx (.inr (.inr (.inr e.symm)))
                have h2:=HE.out.lo2_le
                have o1 : gL ≠ wo.heap.size:=by have:=HG.out.L.2;omega
                have o2 : gR ≠ wo.heap.size:=by have:=HG.out.R.2;omega
                have o3 : gB ≠ wo.heap.size:=by have:=HG.out.B.2;omega
                have hAz : (A : Int) < (N : Int):=by omega
                clear hzL hzR hzB h2 hsz
                go_region_held3 (fun w'=>w'.cell? ⟨w.heap.size,1,none⟩=some (.slice (some ⟨gL,0,none⟩) N N)∧w'.cell? ⟨w.heap.size,2,none⟩=some (.slice (some ⟨gR,0,none⟩) N N)∧w'.cell? ⟨w.heap.size,3,none⟩=some (.slice (some ⟨gB,0,none⟩) N N)∧w'.cell? ⟨wo.heap.size,0,none⟩=some (.int .i64 x0)∧w'.cell? ⟨wo.heap.size,1,none⟩=some (.int .i64 x1)∧w'.cell? ⟨wo.heap.size,2,none⟩=some (.int .i64 x2)) (go_keep) (fail)
                all_goals
                 clear cL cR cB fL fR fB u1 u2 u3 d0 d1 d2
                 go_wp2_with fail
                 go_meet
                 first | exact (((HPut0.out.drew.setL HG.out A x0).setR HG.out A x1).setB HG.out A x2) | exact (((HPut0.out.drew.setL HG.out A x0).setB HG.out A x2).setR HG.out A x1) | exact (((HPut0.out.drew.setR HG.out A x1).setL HG.out A x0).setB HG.out A x2) | exact (((HPut0.out.drew.setR HG.out A x1).setB HG.out A x2).setL HG.out A x0) | exact (((HPut0.out.drew.setB HG.out A x2).setL HG.out A x0).setR HG.out A x1) | exact (((HPut0.out.drew.setB HG.out A x2).setR HG.out A x1).setL HG.out A x0)
               case rest =>
                have hput:=hcut
                obtain ⟨w12,rfl⟩ : ∃ x : World,x=wc:=⟨_,rfl⟩
                have Hput:=Lib.hid hput
                clear hput HPut0 Hx10
                have hsucc:=prev_succ (a:=a) (b:=b) (n:=n) f r k p hlt
                rw [← Ht.out] at hsucc
                have Hsucc:=Lib.hid hsucc
                have hle:=prev_le (a:=a) (b:=b) (n:=n) f r k p (5 - (j+1)) (j+1) (by omega)
                rw [show j+1+(5 - (j+1))=5 by omega,prev_six,hsucc,List.length_append] at hle
                have Hm':=Lib.hid (show m+(prevT n a b f r k p j).length+(subT n a b f r k p (x0,x1,x2)).length≤1000 by have:=Hm.out;omega)
                have HTs:=Lib.hid (show Tst wB lo lo2 bo gL gR gB bT N C (A+1) (p.put (x0,x1,x2)) (finU n (prevT n a b f r k p j) cs) (m+(prevT n a b f r k p j).length) w12 from
                 ⟨Hput.out.env,⟨_,_,_,by rw [List.length_set];exact L1.out,by rw [List.length_set];exact L2.out,by rw [List.length_set];exact L3.out,Hput.out.L,Hput.out.R,Hput.out.B,take_set_succ _ T1.out (by rw [L1.out];exact hAN),take_set_succ _ T2.out (by rw [L2.out];exact hAN),take_set_succ _ T3.out (by rw [L3.out];exact hAN)⟩,Hput.out.tr⟩)
                have HRc:=Lib.hid (Hrec.out _ Htm.out Hfit.out _ _ _ HTs.out Hm'.out)
                have zX:=HX.out _ Hput.out.fr
                have v0:=cell_of_blk zX (j:=0) rfl
                have v1:=cell_of_blk zX (j:=1) rfl
                have v2:=cell_of_blk zX (j:=2) rfl
                have v3:=cell_of_blk zX (j:=3) rfl
                clear hsucc hle zX
                have hend : ∀ w13,Env wB lo lo2 bo (finU n (subT n a b f r k p (x0,x1,x2)) (finU n (prevT n a b f r k p j) cs)) (m+(prevT n a b f r k p j).length+(subT n a b f r k p (x0,x1,x2)).length) w13→FrX lo (blkX bo gL gR gB) w12 w13→Pzs gL gR gB N (A+1) (p.put (x0,x1,x2)) w13 →
                 Env wB lo lo2 bo (finU n (prevT n a b f r k p (j+1)) cs) (m+(prevT n a b f r k p (j+1)).length) w13∧Pzs gL gR gB N A p w13∧FrX lo (blkX bo gL gR gB) W w13:=fun w13 h1 h2 h3=>by
                 rw [Hsucc.out,finU_append,List.length_append,← Nat.add_assoc]
                 exact ⟨h1,h3.back Hl.out Hlr.out Hlb.out,Hput.out.fr.trans h2⟩
                have Hend:=Lib.hid hend
                clear hend
                by_cases hkr : k=r
                ·obtain ⟨e1,e2⟩:=Hn1.out hkr
                 have hrc:=HRc.out
                 rw [show (nr : Int)=(r : Int)+1 by omega,show (nk : Int)=0 by omega] at hrc
                 have HRc1:=Lib.hid hrc
                 have hkri : ((k : Int) == (r : Int))=true:=by simp [hkr]
                 have hkrp : ((k : Int)=(r : Int))=True:=eq_true (by omega)
                 clear hkr hrc e1 e2
                 go_wp2_with fail
                 refine HRc1.out.mono ?_
                 rintro e w13 ⟨rfl,hE13,hF13,hP13⟩
                 have He13:=Lib.hid (Hend.out w13 hE13 hF13 hP13)
                 clear hE13 hF13 hP13 hkri hkrp v0 v1 v2 v3
                 go_wp2_with fail
                 go_roundg (5 - (j+1))
                 case measure=>omega
                 case rel =>
                  obtain ⟨s1,s2,s3⟩:=He13.out
                  exact ⟨j+1,by omega,rfl,by go_num,s1,s2,s3⟩
                ·obtain ⟨e1,e2⟩:=Hn2.out hkr
                 have hrc:=HRc.out
                 rw [show (nr : Int)=(r : Int) by omega,show (nk : Int)=(k : Int)+1 by omega] at hrc
                 have HRc1:=Lib.hid hrc
                 have hkri : ((k : Int) == (r : Int))=false:=by simp;omega
                 have hkrp : ((k : Int)=(r : Int))=False:=eq_false (by omega)
                 clear hkr hrc e1 e2
                 go_wp2_with fail
                 refine HRc1.out.mono ?_
                 rintro e w13 ⟨rfl,hE13,hF13,hP13⟩
                 have He13:=Lib.hid (Hend.out w13 hE13 hF13 hP13)
                 clear hE13 hF13 hP13 hkri hkrp v0 v1 v2 v3
                 go_wp2_with fail
                 go_roundg (5 - (j+1))
                 case measure=>omega
                 case rel =>
                  obtain ⟨s1,s2,s3⟩:=He13.out
                  exact ⟨j+1,by omega,rfl,by go_num,s1,s2,s3⟩
  ·obtain rfl : j=5:=by omega
   go_wp2_with fail
   go_ret
   have he:=HE.out
   rw [prev_six] at he
   exact ⟨rfl,he,(FrX.of_below Hb0.out).trans HF.out,HP.out⟩
end
section
variable {wB : World} {lo lo2 bo gL gR gB bT kT n N : Nat} {C : Array Value} {va vb : Value} {a b : List Int}
theorem tileU_any (G : Geo wB lo lo2 bo gL gR gB bT kT n N C va vb a b) : ∀ (f r k : Nat) (p : Puz) (cs : List Cls) (m : Nat) (w : World),f+atN r k=N→k≤r→r≤n→(r=n→k=0)→p.L.length=atN r k→p.R.length=atN r k→p.B.length=atN r k →
 (∀ q ∈ tileU n a b f r k p,pzB n q=true)→Tst wB lo lo2 bo gL gR gB bT N C (atN r k) p cs m w→m+(tileU n a b f r k p).length≤1000 →
 Calls Tryz.prog 62 #[.agg #[.int .i64 (n : Int),.slice (some ⟨gL,0,none⟩) N N,.slice (some ⟨gR,0,none⟩) N N,.slice (some ⟨gB,0,none⟩) N N],va,vb,.slice (some ⟨bT,0,none⟩) 5 kT,.int .i64 (r : Int),.int .i64 (k : Int),
  .func (.func 27) #[] #[.pointer (some ⟨bo,0,none⟩)]] w (TPost wB lo lo2 bo gL gR gB n N (atN r k) p (tileU n a b f r k p) cs m w)
 | 0,r,k,p,cs,m,w,hf,hk,hr,hrn,h1,h2,h3,hq,hT,hm=>by
   have hNn : N=atN n 0:=G.hN
   have e : r=n:=by
    rcases Nat.lt_or_ge r n with h | h
    ·have:=at_lt G.n4 h hk
     rw [← G.hN] at this
     omega
    ·omega
   obtain rfl:=hrn e
   subst e
   have hA : atN r 0=N:=by omega
   have hp:=hT.pz
   rw [hA] at hp ⊢
   exact leafU_any G p cs m w hT.env hp (hq p (List.mem_singleton.2 rfl)) (by have : (tileU r a b 0 r 0 p).length=1:=rfl;omega)
 | f+1,r,k,p,cs,m,w,hf,hk,hr,hrn,h1,h2,h3,hq,hT,hm=>by
   have hNn : N=atN n 0:=G.hN
   have hrlt : r < n:=by
    rcases Nat.lt_or_ge r n with h | h
    ·exact h
    ·obtain rfl : r=n:=by omega
     obtain rfl:=hrn rfl
     omega
   have hlen : ∀ t : Tr,(p.put t).L.length=atN r k+1∧(p.put t).R.length=atN r k+1∧(p.put t).B.length=atN r k+1:=fun t=>by
    unfold Puz.put
    simp only [List.length_append,List.length_singleton]
    omega
   by_cases e : k=r
   ·refine stepU_any G f r k (atN r k) (r+1) 0 p rfl hrlt hk (by omega) h1 h2 h3 (fun _=>⟨rfl,rfl⟩) (fun c=>absurd e c) (fun t ht hfit cs m w hT hm=> ?_) cs m w hT hm
    have hs : subT n a b f r k p t=tileU n a b f (r+1) 0 (p.put t):=by unfold subT;rw [if_pos hfit,if_pos e]
    rw [hs] at hm ⊢
    have hA : atN r k+1=atN (r+1) 0:=by rw [atN_next,e]
    have hl:=hlen t
    rw [hA] at hT hl ⊢
    refine tileU_any G f (r+1) 0 (p.put t) cs m w (by omega) (by omega) (by omega) (fun _=>rfl) hl.1 hl.2.1 hl.2.2 (fun q hq'=>hq q ?_) hT hm
    show q ∈ triU.flatMap _
    exact List.mem_flatMap.2 ⟨t,ht,by rw [if_pos hfit,if_pos e];exact hq'⟩
   ·refine stepU_any G f r k (atN r k) r (k+1) p rfl hrlt hk (by omega) h1 h2 h3 (fun c=>absurd c e) (fun _=>⟨rfl,rfl⟩) (fun t ht hfit cs m w hT hm=> ?_) cs m w hT hm
    have hs : subT n a b f r k p t=tileU n a b f r (k+1) (p.put t):=by unfold subT;rw [if_pos hfit,if_neg e]
    rw [hs] at hm ⊢
    have hA : atN r k+1=atN r (k+1):=by unfold atN;omega
    have hl:=hlen t
    rw [hA] at hT hl ⊢
    refine tileU_any G f r (k+1) (p.put t) cs m w (by omega) (by omega) (by omega) (fun c=>by omega) hl.1 hl.2.1 hl.2.2 (fun q hq'=>hq q ?_) hT hm
    show q ∈ triU.flatMap _
    exact List.mem_flatMap.2 ⟨t,ht,by rw [if_pos hfit,if_neg e];exact hq'⟩
end
end
section
open Go.RowKit
theorem str_sumOk {s : List Int} (h : strOk s=true) : sumOk s:=by
 unfold strOk at h
 have h:=of_decide_eq_true h
 unfold sumOk
 refine ⟨by omega,fun x hx=> ?_⟩
 have:=h.2.2 (s.getD x 0) (getD_mem hx)
 omega
theorem alike_any (v1 v2 : Value) (a b : List Int) (w : World) (ha : Ints w v1 a) (hb : Ints w v2 b) (sa : strOk a=true) (sb : strOk b=true) (hl : a.length=b.length) (hs : sumI a=sumI b) :
 Calls Tryz.prog 25 #[v1,v2] w fun e w'=>e=.returned (.bool true)∧Qt w w':=by
 have H1:=Lib.hid (implIsString_b v1 a true sa w ha)
 have H2:=Lib.hid (implIsString_b v2 b true sb w hb)
 have H3:=Lib.hid (sumInts_any v1 a w ha (str_sumOk sa))
 have H4:=Lib.hid (fun u (hu : Qt w u)=>sumInts_any v2 b u (hb.qt hu) (str_sumOk sb))
 obtain ⟨p1,k1,rfl,⟨m1,m2⟩,_⟩:=ha
 obtain ⟨p2,k2,rfl,⟨m3,m4⟩,_⟩:=hb
 obtain ⟨s,hse⟩ : ∃ s,s=sumI b:=⟨_,rfl⟩
 rw [hs,← hse] at H3
 rw [← hse] at H4
 rw [hl] at H1 H3 m1 ⊢
 unfold maxLen at m2 m4
 obtain ⟨n,hn⟩ : ∃ n,n=b.length:=⟨_,rfl⟩
 rw [← hn] at H1 H2 H3 H4 m1 m3 ⊢
 clear sa sb hl hs hse hn
 go_enter Tryz.func25,Tryz.ntmps25
 go_wp2_with fail
 refine H1.out.mono ?_
 rintro e w1 ⟨rfl,rfl⟩
 go_wp2_with fail
 refine H2.out.mono ?_
 rintro e w1 ⟨rfl,rfl⟩
 go_wp2_with fail
 refine H3.out.mono ?_
 rintro e w1 ⟨rfl,hq1⟩
 go_wp2_with fail
 refine (H4.out _ hq1).mono ?_
 rintro e w2 ⟨rfl,hq2⟩
 have Hq:=Lib.hid (hq1.trans hq2)
 clear hq1 hq2
 go_wp2_with fail
 go_ret
 exact ⟨rfl,Hq.out⟩
def gsB (n k : Nat) : Bool:=(ishs k (n - k)).all fun sh=>strOk (gsL sh k n) && decide (sumI (gsL sh k n)=(k : Int))
theorem gs_dec : ∀ n : Fin 4,((List.range (n.val+2)).all fun k=>gsB (n.val+1) k)=true:=by decide +kernel
theorem gs_at {n k : Nat} {sh : List Int} (h1 : 1≤n) (h4 : n≤4) (hk : k≤n) (hs : sh ∈ ishs k (n - k)) : strOk (gsL sh k n)=true∧sumI (gsL sh k n)=(k : Int):=by
 have:=gs_dec ⟨n - 1,by omega⟩
 rw [show (⟨n - 1,by omega⟩ : Fin 4).val+1=n by simp;omega,show (⟨n - 1,by omega⟩ : Fin 4).val+2=n+1 by simp;omega] at this
 rw [List.all_eq_true] at this
 have:=this k (List.mem_range.2 (by omega))
 unfold gsB at this
 rw [List.all_eq_true] at this
 have:=this sh hs
 simp only [Bool.and_eq_true,decide_eq_true_eq] at this
 exact this
end
section
open Go.RowKit Go.Shelf Go.Sort Go.Lib
theorem made_zeros (N : Nat) : madeCells #[Value.int .i64 0] N=(ivs (List.replicate N 0)).toArray:=by
 refine Array.ext (by simp [madeCells,ivs]) fun i h1 h2=> ?_
 simp [madeCells,ivs,Nat.mod_one]
theorem OwnS.blk {w : World} {lo hi : Nat} {T : TypeId} {size : Nat} {g n' cap n : Nat} {F : Nat→Nat→Value} (h : OwnS w lo hi T size (.slice (some ⟨g,0,none⟩) n' cap) n F) : ∃ C,w.heap[g]?=some (.cells C T (0,0)) ∧ ∀ i,i < n → ∀ j,j < size→C[i * size+j]?=some (F i j):=by
 obtain ⟨xs,h,hf⟩:=h
 rcases h.1.2 with ⟨e,_⟩ | ⟨g',cap',cur,e,_,hg,_,_,_,ht⟩
 ·injection e with e;cases e
 ·obtain rfl : g=g':=by injection e with e _ _;injection e with e;injection e
  refine ⟨cur,hg,fun i hi j hj=> ?_⟩
  have:=hf i hi j hj
  rw [← ht,List.getElem?_take] at this
  split at this
  ·rw [Array.getElem?_toList] at this;exact this
  ·cases this
theorem blk_al {w : World} {k : Nat} {o : Obj} (h : w.heap[k]?=some o) (o2 : Obj) : (w.alloc o2).heap[k]?=some o:=blk_later h (below_alloc w o2)
theorem bel_al {a w : World} {B : Nat} (h : Below B a w) (hB : B≤a.heap.size) (o : Obj) : Below B a (w.alloc o):=h.trans ((below_alloc w o).mono (Nat.le_trans hB h.size))
theorem blk_drew {w : World} {k : Nat} {o : Obj} (h : w.heap[k]?=some o) : w.drew.heap[k]?=some o:=h
theorem size_drew (w : World) : w.drew.heap.size=w.heap.size:=rfl
theorem tilingsU_any (wB : World) (lo bo n : Nat) (va vb u : Value) (a b : List Int) (w : World) (h1 : 1≤n) (h4 : n≤4) (hB : Below wB.heap.size wB w) (hlo : wB.heap.size≤lo) (hlo2 : lo≤w.heap.size) (hbo : wB.heap.size≤bo)
 (hz : w.heap[bo]?=some (.cells #[u] 27 (0,0))) (ho : OwnPl w lo w.heap.size u [])
 (ha : Ints wB va a) (hal : a.length=n) (hb : Ints wB vb b) (hbl : b.length=n) (hq : ∀ q ∈ puzU n a b,pzB n q=true) (hm : (puzU n a b).length≤1000) :
 Calls Tryz.prog 26 #[va,vb,.bool false,.func (.func 27) #[] #[.pointer (some ⟨bo,0,none⟩)]] w fun e w' =>
  e=.returned (.bool true) ∧ ∃ lo2,Env wB lo lo2 bo (finU n (puzU n a b) []) (puzU n a b).length w':=by
 obtain ⟨N,hN⟩ : ∃ N,N=n * (n+1) / 2:=⟨_,rfl⟩
 have hNa : N=atN n 0:=hN
 have hN10 : N≤1000:=by
  rw [hN]
  have:=Nat.mul_le_mul h4 (show n+1≤5 by omega)
  omega
 obtain ⟨O,hO⟩ : ∃ O : Obj,O=.cells (madeCells #[Value.int .i64 0] N) 3:=⟨_,rfl⟩
 have hmk:=run_make_row' (P:=Tryz.prog) 24 3 (.int .i64 0) 8 Tryz.underlying24 info_int rfl .i64 .i64 N (by omega) (by omega)
 rw [← hO] at hmk
 have HC:=Lib.hid (show ∀ (WX : World) (gL gR gB : Nat) (uT : Value) (w1 w2 : World),Below w.heap.size w WX→OwnS WX w1.heap.size w2.heap.size 128 3 uT 5 trU→WX.heap[gL]?=some O→WX.heap[gR]?=some O→WX.heap[gB]?=some O→(w.heap.size≤gL∧w.heap.size≤gR∧w.heap.size≤gB)→(gL ≠ gR∧gL ≠ gB∧gR ≠ gB) →
  Calls Tryz.prog 62 #[.agg #[.int .i64 (n : Int),.slice (some ⟨gL,0,none⟩) N N,.slice (some ⟨gR,0,none⟩) N N,.slice (some ⟨gB,0,none⟩) N N],va,vb,uT,.int .i64 0,.int .i64 0,
   .func (.func 27) #[] #[.pointer (some ⟨bo,0,none⟩)]] WX fun e w'=>e=.returned (.bool true) ∧ ∃ lo2,Env wB lo lo2 bo (finU n (puzU n a b) []) (puzU n a b).length w' from by
  intro WX gL gR gB uT w1 w2 hbel hT hgL hgR hgB hge hne
  obtain ⟨p,kT,rfl,hk6,hkm,hp⟩:=hT.shape
  obtain ⟨bT,rfl,hb1,hb2,hb3⟩:=hp (by omega)
  obtain ⟨C,hC,hCc⟩:=hT.blk
  have hzX:=blk_later hz hbel
  have hbol:=blk_lt hz
  rw [hO,made_zeros] at hgL hgR hgB
  have hTg : ∀ g c,WX.heap[g]?=some (.cells c 3 (0,0))→bT ≠ g:=fun g c h e=>by
   rw [e,h] at hC
   injection hC with hC
   injection hC with _ hC
   exact absurd hC (by decide)
  have hTo : bT ≠ bo:=fun e=>by
   rw [e,hzX] at hC
   injection hC with hC
   injection hC with _ hC
   exact absurd hC (by decide)
  have hl:=fun g c (h : WX.heap[g]?=some (.cells c 3 (0,0)))=>blk_lt h
  have G : Geo wB lo WX.heap.size bo gL gR gB bT kT n N C va vb a b :=
   ⟨h1,h4,hN,hne.1,hne.2.1,hne.2.2,by omega,by omega,by omega,⟨hTo,hTg _ _ hgL,hTg _ _ hgR,hTg _ _ hgB⟩,⟨by have:=hB.size;omega,hl _ _ hgL⟩,⟨by have:=hB.size;omega,hl _ _ hgR⟩,⟨by have:=hB.size;omega,hl _ _ hgB⟩,blk_lt hzX,hk6,hkm,hCc,ha,hal,hb,hbl⟩
  have hEnv : Env wB lo WX.heap.size bo [] 0 WX:=by
   obtain ⟨g,q1,_⟩:=ho.below hbel
   exact ⟨hB.trans (hbel.mono hB.size),Nat.le_trans hlo2 hbel.size,Nat.le_refl _,hlo,hbo,⟨u,hzX,g,q1.mono (Nat.le_refl _) hbel.size,fun i hi=>absurd hi (Nat.not_lt_zero _)⟩,List.Pairwise.nil,⟨Nat.le_refl _,fun x hx=>absurd hx (List.not_mem_nil)⟩⟩
  have hT0 : Tst wB lo WX.heap.size bo gL gR gB bT N C (atN 0 0) ⟨[],[],[]⟩ [] 0 WX :=
   ⟨hEnv,⟨_,_,_,List.length_replicate,List.length_replicate,List.length_replicate,hgL,hgR,hgB,rfl,rfl,rfl⟩,hC⟩
  have:=tileU_any G N 0 0 ⟨[],[],[]⟩ [] 0 WX (by rfl) (Nat.le_refl _) (by omega) (fun _=>rfl) rfl rfl rfl (by rw [hN];exact hq) hT0 (by rw [hN];unfold puzU at hm;omega)
  refine this.mono ?_
  rintro e w' ⟨he,hE,_,_⟩
  rw [hN,Nat.zero_add] at hE
  exact ⟨he,_,hE⟩)
 have HTr:=Lib.hid (show ∀ wx,Below w.heap.size w wx→Calls Tryz.prog 63 #[.bool false] wx fun e w'=> ∃ u,e=.returned u∧OwnS w' wx.heap.size w'.heap.size 128 3 u 5 trU∧Below wx.heap.size wx w'∧Below w.heap.size w w' from fun wx hx =>
  (triplesU_any wx).mono fun e w' ⟨u,he,ho,hb⟩=>⟨u,he,ho,hb,hx.trans (hb.mono hx.size)⟩)
 have HNa:=Lib.hid hNa
 have hlea : a.length=n:=hal
 obtain ⟨pa,ka,rfl,_⟩:=ha
 obtain ⟨pb,kb,rfl,_⟩:=hb
 rw [hal] at HC ⊢
 have Hmk:=Lib.hid hmk
 clear hz ho hq hm hB hbo hO hN hNa hal hbl hlea
 go_enter Tryz.func26,Tryz.ntmps26
 go_wp2_with fail
 refine (at0F n N _ HNa.out (by omega)).mono ?_
 rintro e w1 ⟨rfl,rfl⟩
 have hd0:=(Below.refl w.heap.size w).drew
 have hmk:=Hmk.out
 go_wp2_with fail
 go_region_with (first
  | (go_at_call 63;with_reducible refine Calls.mono (HTr.out _ (by (repeat (first | assumption | with_reducible refine Below.drew ?_ | with_reducible refine bel_al ?_ (Nat.le_refl _) _ | exact Below.refl _ _)))) ?_;rintro e wT ⟨uT,rfl,oT,bT1,bT2⟩;have sT:=bT1.size;have sT2:=bT2.size;simp only [size_alloc,size_drew] at sT)
  | (go_at_call 62;with_reducible refine Calls.mono (HC.out _ _ _ _ _ _ _ (by (repeat (first | assumption | with_reducible refine Below.drew ?_ | with_reducible refine bel_al ?_ (Nat.le_refl _) _ | exact Below.refl _ _))) (by first | exact oT | exact OwnS.below oT (below_alloc _ _) | exact OwnS.below (OwnS.below oT (below_alloc _ _)) (below_alloc _ _) | exact OwnS.below (OwnS.below (OwnS.below oT (below_alloc _ _)) (below_alloc _ _)) (below_alloc _ _)) (by (repeat (first | with_reducible exact heap_alloc_at _ _ (by first | rfl | (simp only [size_alloc,size_drew];done) | (simp only [size_alloc,size_drew];omega) | omega) | with_reducible refine blk_drew ?_ | with_reducible refine blk_al ?_ _ | with_reducible refine blk_later ?_ bT1))) (by (repeat (first | with_reducible exact heap_alloc_at _ _ (by first | rfl | (simp only [size_alloc,size_drew];done) | (simp only [size_alloc,size_drew];omega) | omega) | with_reducible refine blk_drew ?_ | with_reducible refine blk_al ?_ _ | with_reducible refine blk_later ?_ bT1))) (by (repeat (first | with_reducible exact heap_alloc_at _ _ (by first | rfl | (simp only [size_alloc,size_drew];done) | (simp only [size_alloc,size_drew];omega) | omega) | with_reducible refine blk_drew ?_ | with_reducible refine blk_al ?_ _ | with_reducible refine blk_later ?_ bT1))) (by ((repeat' apply And.intro) <;> first | omega | (simp only [size_alloc,size_drew];omega))) (by ((repeat' apply And.intro) <;> first | omega | (simp only [size_alloc,size_drew];omega)))) ?_;rintro e w9 ⟨rfl,hE9⟩))
 all_goals
  go_wp2_with fail
  go_ret
  exact ⟨rfl,hE9⟩
end
end Go.Proofs.YtijadclebjcckaaGreat
