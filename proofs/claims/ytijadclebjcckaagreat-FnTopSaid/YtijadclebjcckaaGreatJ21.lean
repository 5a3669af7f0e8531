/-
  A part of the proof of FnTop (texts of one proof, joined).
-/
import Derived.Test.YtijadclebjcckaaGreatJ20
namespace Go.Proofs.YtijadclebjcckaaGreat
set_option linter.all false
set_option maxRecDepth 100000
set_option maxHeartbeats 16000000
section
open Go.RowKit Go.Maps Go.WideMaps
def stV (n k j : Nat) : Int:=if j < k then ((n - 1 - j : Nat) : Int) else 0
theorem stV_end (n j : Nat) : stV n n j=((n - 1 - j : Nat) : Int):=by
 unfold stV
 split
 ·rfl
 ·rw [show n - 1 - j=0 by omega];rfl
theorem K7_st (n : Nat) (h7 : n≤7) : K7 6 (stE n):=⟨rfl,fun x hx=>by
 obtain ⟨j,hj,rfl⟩:=List.mem_map.1 hx
 omega⟩
theorem staircase_any (n : Nat) (w : World) (h1 : 1≤n) (h7 : n≤7) :
 Calls Tryz.prog 99 #[.int .i64 (n : Int)] w fun e w'=> ∃ u,e=.returned u∧PolV w' u 6 1 (stP n)∧Below w.heap.size w w':=by
 have hmm:=@run_makeMap Tryz.prog
 have hbd:=buildE
 have h70 : (n : Int)≤7:=by omega
 go_enter Tryz.func99,Tryz.ntmps99
 go_wp2_with fail
 go_loopg [7] n (fun g i wr=> ∃ k : Nat,k≤n∧g=n - k∧i=.int .i64 (k : Int)∧Hid (Below w.heap.size w wr)∧wr.heap.size=w.heap.size+1∧wr.rowIs w.heap.size 107 7 (fun j=>.int .i64 (stV n k j)))
 case atStart =>
  refine ⟨0,Nat.zero_le _,rfl,rfl,Lib.hid (below_alloc _ _),by simp,World.rowIs_alloc w _ _ _ fun i hi=> ?_⟩
  simp at hi
  match i,hi with
  | 0,_ | 1,_ | 2,_ | 3,_ | 4,_ | 5,_ | 6,_=>rfl
 case round =>
  obtain ⟨k,hk,rfl,rfl,hb,hs,hrow⟩:=hrel
  by_cases hlt : k < n
  ·have hki : (k : Int) < (n : Int):=by omega
   have hk7 : (k : Int) < 7:=by omega
   obtain ⟨z,c2⟩ : ∃ z,wr.cell? ⟨w.heap.size,k,none⟩=some (.int .i64 z):=⟨_,hrow.cell (by omega)⟩
   have c3:=hrow.frozen k
   have hv : ((n : Int) - 1 - (k : Int))=((n - 1 - k : Nat) : Int):=by omega
   have Hrow:=Lib.hid hrow
   have Hv:=Lib.hid hv
   clear hrow hv
   go_wp2_with fail
   go_roundg (n - (k+1))
   case measure=>omega
   case rel =>
    refine ⟨k+1,by omega,rfl,by go_num,Lib.hid (hb.out.setCell (Nat.le_refl _) _),by simp [hs],(Hrow.out.set k _).congr fun j hj=> ?_⟩
    unfold stV
    by_cases e : j=k
    ·subst e
     rw [if_pos rfl,if_pos (by omega)]
     rw [← Hv.out]
    ·rw [if_neg e]
     by_cases e2 : j < k
     ·rw [if_pos e2,if_pos (by omega)]
     ·rw [if_neg e2,if_neg (by omega)]
  ·obtain rfl : k=n:=by omega
   have Hrow:=Lib.hid hrow
   have q0:=hrow.cell (i:=0) (by omega)
   have q1:=hrow.cell (i:=1) (by omega)
   have q2:=hrow.cell (i:=2) (by omega)
   have q3:=hrow.cell (i:=3) (by omega)
   have q4:=hrow.cell (i:=4) (by omega)
   have q5:=hrow.cell (i:=5) (by omega)
   have q6:=hrow.cell (i:=6) (by omega)
   rw [stV_end] at q0 q1 q2 q3 q4 q5 q6
   have hkey:=keyOf_kv (K7_st k h7) (by omega)
   have hkd : kv (stE k)=.agg #[.int .i64 ((k - 1 - 0 : Nat) : Int),.int .i64 ((k - 1 - 1 : Nat) : Int),.int .i64 ((k - 1 - 2 : Nat) : Int),.int .i64 ((k - 1 - 3 : Nat) : Int),.int .i64 ((k - 1 - 4 : Nat) : Int),.int .i64 ((k - 1 - 5 : Nat) : Int),.int .i64 ((k - 1 - 6 : Nat) : Int)]:=rfl
   rw [hkd] at hkey
   have hput:=(PolM.empty 6).putNew (e:=stE k) (c:=1) (by omega) (K7_st k h7) rfl (by decide)
   obtain ⟨k0,hk0⟩ : ∃ x,x=kl (stE k):=⟨_,rfl⟩
   rw [← hk0] at hkey hput
   obtain ⟨x0,e0⟩ : ∃ x,x=((k - 1 - 0 : Nat) : Int):=⟨_,rfl⟩
   obtain ⟨x1,e1⟩ : ∃ x,x=((k - 1 - 1 : Nat) : Int):=⟨_,rfl⟩
   obtain ⟨x2,e2⟩ : ∃ x,x=((k - 1 - 2 : Nat) : Int):=⟨_,rfl⟩
   obtain ⟨x3,e3⟩ : ∃ x,x=((k - 1 - 3 : Nat) : Int):=⟨_,rfl⟩
   obtain ⟨x4,e4⟩ : ∃ x,x=((k - 1 - 4 : Nat) : Int):=⟨_,rfl⟩
   obtain ⟨x5,e5⟩ : ∃ x,x=((k - 1 - 5 : Nat) : Int):=⟨_,rfl⟩
   obtain ⟨x6,e6⟩ : ∃ x,x=((k - 1 - 6 : Nat) : Int):=⟨_,rfl⟩
   rw [← e0] at q0
   rw [← e1] at q1
   rw [← e2] at q2
   rw [← e3] at q3
   rw [← e4] at q4
   rw [← e5] at q5
   rw [← e6] at q6
   rw [← e0,← e1,← e2,← e3,← e4,← e5,← e6] at hkey
   have Hput:=Lib.hid hput
   have Hkey:=Lib.hid hkey
   have hown0:=World.ownsMap_made (H:=Unit) wr Tryz.prog 107 (plainElem Tryz.prog 3)
   rw [hs] at hown0
   have Hown0:=Lib.hid hown0
   clear hkd hput hk0 e0 e1 e2 e3 e4 e5 e6 hrow hkey hown0
   go_wp2_with (first
    | (refine wpList_insert_own rfl _ _ _ rfl (w.heap.size+1) 0 _ rfl Hown0.out (by omega) _ _ 1 rfl rfl Hkey.out (by decide) ?_;intro w0 hown1 hg0)
    | fail)
   go_ret
   refine ⟨_,rfl,⟨_,_,rfl,hown1,Hput.out⟩,hb.out.trans (((below_alloc wr (.map #[] 0)).mono (by omega)).trans ?_)⟩
   exact ⟨hg0.os,hg0.tape,hg0.output,hg0.size,fun i hi=>hg0.block i (by simp;omega) (fun e=>by injection e;omega)⟩
theorem trimB_all : all5 (fun w=>permOk (trimL w) && decide (1≤(trimL w).length))=true:=by decide +kernel
theorem P5.trim {n : Nat} {w : List Int} (h : P5 n w) : P5 (trimL w).length (trimL w):=by
 have:=all5_at trimB_all h.ok (by have:=h.len;have:=h.le;omega)
 simp only [Bool.and_eq_true] at this
 refine ⟨this.1,rfl,?_⟩
 have h1:=h.len
 have h2:=h.le
 unfold trimL
 rw [List.length_take]
 omega
theorem schubert_any (n : Nat) (v : Value) (xs : List Int) (w : World) (h : Ints w v xs) (hp : P5 n xs) :
 Calls Tryz.prog 67 #[v] w fun e w'=> ∃ u,e=.returned u∧PolV w' u 6 60466176 (schP xs)∧Below w.heap.size w w':=by
 have Hh:=Lib.hid h
 have Hp:=Lib.hid hp
 have Ht:=Lib.hid hp.trim
 obtain ⟨p,cap,rfl,_,_⟩:=h
 obtain ⟨N,hN⟩ : ∃ N,N=(trimL xs).length:=⟨_,rfl⟩
 have h17:=of_decide_eq_true hp.trim.ok
 have hN5:=hp.trim.le
 rw [← hN] at h17 hN5
 have HN:=Lib.hid hN
 have hN1 : 1≤N:=h17.1
 unfold schP
 rw [← hN]
 clear hp hN h17
 go_enter Tryz.func67,Tryz.ntmps67
 go_wp2_with fail
 refine (implTrim_yes _ xs _ Hh.out Hp.out.ok).mono ?_
 rintro e w1 ⟨u,rfl,ho,hb⟩
 obtain ⟨p1,k1,rfl,_,_⟩:=ho.shape
 have Ho:=Lib.hid ho.ints
 rw [← HN.out] at Ho ⊢
 have Hb:=Lib.hid hb
 clear ho hb
 go_wp2_with fail
 refine (staircase_any N _ hN1 (by omega)).mono ?_
 rintro e w2 ⟨u2,rfl,hpv,hb2⟩
 have Hpv:=Lib.hid hpv
 have Hb2:=Lib.hid (Hb.out.trans (hb2.mono Hb.out.size))
 have Ho2:=Lib.hid (Ho.out.below hb2)
 obtain ⟨b2,D2,rfl,_,_⟩:=hpv
 clear hb2
 go_wp2_with fail
 refine (lowered_any 6 (stP N) (by omega) (by omega) 10 (trimL xs) _ _ 1 _ Ht.out.low (by rw [← HN.out];exact hN5) Hpv.out (by decide) Ho2.out).mono ?_
 rintro e w3 ⟨u3,rfl,hpv3,hb3⟩
 have Hpv3:=Lib.hid hpv3
 have Hb3:=Lib.hid (Hb2.out.trans (hb3.mono Hb2.out.size))
 obtain ⟨b3,D3,rfl,_,_⟩:=hpv3
 clear hb3
 go_wp2_with fail
 go_ret
 exact ⟨_,rfl,Hpv3.out,Hb3.out⟩
def RetTs (w : World) (P : Pl) (v : Value) (w' : World) : Prop:=∃ ts,OwnTd w' w.heap.size w'.heap.size v ts∧TsOk ts∧(∀ g,Ev ts g=Ev P g)∧Below w.heap.size w w'
theorem SchubertPoly_any (n : Nat) (v : Value) (xs : List Int) (w : World) (h : Ints w v xs) (hp : P5 n xs) (h4 : n≤4) :
 Calls Tryz.prog 31 #[v] w fun e w'=> ∃ u,e=.returned (.tuple #[u,.bool true])∧RetTs w (schP xs) u w':=by
 have Hh:=Lib.hid h
 have Hp:=Lib.hid hp
 have Hf:=Lib.hid (sch_fit hp h4)
 obtain ⟨p,cap,rfl,_,_⟩:=h
 clear hp
 go_enter Tryz.func31,Tryz.ntmps31
 go_wp2_with fail
 refine (implIsPerm_any _ xs _ Hh.out).mono ?_
 rintro e w1 ⟨rfl,hb1⟩
 rw [Hp.out.ok]
 have Hb1:=Lib.hid hb1
 clear hb1
 go_wp2_with fail
 refine (schubert_any n _ xs _ (Hh.out.below Hb1.out) Hp.out).mono ?_
 rintro e w2 ⟨u2,rfl,hpv,hb2⟩
 have Hpv:=Lib.hid hpv
 have Hb2:=Lib.hid (Hb1.out.trans (hb2.mono Hb1.out.size))
 obtain ⟨b2,D2,rfl,_,_⟩:=hpv
 clear hb2
 go_wp2_with fail
 refine (closed_any _ 6 _ _ _ _ Hpv.out (by omega) Hf.out.co (fun e _ he=>Hf.out.sup e he) Hf.out.len).mono ?_
 rintro e w3 ⟨u3,ts,rfl,ho,hok,hev,hb3⟩
 have hs:=Hb2.out.size
 have Hr:=Lib.hid (show RetTs w (schP xs) u3 w3 from ⟨ts,ho.mono hs (Nat.le_refl _),hok,hev,Hb2.out.trans (hb3.mono hs)⟩)
 obtain ⟨p3,k3,rfl,_,_⟩:=ho.shape
 clear ho hok hev hb3
 go_wp2_with fail
 go_ret2
 exact ⟨_,rfl,Hr.out⟩
end
section
open Go.RowKit Go.Maps Go.WideMaps Go.WideElems Go.MapKept Go.ChangeMaps Go.ChangeShapes
theorem lowered7_any (d : Nat) (P : Pl) (hd : d < 1000000) (hd1 : 1≤d) : ∀ (f : Nat) (xs : List Int) (u vw : Value) (nf : Nat) (w : World),lowOk f xs=true→xs.length≤7→PolV w u d nf P→nf * d ^ f < 1000000000000000→Ints w vw xs →
 Calls Tryz.prog 98 #[vw,u,.func (.func 100) #[] #[]] w fun e w'=> ∃ u',e=.returned u'∧PolV w' u' d (nf * d ^ f) (lowP f xs P)∧Below w.heap.size w w':=by
 intro f
 induction f using Nat.strongRecOn with
 | _ f ih =>
   intro xs u vw nf w hok hl hp hn hw
   have Hp:=Lib.hid hp
   have Hw:=Lib.hid hw
   have hge0 : nf≤nf * d ^ f:=Nat.le_mul_of_pos_right _ (Nat.pow_pos hd1)
   have hasc : ∀ k,fasc xs=some k → ∃ f',f=f'+1∧lowOk f' (swapL xs k (k+1))=true∧lowP f xs P=dvP k (lowP f' (swapL xs k (k+1)) P):=fun k hk=>by
    cases f with
    | zero=>unfold lowOk at hok;rw [hk] at hok;cases hok
    | succ f'=>exact ⟨f',rfl,by unfold lowOk at hok;rw [hk] at hok;exact hok,by rw [lowP,hk]⟩
   have hnone : fasc xs=none→lowP f xs P=P:=fun hk=>by
    cases f with
    | zero=>rfl
    | succ f'=>rw [lowP,hk]
   have Hasc:=Lib.hid hasc
   have Hnone:=Lib.hid hnone
   have Ih:=Lib.hid ih
   have Hn:=Lib.hid hn
   have Hge:=Lib.hid hge0
   obtain ⟨T,hT⟩ : ∃ T,T=nf * d ^ f:=⟨_,rfl⟩
   have HT:=Lib.hid hT
   rw [← hT]
   obtain ⟨pw,cw,rfl,⟨hw1,hw2⟩,hwc⟩:=hw
   obtain ⟨bf,Df,rfl,hf1,hf2⟩:=hp
   unfold maxLen at hw2
   have Hwc:=Lib.hid hwc
   obtain ⟨R,hR⟩ : ∃ R,R=lowP f xs P:=⟨_,rfl⟩
   have HR:=Lib.hid hR
   rw [← hR]
   clear hwc hf1 hf2 hok ih hT hasc hnone hn hge0 hR
   go_enter Tryz.func98,Tryz.ntmps98
   go_wp2_with fail
   go_loopg [7,11] xs.length (fun g s7 s11 wr=> ∃ k : Nat,k≤xs.length∧g=xs.length - k∧s11=.int .i64 (k : Int)∧Qt w wr∧Hid (∀ j,j < k → ¬ xs.getD j 0 < xs.getD (j+1) 0))
   case atStart=>exact ⟨0,by omega,rfl,rfl,Qt.refl _,Lib.hid fun j hj=>absurd hj (Nat.not_lt_zero _)⟩
   case round =>
    obtain ⟨k,hk,rfl,rfl,hq,hpre⟩:=hrel
    obtain ⟨wx,rfl⟩ : ∃ x : World,x=wr:=⟨_,rfl⟩
    by_cases hkl : k+1 < xs.length
    ·have hki : (k : Int) < (xs.length : Int) - 1:=by omega
     obtain ⟨bw,ow,rfl,hc⟩:=Hwc.out (by omega)
     have c1:=hq.cell (hc k (by omega))
     have c2:=hq.cell (hc (k+1) hkl)
     unfold iv at c1 c2
     obtain ⟨x,hx⟩ : ∃ x,x=xs.getD k 0:=⟨_,rfl⟩
     obtain ⟨y,hy⟩ : ∃ y,y=xs.getD (k+1) 0:=⟨_,rfl⟩
     rw [← hx] at c1
     rw [← hy] at c2
     have Hx:=Lib.hid hx
     have Hy:=Lib.hid hy
     have HQ:=Lib.hid hq
     have hk1 : (k : Int) < (xs.length : Int):=by omega
     have hk2 : (k : Int)+1 < (xs.length : Int):=by omega
     clear hx hy hc hq
     by_cases hxy : x < y
     ·go_wp2_with fail
      go_quiet (fail)
      have HQ1:=Lib.hid (HQ.out.drewN nq)
      go_wp2_with fail
      obtain ⟨f',hf',hok',hlow⟩:=Hasc.out k (fasc_some (by omega) (by rw [← Hx.out,← Hy.out];exact hxy) fun j hj=>Int.not_lt.2 (by have:=hpre.out j hj;omega))
      have Hlow:=Lib.hid hlow
      have Hok':=Lib.hid hok'
      have Hf':=Lib.hid hf'
      clear hlow hok' hf'
      refine (exchanged_any _ xs k (k+1) _ (Hw.out.qt HQ1.out) (by omega) hkl (by omega) (by omega)).mono ?_
      rintro e w1 ⟨ue,rfl,hoe,hbe⟩
      have Hoe:=Lib.hid hoe.ints
      obtain ⟨pe,ke,rfl,_,_⟩:=hoe.shape
      have Hb1:=Lib.hid ((HQ1.out.below w.heap.size).trans (hbe.mono (Nat.le_of_eq HQ1.out.size.symm)))
      clear hoe hbe
      go_wp2_with fail
      have hT0 : nf * d ^ f' * d=T:=by rw [HT.out,Hf'.out,Nat.pow_succ,Nat.mul_assoc]
      have hT1 : nf * d ^ f'≤T:=by rw [← hT0];exact Nat.le_mul_of_pos_right _ (by omega)
      have HT0:=Lib.hid hT0
      clear hT0
      refine (Ih.out f' (by have:=Hf'.out;omega) (swapL xs k (k+1)) _ _ nf _ Hok'.out (by rw [swapL_length];exact hl) (Hp.out.below Hb1.out) (by have:=Hn.out;have:=HT.out;omega) Hoe.out).mono ?_
      rintro e w2 ⟨u2,rfl,hp2,hb2⟩
      have Hp2:=Lib.hid hp2
      obtain ⟨b2,D2,rfl,_,_⟩:=hp2
      have Hb2:=Lib.hid (Hb1.out.trans (hb2.mono Hb1.out.size))
      clear hb2
      go_wp2_with fail
      refine (divided7_any _ k d (nf * d ^ f') _ _ Hp2.out (by omega) hd (by rw [HT0.out];have:=Hn.out;have:=HT.out;omega)).mono ?_
      rintro e w3 ⟨u3,rfl,hp3,hb3⟩
      have Hp3:=Lib.hid hp3
      have Hb3:=Lib.hid (Hb2.out.trans (hb3.mono Hb2.out.size))
      obtain ⟨b3,D3,rfl,_,_⟩:=hp3
      clear hb3
      go_wp2_with fail
      go_ret
      refine ⟨_,rfl,?_,Hb3.out⟩
      rw [HR.out,Hlow.out,← HT0.out]
      exact Hp3.out
     ·go_wp2_with fail
      go_quiet (fail)
      have HQ1:=Lib.hid (HQ.out.drewN nq)
      go_wp2_with fail
      go_roundg (xs.length - (k+1))
      case measure=>omega
      case rel =>
       refine ⟨k+1,by omega,rfl,by go_num,HQ1.out,Lib.hid fun j hj=> ?_⟩
       by_cases e : j=k
       ·subst e;rw [← Hx.out,← Hy.out];omega
       ·exact hpre.out j (by omega)
    ·have hki : ¬ (k : Int) < (xs.length : Int) - 1:=by omega
     go_wp2_with fail
     go_ret
     refine ⟨_,rfl,?_,hq.below _⟩
     rw [HR.out,Hnone.out (fasc_none fun j hj=>Int.not_lt.2 (by have:=hpre.out j (by omega);omega))]
     exact (Hp.out.below (hq.below _)).mono (Nat.le_refl _) (by rw [HT.out];exact Hge.out)
def schP7 (u : List Int) : Pl:=lowP 15 (trimL u) (stP (trimL u).length)
def symS7 (u : List Int) : Pl:=lowN 15 (trimL u) (stP (trimL u).length)
theorem symS7_eq (u : List Int) (g : List Int→Int) : Ev (symS7 u) g=Ev (schP7 u) g:=low_N _ _ g
theorem schub7_any (v : Value) (xs : List Int) (w : World) (h : Ints w v xs) (hp : permOk xs=true) (hn1 : 1≤(trimL xs).length) (hn7 : (trimL xs).length≤7) (hlow : lowOk 15 (trimL xs)=true) :
 Calls Tryz.prog 67 #[v] w fun e w'=> ∃ u,e=.returned u∧PolV w' u 6 470184984576 (schP7 xs)∧Below w.heap.size w w':=by
 have Hh:=Lib.hid h
 have Hp:=Lib.hid hp
 have Hlow:=Lib.hid hlow
 obtain ⟨p,cap,rfl,_,_⟩:=h
 obtain ⟨N,hN⟩ : ∃ N,N=(trimL xs).length:=⟨_,rfl⟩
 rw [← hN] at hn1 hn7
 have HN:=Lib.hid hN
 unfold schP7
 rw [← hN]
 clear hp hN hlow
 go_enter Tryz.func67,Tryz.ntmps67
 go_wp2_with fail
 refine (implTrim_yes _ xs _ Hh.out Hp.out).mono ?_
 rintro e w1 ⟨u,rfl,ho,hb⟩
 obtain ⟨p1,k1,rfl,_,_⟩:=ho.shape
 have Ho:=Lib.hid ho.ints
 rw [← HN.out] at Ho ⊢
 have Hb:=Lib.hid hb
 clear ho hb
 go_wp2_with fail
 refine (staircase_any N _ hn1 hn7).mono ?_
 rintro e w2 ⟨u2,rfl,hpv,hb2⟩
 have Hpv:=Lib.hid hpv
 have Hb2:=Lib.hid (Hb.out.trans (hb2.mono Hb.out.size))
 have Ho2:=Lib.hid (Ho.out.below hb2)
 obtain ⟨b2,D2,rfl,_,_⟩:=hpv
 clear hb2
 go_wp2_with fail
 refine (lowered7_any 6 (stP N) (by omega) (by omega) 15 (trimL xs) _ _ 1 _ Hlow.out (by rw [← HN.out];exact hn7) Hpv.out (by decide) Ho2.out).mono ?_
 rintro e w3 ⟨u3,rfl,hpv3,hb3⟩
 have Hpv3:=Lib.hid hpv3
 have Hb3:=Lib.hid (Hb2.out.trans (hb3.mono Hb2.out.size))
 obtain ⟨b3,D3,rfl,_,_⟩:=hpv3
 clear hb3
 go_wp2_with fail
 go_ret
 exact ⟨_,rfl,Hpv3.out,Hb3.out⟩
end
section
open Go.RowKit
theorem lawInts_any (v1 v2 : Value) (xs ys : List Int) (w : World) (h1 : Ints w v1 xs) (h2 : Ints w v2 ys) :
 Calls Tryz.prog 40 #[v1,v2] w fun e w'=>e=.returned (.bool (decide (xs=ys)))∧Qt w w':=by
 obtain ⟨p,cap,rfl,⟨hx1,hx⟩,hxc⟩:=h1
 obtain ⟨q,cap',rfl,⟨hy1,hy⟩,hyc⟩:=h2
 unfold maxLen at hx hy
 by_cases hl : xs.length=ys.length
 ·have e1 : ((xs.length : Int) != (ys.length : Int))=false:=by simp [hl]
  have Hl:=Lib.hid hl
  clear hl
  go_enter Tryz.func40,Tryz.ntmps40
  go_wp2
  clear e1
  go_loopg [5] xs.length (fun g i wr=> ∃ k : Nat,k≤xs.length∧g=xs.length - k∧i=.int .i64 k∧Qt w wr∧Hid (∀ j,j < k→xs.getD j 0=ys.getD j 0))
  case atStart=>exact ⟨0,Nat.zero_le _,rfl,rfl,Qt.refl _,fun j hj=>absurd hj (Nat.not_lt_zero _)⟩
  case round =>
   obtain ⟨k,hk,rfl,rfl,hq,hp⟩:=hrel
   by_cases hlt : k < xs.length
   ·obtain ⟨b,off,rfl,hc⟩:=hxc (by omega)
    have hl:=Hl.out
    obtain ⟨b',off',rfl,hc'⟩:=hyc (by omega)
    have c1:=hq.cell (hc k hlt)
    have c2:=hq.cell (hc' k (by omega))
    have hk2 : k < ys.length:=by omega
    unfold iv at c1 c2
    clear hl hxc hyc hc hc'
    go_wp2
    go_quiet (fail)
    go_wp2
    ·have ht : (xs[k] != ys[k])=true:=by assumption
     go_ret
     refine ⟨ret_bool ?_,hq.drewN _⟩
     symm
     simp only [decide_eq_false_iff_not]
     intro e
     subst e
     simp at ht
    ·have ht : (xs[k] != ys[k])=false:=by assumption
     go_roundg (xs.length - (k+1))
     case measure=>omega
     case rel =>
      refine ⟨k+1,by omega,rfl,by go_num,hq.drewN _,eq_snoc hp.out ?_⟩
      have:=by simpa using ht
      simpa [List.getD_eq_getElem?_getD,hlt,hk2] using this
   ·go_wp2
    go_ret
    refine ⟨ret_bool ?_,hq⟩
    symm
    simp only [decide_eq_true_eq]
    exact getD_eq_list Hl.out fun j hj=>hp.out j (by omega)
 ·have e1 : ((xs.length : Int) != (ys.length : Int))=true:=by simp;omega
  go_enter Tryz.func40,Tryz.ntmps40
  go_wp2
  go_ret
  refine ⟨ret_bool ?_,Qt.refl _⟩
  symm
  simp only [decide_eq_false_iff_not]
  intro e
  exact hl (by rw [e])
theorem big_any (p : Option Addr) (n cap : Nat) (w : World) (hn : n≤maxLen) :
 Calls Tryz.prog 4 #[.slice p n cap] w fun e w'=>e=.returned (.bool (decide (1048576 < n)))∧w=w':=by
 unfold maxLen at hn
 go_enter Tryz.func4,Tryz.ntmps4
 by_cases h : 1048576 < n
 ·have h2 : (1048576 : Int) < (n : Int):=by omega
  go_wp2
  go_ret
  exact ⟨ret_bool (by simp [h]),rfl⟩
 ·have h2 : ¬ (1048576 : Int) < (n : Int):=by omega
  go_wp2
  go_ret
  exact ⟨ret_bool (by simp [h]),rfl⟩
section
open Go.ChangeShapes Go.WideShapes Go.RowKit Go.Deep Go.WideElems Go.Maps
theorem trod_byts {H : Type} {enc : TypeId × Value→H} {P : Program} {W : World} {m : Nat} {t e : TypeId} {a : Option Addr} {l c : Nat} {y : DataW H × List MemPlace}
 (ht : P.underlying t=some (.slice e)) (he : P.underlying e=some (.int .u8)) (hc : P.cellsOf e=1)
 (h : DataW.trod enc P W 0 (fun _=>true) true m t [.slice a l c]=some y) : l≤maxLen∧Byts W (.slice a l c) l:=by
 rcases open_ints ht he hc h with ⟨hcs,_⟩ | ⟨x,l',c',zs,hcs,_,hl,hm,hz,_,hcell,_⟩
 ·injection hcs with hcs
  injection hcs with h1 h2 h3
  subst h1 h2 h3
  exact ⟨Nat.zero_le _,fun _=>0,none,0,rfl,⟨Nat.le_refl _,Nat.zero_le _⟩,fun h=>absurd h (Nat.lt_irrefl _)⟩
 ·injection hcs with hcs
  injection hcs with h1 h2 h3
  subst h1 h2 h3
  refine ⟨by omega,fun j=>zs.getD j 0,some x,c,rfl,⟨hl,hm⟩,fun h0=> ?_⟩
  have hz' : zs.length=c:=by simpa using hz
  have h0':=hcell 0 (by omega)
  obtain ⟨b,off,spot⟩:=x
  have hs : spot=none:=by
   cases spot with
   | none=>rfl
   | some s=>simp [Addr.add,World.cell?] at h0';split at h0' <;> simp_all
  subst hs
  refine ⟨b,off,rfl,fun j hj=> ?_⟩
  have hadd : (⟨b,off,none⟩ : Addr).add j=⟨b,off+j,none⟩:=by unfold Addr.add;split <;> simp_all
  rw [← hadd]
  exact hcell j (by omega)
end
def Byts8 (w : World) (v : Value) (n : Nat) : Prop:=∃ f : Nat→Int,(Rd w v n fun j=>.int .u8 (f j)) ∧ ∀ j,j < n→0≤f j∧f j≤255
theorem Byts8.below {w w' : World} {v : Value} {n : Nat} (h : Byts8 w v n) (hb : Below w.heap.size w w') : Byts8 w' v n:=by
 obtain ⟨f,h,h2⟩:=h
 exact ⟨f,h.below hb,h2⟩
theorem implIdentity_any (n : Nat) (w : World) (h1 : 1≤n) (h7 : n≤7) :
 Calls Tryz.prog 102 #[.int .i64 (n : Int)] w (RetI w (idL n)):=by
 have hmk:=run_make_row' (P:=Tryz.prog) 24 3 (.int .i64 0) 8 Tryz.underlying24 info_int rfl .i64 .i64 n (by omega) (by omega)
 have hn1 : (1 : Int)≤n:=by omega
 have hn7 : (n : Int)≤7:=by omega
 have hns : ¬ (n : Int) < 1:=by omega
 have hns2 : ¬ (7 : Int) < n:=by omega
 have hs : ∀ w,Calls Tryz.prog 80 #[.int .i64 (n : Int)] w fun e w'=>e=.returned (.bool true)∧w=w':=fun w=>by
  go_enter Tryz.func80,Tryz.ntmps80
  go_wp2_with fail
  go_ret
  exact ⟨rfl,rfl⟩
 go_enter Tryz.func102,Tryz.ntmps102
 go_wp2_with fail
 refine (hs w).mono ?_
 rintro e w1 ⟨rfl,rfl⟩
 go_wp2_with fail
 go_loopg [12] n (fun g s14 wr=> ∃ k : Nat,k≤n∧g=n - k∧s14=.int .i64 k∧Below w.heap.size w wr∧Hid (wr.rowIs w.heap.size 3 n (fun j=>.int .i64 (if j < k then (j : Int) else 0))))
 case atStart =>
  refine ⟨0,Nat.zero_le _,rfl,rfl,below_alloc _ _,?_⟩
  exact (World.rowIs_made w (.int .i64 0) n 3).congr fun j _=>by simp
 case round =>
  obtain ⟨k,hk,rfl,rfl,hbw,hrow⟩:=hrel
  by_cases hlt : k < n
  ·obtain ⟨z,c2⟩ : ∃ z,wr.cell? ⟨w.heap.size,k,none⟩=some (.int .i64 z):=⟨_,hrow.out.cell hlt⟩
   have c3:=hrow.out.frozen k
   have i1 : (k : Int) < (n : Int):=by omega
   have Hrow:=Lib.hid hrow.out
   clear hrow
   go_wp2_with fail
   go_roundg (n - (k+1))
   case measure=>omega
   case rel =>
    refine ⟨k+1,by omega,rfl,by go_num,hbw.setCell (Nat.le_refl _) _,(Hrow.out.set k _).congr fun j hj=> ?_⟩
    by_cases e : j=k
    ·subst e;simp
    ·have : j < k+1 ↔ j < k:=by omega
     simp [e,this]
  ·obtain rfl : k=n:=by omega
   have i1 : ¬ (k : Int) < (k : Int):=by omega
   have ho:=rowIs_ints (xs:=idL k) (by rw [idL_length];exact hrow.out.congr fun j hj=>by rw [iv,idL_getD hj,if_pos hj]) (by rw [idL_length];unfold maxLen;omega)
   rw [idL_length] at ho
   have Ho:=Lib.hid ho
   clear ho hrow
   go_wp2_with fail
   go_ret
   exact ⟨_,rfl,Ho.out,hbw⟩
section
open Go.ChangeShapes Go.WideShapes Go.RowKit Go.Deep Go.WideElems Go.Maps
end
end
section
open Go.RowKit Go.Sort Go.Shelf
theorem eraseIdx_getD {xs : List Int} {i j : Nat} (hi : i < xs.length) : (xs.eraseIdx i).getD j 0=if j < i then xs.getD j 0 else xs.getD (j+1) 0:=by
 rw [List.getD_eq_getElem?_getD,List.getElem?_eraseIdx]
 split <;> rw [List.getD_eq_getElem?_getD]
theorem delete_any (g cap i n : Nat) (lo hi : Nat) (xs : List Int) (w : World) (h : OwnI 3 w lo hi (.slice (some ⟨g,0,none⟩) n cap) xs) (hn : xs.length=n) (hi' : i < n) :
 Calls Tryz.prog 103 #[.slice (some ⟨g,0,none⟩) n cap,.int .i64 (i : Int),.int .i64 ((i : Int)+1)] w fun e w' =>
  e=.returned (.slice (some ⟨g,0,none⟩) (n - 1) cap)∧OwnI 3 w' lo hi (.slice (some ⟨g,0,none⟩) (n - 1) cap) (xs.eraseIdx i)∧Frm lo hi w w':=by
 have hf:=h.fn
 rw [hn] at hf
 obtain ⟨F,⟨c,hc1,hc2,hc3⟩,hF,hl,hh,hnc,hcm,_⟩:=hf.opened
 have hH : Holds encI w g 0 xs.toArray:=fun j hj=>by
  have hj' : j < n:=by rw [← hn];simpa using hj
  refine ⟨?_,?_⟩
  ·rw [Nat.zero_add,hf.cell hj']
   show some (Value.int .i64 (xs.getD j 0))=some (Value.int .i64 (xs.toArray[j]!))
   rw [getElem!_pos xs.toArray j hj,getD_lt (by rw [hn];exact hj')]
   simp
  ·rw [Nat.zero_add];exact hf.frozen j
 have es : xs.toArray.size=n:=by simpa using hn
 have hcon:=AnyG.slices_Delete_int_arr (P:=Tryz.prog) (ρ:=Tryz.delI_ren) { Tryz.delI with } g 0 cap i (i+1) xs.toArray w hH (by rw [es];exact hnc) (by unfold maxLen at hcm;omega) (by omega) (by rw [es];omega)
 change Calls Tryz.prog 103 _ _ _ at hcon
 rw [es,show i+1 - i=1 by omega,show ((i+1 : Nat) : Int)=(i : Int)+1 by omega] at hcon
 refine hcon.mono ?_
 rintro e w' ⟨rfl,q,rfl⟩
 obtain ⟨D,hD⟩ : ∃ D,D=(xs.toArray.toList.take i ++ xs.toArray.toList.drop (i+1) ++ List.replicate 1 0).toArray:=⟨_,rfl⟩
 rw [← hD]
 have hDs : D.size=n:=by rw [hD];simp;omega
 have hDg : ∀ j,j < n - 1→D[j]! = (xs.eraseIdx i).getD j 0:=fun j hj=>by
  rw [getElem!_pos D j (by omega)]
  have : D[j]?=some ((xs.eraseIdx i).getD j 0):=by
   rw [hD,List.getElem?_toArray,List.getElem?_append_left (by simp;omega),eraseIdx_getD (by omega)]
   have e2 : (xs.toArray.toList.take i).length=i:=by simp;omega
   by_cases hji : j < i
   ·rw [List.getElem?_append_left (by omega),if_pos hji,List.getElem?_take,if_pos hji]
    simp [List.getD_eq_getElem?_getD,show j < xs.length by omega]
   ·rw [List.getElem?_append_right (by omega),e2,if_neg hji,List.getElem?_drop,show i+1+(j - i)=j+1 by omega]
    simp [List.getD_eq_getElem?_getD,show j+1 < xs.length by omega]
  rw [Array.getElem?_eq_getElem (by omega)] at this
  exact Option.some.inj this
 have hblk : (putRow encI (Sort.ahead w q) g 0 D).heap[g]?=some (.cells (putCells encI 0 D c) 3 (0,0)):=by
  unfold putRow mapBlock
  simp only [Array.getElem?_modify]
  have : (Sort.ahead w q).heap=w.heap:=rfl
  rw [this,hc1]
  simp [onCells]
 have hoth : ∀ k,k < w.heap.size→k ≠ g→(putRow encI (Sort.ahead w q) g 0 D).heap[k]?=w.heap[k]?:=fun k hk hne=>by
  unfold putRow mapBlock
  simp only [Array.getElem?_modify]
  have : (Sort.ahead w q).heap=w.heap:=rfl
  rw [this,if_neg (fun e=>hne e.symm)]
 refine ⟨rfl,?_,⟨rfl,rfl,rfl,by rw [size_putRow];exact Nat.le_refl _,fun k hk ho=>hoth k hk (fun e=>by omega)⟩⟩
 have hlen : (xs.eraseIdx i).length=n - 1:=by rw [List.length_eraseIdx,if_pos (by omega),hn]
 have hown : OwnF (putRow encI (Sort.ahead w q) g 0 D) lo hi 3 (.slice (some ⟨g,0,none⟩) (n - 1) cap) (n - 1) (iv (xs.eraseIdx i)):=by
  refine OwnF.mk' (F:=fun j=>if j < n then .int .i64 (D[j]!) else F j) ⟨_,hblk,by simp [putCells,hc2],fun j hj=> ?_⟩ hl hh (by omega) hcm (fun j hj=> ?_)
  ·simp only [putCells,Array.getElem?_mapIdx,hc3 j hj,Option.map_some,Nat.zero_le,true_and,Nat.zero_add,Nat.sub_zero,hDs]
  ·rw [if_pos (by omega)]
   show Value.int .i64 (D[j]!)=.int .i64 ((xs.eraseIdx i).getD j 0)
   rw [hDg j hj]
 rw [← hlen] at hown ⊢
 exact OwnF.ints hown
def poR (c : List Int) : Nat→List Int
 | 0=>idL c.length
 | k+1=>(poR c k).eraseIdx (c.getD k 0).toNat
def poO (c : List Int) : Nat→List Int
 | 0=>[]
 | k+1=>poO c k ++ [(poR c k).getD (c.getD k 0).toNat 0]
def poB (c : List Int) : Bool:=(List.range c.length).all fun k=>decide (0≤c.getD k 0) && decide (c.getD k 0 < ((c.length - k : Nat) : Int))
theorem poB_at {c : List Int} (h : poB c=true) {k : Nat} (hk : k < c.length) : 0≤c.getD k 0∧c.getD k 0 < ((c.length - k : Nat) : Int):=by
 unfold poB at h
 have:=List.all_eq_true.1 h k (List.mem_range.2 hk)
 simpa using this
theorem poR_len {c : List Int} (h : poB c=true) : ∀ k,k≤c.length→(poR c k).length=c.length - k
 | 0,_=>by simp [poR,idL]
 | k+1,hk=>by
   have ih:=poR_len h k (by omega)
   have:=poB_at h (k:=k) (by omega)
   unfold poR
   rw [List.length_eraseIdx,if_pos (by omega),ih]
   omega
theorem poO_len (c : List Int) : ∀ k,(poO c k).length=k
 | 0=>rfl
 | k+1=>by unfold poO;rw [List.length_append,poO_len c k];rfl
theorem PermOfCode_any (v : Value) (c : List Int) (w : World) (h : Ints w v c) (h1 : 1≤c.length) (h7 : c.length≤7) (hb : poB c=true) :
 Calls Tryz.prog 72 #[v] w (RetI w (poO c c.length)):=by
 obtain ⟨p,cap,rfl,⟨m1,m2⟩,hq⟩:=h
 obtain ⟨b,off,rfl,hc⟩:=hq (by omega)
 clear hq
 unfold maxLen at m2
 obtain ⟨n,hn⟩ : ∃ n,n=c.length:=⟨_,rfl⟩
 have Hn:=Lib.hid hn
 have HB:=Lib.hid hb
 have HRl:=Lib.hid (show ∀ k,k≤n→(poR c k).length=n - k from fun k hk=>by rw [hn];exact poR_len hb k (by omega))
 have Hat:=Lib.hid (show ∀ k,k < n→0≤c.getD k 0∧c.getD k 0 < ((n - k : Nat) : Int) from fun k hk=>by rw [hn];exact poB_at hb (by omega))
 rw [← hn] at h1 h7 m1 hc ⊢
 have Hc:=Lib.hid hc
 have h0:=idL_length n
 clear hn hb hc
 go_enter Tryz.func72,Tryz.ntmps72
 go_wp2_with fail
 refine (implIdentity_any n _ h1 h7).mono ?_
 rintro e w1 ⟨u,rfl,ho,hb1⟩
 obtain ⟨pu,ku,rfl,hk1,hk2⟩:=ho.shape
 rw [h0] at hk1 ⊢
 obtain ⟨gu,rfl,_,_,_⟩:=ho.fn.at_ (by rw [h0];exact h1)
 unfold maxLen at hk2
 have keq:=Lib.run_eql_slice_nil (P:=Tryz.prog) w1 24 3 (some ⟨gu,0,none⟩) n ku 0 0 Tryz.underlying24
 have Ho:=Lib.hid (show OwnI 3 w1 w.heap.size w1.heap.size (.slice (some ⟨gu,0,none⟩) n ku) (idL n) by
  have:=ho
  rw [h0] at this
  exact this)
 have Hb1:=Lib.hid hb1
 have hs1:=hb1.size
 clear ho hb1 h0
 go_wp2_with fail
 clear keq
 go_loopg [3,4,6,15] n (fun g s3 s4 s6 s15 wr=> ∃ (k : Nat),k≤n∧g=n - k∧s15=.int .i64 k∧s3=.slice (some ⟨gu,0,none⟩) (n - k) ku∧Hid (OwnI 3 wr w.heap.size w1.heap.size s3 (poR c k))∧Hid (OwnI 3 wr w1.heap.size wr.heap.size s4 (poO c k))∧Hid (Below w.heap.size w wr)∧w1.heap.size≤wr.heap.size)
 case atStart =>
  refine ⟨0,Nat.zero_le _,rfl,rfl,rfl,?_,?_,Hb1.out.trans ((below_alloc w1 _).mono hs1),by rw [size_alloc];omega⟩
  ·show OwnI _ _ _ _ _ (idL c.length)
   rw [← Hn.out]
   exact Ho.out.below (below_alloc w1 _)
  ·exact (OwnF.ints (xs:=[]) (OwnF.made0 w1 3 (iv []))).mono (Nat.le_refl _) (by rw [size_alloc];exact Nat.le_refl _)
 case round =>
  obtain ⟨k,hk,rfl,rfl,rfl,hR,hO,hb,hsz1⟩:=hrel
  obtain ⟨wo,rfl⟩ : ∃ x : World,x=wr:=⟨_,rfl⟩
  have HR:=Lib.hid hR.out
  have HO:=Lib.hid hO.out
  have Hb:=Lib.hid hb.out
  clear hR hO hb
  by_cases hlt : k < n
  ·have hkz : (k : Int) < (n : Int):=by omega
   have c0 : wo.cell? ⟨b,off+k,none⟩=some (.int .i64 (c.getD k 0)):=cell_below Hb.out (Hc.out k hlt)
   obtain ⟨r1,r2⟩:=Hat.out k hlt
   obtain ⟨x,hx⟩:=Int.eq_ofNat_of_zero_le r1
   rw [hx] at c0 r2
   have Hx:=Lib.hid hx
   have hxn : x < n - k:=by omega
   have hlen:=HRl.out k (by omega)
   have c1:=HR.out.fn.cell (j:=x) (by rw [hlen];exact hxn)
   obtain ⟨y,hy⟩ : ∃ y,y=(poR c k).getD x 0:=⟨_,rfl⟩
   have c1' : wo.cell? ⟨gu,x,none⟩=some (.int .i64 y):=by rw [hy];exact c1
   have Hy:=Lib.hid hy
   have hx0 : ¬ ((x : Nat) : Int) < 0:=by omega
   have hxl : ¬ (((n - k : Nat) : Int)≤(x : Int)):=by omega
   have hxl2 : (x : Int) < ((n - k : Nat) : Int):=by omega
   obtain ⟨p4,k4,e4,_,_⟩:=HO.out.shape
   subst e4
   have hol:=poO_len c k
   rw [hol] at HO ⊢
   have hofn:=HO.out.fn
   rw [hol] at hofn
   have Ho4:=Lib.hid hofn
   have Hol:=Lib.hid hol
   have hw1 : IntKind.i64.wrap ((x : Int)+1)=(x : Int)+1:=k64 (by omega) (by omega)
   have Hlen:=Lib.hid hlen
   clear c1 hy hlen hx hol hofn r1 r2
   go_wp2_with (at_builtin;go_must (refine wpList_append_F rfl (.tmp 27) (.tmp 32) 24 rfl 3 (.int .i64 0) 8 Tryz.underlying24 info_int rfl w1.heap.size wo.heap.size _ k (iv (poO c k)) rfl (Ho4.out.below (below_alloc wo _)) (by rw [size_alloc];omega) (by rw [size_alloc];omega) _ 1 _ rfl (rd_one _ _ _ rfl) (fun j _=>rfl) (by unfold maxLen;omega) (by omega) ?_;intro v2 w2 ho2 hg2))
   have hbB : Below w1.heap.size (wo.alloc (.cells #[.int .i64 y] 3)) w2:=grownBy_below hg2 Ho4.out.blocks (Nat.le_refl _) (by rw [size_alloc];omega)
   have HR2:=Lib.hid (show OwnI 3 w2 w.heap.size w1.heap.size (.slice (some ⟨gu,0,none⟩) (n - k) ku) (poR c k) from
    Own.keep HR.out fun t _ ht1 ht2=>(hbB.block t ht1).trans ((below_alloc wo _).block t ht2))
   have HO2:=Lib.hid (show OwnI 3 w2 w1.heap.size w2.heap.size v2 (poO c k ++ [y]) from OwnI.snoc1 (by rw [Hol.out];exact ho2))
   have Hb2:=Lib.hid ((Hb.out.trans ((below_alloc wo (.cells #[.int .i64 y] 3)).mono Hb.out.size)).trans (hbB.mono hs1))
   have hs2:=hbB.size
   rw [size_alloc] at hs2
   have HD:=Lib.hid (delete_any gu ku x (n - k) w.heap.size w1.heap.size (poR c k) w2 HR2.out Hlen.out hxn)
   obtain ⟨pv,lv,kv,rfl⟩ : ∃ p l k,v2=.slice p l k:=by obtain ⟨p,k,e,_⟩:=HO2.out.shape;exact ⟨_,_,_,e⟩
   clear ho2 hg2 hbB
   refine HD.out.mono ?_
   rintro e w3 ⟨rfl,hR3,hf3⟩
   have HR3:=Lib.hid hR3
   have HO3:=Lib.hid ((HO2.out.frm hf3 (Or.inr (Nat.le_refl _))).mono (Nat.le_refl _) hf3.size)
   have Hb3:=Lib.hid (Hb2.out.trans (hf3.below (Nat.le_refl _) (by have:=Hb2.out.size;omega)))
   have hs3:=hf3.size
   clear hR3 hf3
   go_wp2_with fail
   go_roundg (n - (k+1))
   case measure=>omega
   case rel =>
    have ex : (c.getD k 0).toNat=x:=by rw [Hx.out];rfl
    refine ⟨k+1,by omega,rfl,by go_num,by rw [Nat.sub_sub],?_,?_,Hb3.out,by omega⟩
    ·show OwnI _ _ _ _ _ ((poR c k).eraseIdx (c.getD k 0).toNat)
     rw [ex]
     exact HR3.out
    ·show OwnI _ _ _ _ _ (poO c k ++ [(poR c k).getD (c.getD k 0).toNat 0])
     rw [ex,← Hy.out]
     exact HO3.out
  ·obtain rfl : k=n:=by omega
   obtain ⟨p4,k4,e4,_,_⟩:=HO.out.shape
   subst e4
   go_wp2_with fail
   go_ret
   exact ⟨_,rfl,HO.out.mono hs1 (Nat.le_refl _),Hb.out⟩
end
section
open Go.RowKit Go.Maps Go.WideMaps Go.WideElems Go.MapKept Go.ChangeMaps Go.ChangeShapes
def addE (x y : List Int) : List Int:=(List.range 7).map fun j=>x.getD j 0+y.getD j 0
def mulP (P Q : Pl) : Pl:=P.flatMap fun p=>Q.map fun q=>(addE p.1 q.1,p.2 * q.2)
theorem Ev_mapQ (p : List Int × Int) (g : List Int→Int) : ∀ Q : Pl,Ev (Q.map fun q=>(addE p.1 q.1,p.2 * q.2)) g=p.2 * Ev Q fun b=>g (addE p.1 b)
 | []=>by simp [Ev]
 | q :: Q=>by
   have ih:=Ev_mapQ p g Q
   show p.2 * q.2 * g (addE p.1 q.1)+Ev (Q.map fun q=>(addE p.1 q.1,p.2 * q.2)) g=p.2 * (q.2 * g (addE p.1 q.1)+Ev Q fun b=>g (addE p.1 b))
   rw [ih,Int.mul_add,Int.mul_assoc]
theorem Ev_mulP (g : List Int→Int) (Q : Pl) : ∀ P : Pl,Ev (mulP P Q) g=Ev P fun a=>Ev Q fun b=>g (addE a b)
 | []=>rfl
 | p :: P=>by
   have ih:=Ev_mulP g Q P
   show Ev ((Q.map fun q=>(addE p.1 q.1,p.2 * q.2)) ++ mulP P Q) g=p.2 * (Ev Q fun b=>g (addE p.1 b))+Ev P fun a=>Ev Q fun b=>g (addE a b)
   rw [Ev_append,ih,Ev_mapQ]
def mixL (x y : List Int) (i : Nat) : List Int:=(List.range 7).map fun j=>if j < i then x.getD j 0+y.getD j 0 else x.getD j 0
theorem mixL_length (x y : List Int) (i : Nat) : (mixL x y i).length=7:=by simp [mixL]
theorem mixL_getD {x y : List Int} {i j : Nat} (hj : j < 7) : (mixL x y i).getD j 0=if j < i then x.getD j 0+y.getD j 0 else x.getD j 0:=by
 simp [mixL,List.getD_eq_getElem?_getD,hj]
theorem mixL_succ {x y : List Int} {i : Nat} (hi : i < 7) : (mixL x y i).set i (x.getD i 0+y.getD i 0)=mixL x y (i+1):=by
 refine getD_eq_list (by rw [List.length_set,mixL_length,mixL_length]) fun j hj=> ?_
 rw [List.length_set,mixL_length] at hj
 rw [mixL_getD hj,List.getD_eq_getElem?_getD,List.getElem?_set,mixL_length]
 by_cases e : i=j
 ·subst e
  simp [hj]
 ·rw [if_neg e,← List.getD_eq_getElem?_getD,mixL_getD hj]
  by_cases h : j < i
  ·rw [if_pos h,if_pos (by omega)]
  ·rw [if_neg h,if_neg (by omega)]
theorem mixL_seven (x y : List Int) : mixL x y 7=addE x y:=by
 unfold mixL addE
 refine List.map_congr_left fun j hj=> ?_
 rw [if_pos (List.mem_range.1 hj)]
def ArT (T : TypeId) (w : World) (g : Nat) (a : List Int) : Prop:=w.heap[g]?=some (.cells (ivs a).toArray T (0,0))
theorem ArT.cell {T : TypeId} {w : World} {g : Nat} {a : List Int} (h : ArT T w g a) {j : Nat} (hj : j < a.length) : w.cell? ⟨g,j,none⟩=some (.int .i64 (a.getD j 0)) :=
 cell_of_blk h (by rw [List.getElem?_toArray,getElem?_ivs a j hj];rfl)
theorem ArT.set {T : TypeId} {w : World} {g : Nat} {a : List Int} (h : ArT T w g a) (j : Nat) (x : Int) : ArT T (w.setCell ⟨g,j,none⟩ (.int .i64 x)) g (a.set j x):=by
 unfold ArT
 rw [heap_setCell_at h]
 congr 2
 unfold ivs
 rw [List.map_set]
 simp
theorem K7.addE {d : Nat} {x y : List Int} (hx : K7 d x) (hy : K7 d y) : K7 (d+d) (addE x y):=by
 refine ⟨by simp [Go.Proofs.YtijadclebjcckaaGreat.addE],fun z hz=> ?_⟩
 unfold Go.Proofs.YtijadclebjcckaaGreat.addE at hz
 obtain ⟨j,hj,rfl⟩:=List.mem_map.1 hz
 have hj:=List.mem_range.1 hj
 have hmx : x.getD j 0 ∈ x:=by rw [getD_lt (by rw [hx.1];exact hj)];exact List.getElem_mem _
 have hmy : y.getD j 0 ∈ y:=by rw [getD_lt (by rw [hy.1];exact hj)];exact List.getElem_mem _
 have a:=hx.2 _ hmx
 have b:=hy.2 _ hmy
 omega
theorem K7.rng {d : Nat} {x : List Int} (h : K7 d x) (j : Nat) : 0≤x.getD j 0∧x.getD j 0≤(d : Int):=by
 by_cases e : j < x.length
 ·have : x.getD j 0 ∈ x:=by rw [getD_lt e];exact List.getElem_mem _
  exact h.2 _ this
 ·rw [List.getD_eq_getElem?_getD,List.getElem?_eq_none (by omega)]
  show (0 : Int)≤0∧(0 : Int)≤(d : Int)
  omega
theorem frm_gb {q : Nat} {w w' : World} (h : Frm q (q+1) w w') : w.grownBy w' (some q):=⟨h.os,h.tape,h.output,h.size,fun i hi hne=>h.block i hi (by
 have : i ≠ q:=fun e=>hne (by rw [e])
 omega)⟩
theorem addE_lit (x y : List Int) : ∃ s0 s1 s2 s3 s4 s5 s6 : Int,addE x y=[s0,s1,s2,s3,s4,s5,s6]:=⟨_,_,_,_,_,_,_,rfl⟩
theorem times_any (u v : Value) (d nf ng : Nat) (P Q : Pl) (w : World) (hf : PolV w u d nf P) (hg : PolV w v d ng Q) (hd : d≤1000) (hn : nf * ng < 1000000000000000) (hn2 : nf < 1000000000000000) :
 Calls Tryz.prog 69 #[u,v] w fun e w'=> ∃ u',e=.returned u'∧PolV w' u' (d+d) (nf * ng) (mulP P Q)∧Below w.heap.size w w':=by
 obtain ⟨bf,Df,rfl,hf1,hf2⟩:=hf
 obtain ⟨bg,Dg,rfl,hg1,hg2⟩:=hg
 have hmm:=@run_makeMap Tryz.prog
 have hblf:=hf1.lt
 have hblg:=hg1.lt
 have hszf:=hf1.size_le
 have hszg:=hg1.size_le
 have e1 : (w.alloc (.map #[] 0)).heap.size=w.heap.size+1:=by simp
 have HF2:=Lib.hid hf2
 have HG2:=Lib.hid hg2
 have Hg1:=Lib.hid hg1
 obtain ⟨B,hB⟩ : ∃ B,B=w.heap.size:=⟨_,rfl⟩
 have HB:=Lib.hid hB
 have hG0:=Lib.hid (Gath.start (T:=fun g a=>Ev Q fun b=>g (addE a b)) hf1 hf2)
 clear hf2 hg2
 go_enter Tryz.func69,Tryz.ntmps69
 go_wp2_with (first
  | (at_range;refine wpList_range_own _ rfl _ 102 rfl 107 3 klaw und41 _ bf nf _ rfl (hf1.alloc _) ?_;intro w0 hrg0 hg0 hs0)
  | fail)
 go_frame
 rw [e1] at hrg0 hs0 ⊢
 have hown0 : OwnMp w0 w.heap.size 0 (.map []):=(World.ownsMap_made _ _ _ _).kept hg0 (by simp)
 have hbel0 : Below w.heap.size w w0:=((Below.refl _ _).alloc (Nat.le_refl _) _).grown hg0 (by simp) (fun j hj=>by cases hj)
 rw [← hB] at hrg0 hs0 hown0 hbel0 hblf hblg ⊢
 have Hbel0:=Lib.hid hbel0
 clear hbel0 hg0 e1 hB
 go_loopg [6,7,8,9,10,11] (Maps.size Df) (fun g s6 s7 s8 s9 s10 s11 wr=> ∃ (left : Lit→Bool) (Dout : DU) (A : Pl),RanP wr bf (B+1) nf Df left g∧g≤Maps.size Df∧B+1 < wr.heap.size∧(∀ l,left l=true→has Df l=true) ∧
  OwnMp wr B ((Maps.size Df - g) * ng) Dout∧Hid (PolM (d+d) Dout A)∧Hid (Gath Df P (fun g a=>Ev Q fun b=>g (addE a b)) left A)∧Hid (Below B w wr))
 case atStart=>exact ⟨_,.map [],[],hrg0,Nat.le_refl _,by omega,fun _ h=>h,hown0.mono (Nat.zero_le _),Lib.hid (PolM.empty _),hG0,Hbel0⟩
 case round =>
  obtain ⟨left,Dout,A,hrg,hgs,hszr,hleft,hout,hpm,hga,hbel⟩:=hrel
  obtain ⟨wx,rfl⟩ : ∃ x : World,x=wr:=⟨_,rfl⟩
  go_wp2_with (first
   | (at_next;refine wpList_next_poly _ rfl _ rfl bf (B+1) nf d Df P left gk rfl hrg HF2.out (by omega) hleft ?_ ?_)
   | fail)
  ·intro hc0 hl0
   have hend:=(hga.out.end hl0)
   have Hend:=Lib.hid hend
   clear hend
   go_wp2_with fail
   go_ret
   refine ⟨_,rfl,⟨B,Dout,rfl,hout.mono (Nat.mul_le_mul_right _ (by omega)),hpm.out.alt fun g=> ?_⟩,HB.out ▸ hbel.out⟩
   rw [Ev_mulP]
   exact Hend.out g
  ·intro a0 a1 a2 a3 a4 a5 a6 c w1 cnt1 hK hlx hwf hat hrg1 hlt hgr1 hs1 hen
   have Hat:=Lib.hid hat
   have Hgr1:=Lib.hid hgr1
   have hout1:=hout.kept hgr1 (by intro h;injection h with h;omega)
   have hBx:=hout.lt
   obtain ⟨av,hav⟩ : ∃ av : List Int,av=[a0,a1,a2,a3,a4,a5,a6]:=⟨_,rfl⟩
   have HK:=Lib.hid (show K7 d av by rw [hav];exact hK)
   have Hav:=Lib.hid hav
   have Hwf:=Lib.hid hwf
   clear hat hgr1 hav hK hwf
   have Hpm:=Lib.hid hpm.out
   have hg1x : OwnMp wx bg ng Dg:=by
    obtain ⟨es,clock,hb',F,hs,hD⟩:=Hg1.out
    exact ⟨es,clock,(hbel.out.block bg hblg).trans hb',F,hs,hD⟩
   have hg1w:=hg1x.kept Hgr1.out (by intro h;injection h with h;omega)
   obtain ⟨oa,hoa⟩ : ∃ o : Obj,o=.cells #[.int .i64 a0,.int .i64 a1,.int .i64 a2,.int .i64 a3,.int .i64 a4,.int .i64 a5,.int .i64 a6] 107:=⟨_,rfl⟩
   have Hoa:=Lib.hid hoa
   have Hout1:=Lib.hid (hout1.alloc oa)
   have Hrg1:=Lib.hid (hrg1.alloc oa)
   have Hbel1:=Lib.hid ((hbel.out.grown Hgr1.out (by omega) (fun j hj=>by cases hj;omega)).alloc (by omega) oa)
   have Hz6:=Lib.hid (show ArT 107 (w1.alloc oa) w1.heap.size av by rw [Hav.out];unfold ArT;rw [hoa];exact heap_alloc_top _ _)
   have hg1a:=hg1w.alloc oa
   have hB1 : B < (w1.alloc oa).heap.size:=by rw [size_alloc];omega
   have hbg1 : bg < (w1.alloc oa).heap.size:=by rw [size_alloc];omega
   have hq6 : w1.heap.size < (w1.alloc oa).heap.size:=by rw [size_alloc];omega
   have hr1 : B+1 < (w1.alloc oa).heap.size:=by rw [size_alloc];omega
   rw [hoa] at hg1a
   clear hout hout1 hrg hrg1 hg1x hg1w hbel hoa hpm
   go_wp2_with (first
    | (at_range;refine wpList_range_own _ rfl _ 102 rfl 107 3 klaw und41 _ bg ng _ rfl hg1a ?_;intro w2 hrg2 hg2 hs2)
    | fail)
   go_frame
   rw [← Hoa.out] at hrg2 hg2 hs2 ⊢
   have hs1a : (w1.alloc oa).heap.size=wx.heap.size+1:=by rw [size_alloc,hs1]
   rw [hs1a] at hrg2 hs2 hB1 hbg1 hq6 hr1 ⊢
   have Hrg:=Lib.hid (Hrg1.out.kept hg2 (by simp) (by simp))
   have Hout:=Lib.hid (Hout1.out.kept hg2 (by simp))
   have Hbel:=Lib.hid (Hbel1.out.grown hg2 (by omega) (fun j hj=>by cases hj))
   have Hz:=Lib.hid (show ArT 107 w2 wx.heap.size av from (hg2.block wx.heap.size (by rw [hs1a];omega) (by simp)).trans (by rw [← hs1];exact Hz6.out))
   have HG1:=Lib.hid (Gath.start (T:=fun g b=>c * g (addE av b)) hg1a HG2.out)
   obtain ⟨q6,hq6e⟩ : ∃ q,q=wx.heap.size:=⟨_,rfl⟩
   rw [← hq6e] at hrg2 hs2 hB1 hbg1 hq6 hr1 Hz ⊢
   have hB2 : B < q6+1:=by omega
   have hbg2 : bg < q6+1:=by omega
   have hr12 : B+1 < q6:=by omega
   have hsz2 : q6+1 < w2.heap.size:=by rw [hs2];omega
   clear hg2 hg1a Hrg1 Hout1 Hbel1 Hz6 hB1 hbg1 hq6 hr1 hq6e hen hs1 Hgr1 hs1a
   obtain ⟨K0,hK0⟩ : ∃ K0,K0=(Maps.size Df - gk) * ng:=⟨_,rfl⟩
   have HK0:=Lib.hid hK0
   rw [← hK0] at Hout
   have hKn : K0+ng≤nf * ng:=by
    rw [hK0,← Nat.succ_mul]
    exact Nat.mul_le_mul_right _ (by omega)
   clear hK0
   go_loopg [8,9,10,11] (Maps.size Dg) (fun g s8 s9 s10 s11 wr=> ∃ (left2 : Lit→Bool) (Dout2 : DU) (A2 : Pl),RanP wr bg (q6+1) ng Dg left2 g∧RanP wr bf (B+1) nf Df (fun z=>left z && !z.sameKey (kl [a0,a1,a2,a3,a4,a5,a6])) cnt1∧g≤Maps.size Dg∧(q6+1) < wr.heap.size∧(∀ l,left2 l=true→has Dg l=true) ∧
    OwnMp wr B (K0+(Maps.size Dg - g)) Dout2∧Hid (PolM (d+d) Dout2 (A ++ A2))∧Hid (Gath Dg Q (fun g b=>c * g (addE av b)) left2 A2)∧Hid (Below B w wr)∧Hid (ArT 107 wr q6 av))
   case atStart=>exact ⟨_,_,[],hrg2,Hrg.out,Nat.le_refl _,hsz2,fun _ h=>h,Hout.out.mono (by omega),by rw [List.append_nil];exact Hpm.out,HG1.out,Hbel.out,Hz.out⟩
   case round =>
    obtain ⟨left2,Dout2,A2,hrg,hrgo,hgs2,hszr2,hleft2,hout,hpm,hga2,hbel,hz⟩:=hrel
    obtain ⟨wy,rfl⟩ : ∃ x : World,x=wr:=⟨_,rfl⟩
    go_wp2_with (first
     | (at_next;refine wpList_next_poly _ rfl _ rfl bg (q6+1) ng d Dg Q left2 gk rfl hrg HG2.out (by omega) hleft2 ?_ ?_)
     | fail)
    ·intro hc0 hl0
     have hend:=(hga2.out.end hl0)
     have Hend:=Lib.hid hend
     have Hpm2:=Lib.hid hpm.out
     have Hbel2:=Lib.hid hbel.out
     clear hend hpm hbel hga2 hz
     go_wp2_with fail
     go_roundg cnt1
     case measure=>exact hlt
     case rel =>
      have hle : K0+(size Dg - gk)≤(size Df - cnt1) * ng:=by
       refine Nat.le_trans (m:=K0+ng) (by omega) ?_
       rw [HK0.out,← Nat.succ_mul]
       exact Nat.mul_le_mul_right _ (by omega)
      refine ⟨_,Dout2,A ++ A2,hrgo,by omega,by omega,has_sub hleft,hout.mono hle,Hpm2.out,Lib.hid (hga.out.step HF2.out.tidy (d:=d) (by rw [← Hav.out];exact HK.out) (by omega) hlx Hat.out fun g=> ?_),Hbel2.out⟩
      rw [Ev_append,← Ev_mul,← Hav.out]
      exact (Cg.refl _).add (Hend.out g)
    ·intro b0 b1 b2 b3 b4 b5 b6 c2 w3 cnt2 hK2 hlx2 hwf2 hat2 hrg3 hlt2 hgr3 hs3 hen3
     obtain ⟨g2,rfl⟩ : ∃ x : Nat,x=gk:=⟨_,rfl⟩
     have Hat2:=Lib.hid hat2
     have Hgr3:=Lib.hid hgr3
     have Hlx2:=Lib.hid hlx2
     obtain ⟨bv,hbv⟩ : ∃ bv : List Int,bv=[b0,b1,b2,b3,b4,b5,b6]:=⟨_,rfl⟩
     have HK2:=Lib.hid (show K7 d bv by rw [hbv];exact hK2)
     have Hbv:=Lib.hid hbv
     have Hpm2:=Lib.hid hpm.out
     have Hga2:=Lib.hid hga2.out
     have hBy:=hout.lt
     have hzz:=hz.out
     rw [Hav.out] at hzz
     obtain ⟨x0,x1,x2,x3,x4,x5,x6,_,_⟩:=blk7 (show (w3.alloc (.cells #[.int .i64 b0,.int .i64 b1,.int .i64 b2,.int .i64 b3,.int .i64 b4,.int .i64 b5,.int .i64 b6] 107)).heap[q6]?=some (.cells #[.int .i64 a0,.int .i64 a1,.int .i64 a2,.int .i64 a3,.int .i64 a4,.int .i64 a5,.int .i64 a6] 107 (0,0)) from
      (heap_alloc_low _ _ (by rw [hs3];omega)).trans ((hgr3.block q6 (by omega) (by simp)).trans hzz))
     have Hout3:=Lib.hid ((hout.kept hgr3 (by intro h;injection h with h;omega)))
     have Hrgo3:=Lib.hid (hrgo.kept hgr3 (by intro h;injection h with h;omega) (by intro h;injection h with h;omega))
     have Hrg3:=Lib.hid hrg3
     have Hbel3:=Lib.hid (hbel.out.grown hgr3 (by omega) (fun j hj=>by cases hj;omega))
     have Hz3:=Lib.hid (show ArT 107 w3 q6 av from (hgr3.block q6 (by omega) (by simp)).trans hz.out)
     clear hat2 hgr3 hlx2 hbv hK2 hwf2 hpm hga2 hzz hz hout hrgo hrg hrg3 hbel
     obtain ⟨W,hW⟩ : ∃ W,W=(w3.alloc (.cells #[.int .i64 b0,.int .i64 b1,.int .i64 b2,.int .i64 b3,.int .i64 b4,.int .i64 b5,.int .i64 b6] 107)).alloc (.cells #[.int .i64 a0,.int .i64 a1,.int .i64 a2,.int .i64 a3,.int .i64 a4,.int .i64 a5,.int .i64 a6] 107):=⟨_,rfl⟩
     have HzB:=Lib.hid (show ArT 107 W wy.heap.size bv by
      rw [hW,Hbv.out]
      exact (heap_alloc_low _ _ (by rw [size_alloc];omega)).trans (heap_alloc_at _ _ hs3.symm))
     have HzA:=Lib.hid (show ArT 107 W (wy.heap.size+1) (mixL av bv 0) by
      rw [hW,show mixL av bv 0=av by rw [Hav.out];rfl,Hav.out]
      exact heap_alloc_at _ _ (by rw [size_alloc,hs3]))
     have HoutW:=Lib.hid (show OwnMp W B (K0+(size Dg - g2)) Dout2 by rw [hW];exact (Hout3.out.alloc _).alloc _)
     have HrgoW:=Lib.hid (show RanP W bf (B+1) nf Df (fun z=>left z && !z.sameKey (kl [a0,a1,a2,a3,a4,a5,a6])) cnt1 by rw [hW];exact (Hrgo3.out.alloc _).alloc _)
     have HrgW:=Lib.hid (show RanP W bg (q6+1) ng Dg (fun z=>left2 z && !z.sameKey (kl [b0,b1,b2,b3,b4,b5,b6])) cnt2 by rw [hW];exact (Hrg3.out.alloc _).alloc _)
     have HbelW:=Lib.hid (show Below B w W by rw [hW];exact (Hbel3.out.alloc (by omega) _).alloc (by rw [size_alloc];omega) _)
     have HzW:=Lib.hid (show ArT 107 W q6 av by rw [hW];exact (heap_alloc_low _ _ (by rw [size_alloc];omega)).trans ((heap_alloc_low _ _ (by omega)).trans Hz3.out))
     have hszW : W.heap.size=wy.heap.size+1+1:=by rw [hW,size_alloc,size_alloc,hs3]
     have HW:=Lib.hid hW
     clear hW Hout3 Hrgo3 Hrg3 Hbel3 Hz3
     go_wp2_with fail
     rw [← HW.out]
     try rw [hs3]
     obtain ⟨q8,hq8⟩ : ∃ q8,q8=wy.heap.size:=⟨_,rfl⟩
     rw [← hq8] at HzB HzA hszW ⊢
     have hq8' : q6+1 < q8:=by omega
     clear x0 x1 x2 x3 x4 x5 x6 hs3 hq8 hen3
     go_loopg [11,28] 7 (fun g s11 s28 wr=> ∃ i : Nat,i≤7∧g=7 - i∧s28=.int .i64 i∧Hid (ArT 107 wr (q8+1) (mixL av bv i))∧Hid (Frm (q8+1) (q8+1+1) W wr))
     case atStart=>exact ⟨0,Nat.zero_le _,rfl,rfl,HzA.out,Frm.refl _ _ _⟩
     case round =>
      obtain ⟨i,hi,rfl,rfl,hm,hfm⟩:=hrel
      obtain ⟨wz,rfl⟩ : ∃ x : World,x=wr:=⟨_,rfl⟩
      have Hm:=Lib.hid hm.out
      have Hfm:=Lib.hid hfm.out
      clear hm hfm
      by_cases hi7 : i < 7
      ·have hi7z : (i : Int) < 7:=by omega
       have c1:=Hm.out.cell (j:=i) (by rw [mixL_length];exact hi7)
       rw [mixL_getD hi7,if_neg (Nat.lt_irrefl i)] at c1
       have c2' : wz.cell? ⟨q8,i,none⟩=some (.int .i64 (bv.getD i 0)):=(show ArT 107 wz q8 bv from (Hfm.out.block q8 (by omega) (Or.inl (by omega))).trans HzB.out).cell (by rw [HK2.out.1];exact hi7)
       have f1 : wz.frozen? ⟨q8+1,i,none⟩=false:=free_of_blk Hm.out i
       have r1:=HK.out.rng i
       have r2:=HK2.out.rng i
       have Hs:=Lib.hid (mixL_succ (x:=av) (y:=bv) hi7)
       obtain ⟨xa,hxa⟩ : ∃ x,x=av.getD i 0:=⟨_,rfl⟩
       obtain ⟨xb,hxb⟩ : ∃ x,x=bv.getD i 0:=⟨_,rfl⟩
       rw [← hxa] at c1 r1 Hs
       rw [← hxb] at c2' r2 Hs
       have hwr : IntKind.i64.wrap (xa+xb)=xa+xb:=k64 (by omega) (by omega)
       have hwr2 : wrap64 (xa+xb)=xa+xb:=w64 (by omega) (by omega)
       clear hxa hxb
       go_wp2_with fail
       go_region
       go_wp2_with fail
       go_roundg (7 - (i+1))
       case measure=>omega
       case rel =>
        refine ⟨i+1,by omega,rfl,by go_num,?_,?_⟩
        ·show ArT _ _ _ (mixL av bv (i+1))
         rw [← Hs.out]
         exact Hm.out.set i _
        ·exact (Hfm.out.setCell (p:=⟨q8+1,i,none⟩) (Nat.le_refl _) (by show q8+1 < q8+1+1;omega) _).drewN 1
      ·obtain rfl : i=7:=by omega
       have hmm7:=Hm.out
       rw [mixL_seven] at hmm7
       obtain ⟨t0,t1,t2,t3,t4,t5,t6,hts⟩:=addE_lit av bv
       rw [hts] at hmm7
       have Hts:=Lib.hid hts
       obtain ⟨x0,x1,x2,x3,x4,x5,x6,_,_⟩:=blk7 hmm7
       have hgW:=frm_gb Hfm.out
       have hKe:=HK.out.addE HK2.out
       rw [hts] at hKe
       have HoutZ:=HoutW.out.kept hgW (by intro h;injection h with h;omega)
       have HA:=Lib.hid (add_any B (K0+(size Dg - g2)) (d+d) Dout2 (A ++ A2) [t0,t1,t2,t3,t4,t5,t6] (wrap64 (c * c2)) wz HoutZ Hpm2.out hKe (by omega) (by omega))
       have HrgZ:=Lib.hid (HrgW.out.kept hgW (by intro h;injection h with h;omega) (by intro h;injection h with h;omega))
       have HrgoZ:=Lib.hid (HrgoW.out.kept hgW (by intro h;injection h with h;omega) (by intro h;injection h with h;omega))
       have HbelZ:=Lib.hid (HbelW.out.grown hgW (by omega) (fun j hj=>by cases hj;omega))
       have HzZ:=Lib.hid (show ArT 107 wz q6 av from (Hfm.out.block q6 (by omega) (Or.inl (by omega))).trans HzW.out)
       have hszZ:=Hfm.out.size
       clear hmm7 hts hgW hKe HoutZ
       go_wp2_with fail
       refine HA.out.mono ?_
       rintro e w9 ⟨rfl,D9,ho9,hp9,hg9⟩
       have Hrg9:=Lib.hid (HrgZ.out.kept hg9 (by intro h;injection h with h;omega) (by intro h;injection h with h;omega))
       have Hrgo9:=Lib.hid (HrgoZ.out.kept hg9 (by intro h;injection h with h;omega) (by intro h;injection h with h;omega))
       have Hbel9:=Lib.hid (HbelZ.out.grown hg9 (by omega) (fun j hj=>by cases hj;omega))
       have Hz9:=Lib.hid (show ArT 107 w9 q6 av from (hg9.block q6 (by omega) (by intro h;injection h with h;omega)).trans HzZ.out)
       have Hp9:=Lib.hid hp9
       have hsz9:=hg9.size
       clear hp9 hg9 x0 x1 x2 x3 x4 x5 x6
       go_wp2_with fail
       go_roundg cnt2
       case measure=>exact hlt2
       case rel =>
        refine ⟨_,D9,A2 ++ [([t0,t1,t2,t3,t4,t5,t6],wrap64 (c * c2))],Hrg9.out,Hrgo9.out,by omega,by omega,has_sub hleft2,ho9.mono (by omega),by rw [← List.append_assoc];exact Hp9.out,Lib.hid (Hga2.out.step (d:=d) HG2.out.tidy (by rw [← Hbv.out];exact HK2.out) (by omega) Hlx2.out Hat2.out fun g=> ?_),Hbel9.out,Hz9.out⟩
        rw [Ev_append]
        refine (Cg.refl _).add ?_
        rw [← Hbv.out,Hts.out]
        simp only [Ev,Int.add_zero]
        rw [show c2 * (c * g [t0,t1,t2,t3,t4,t5,t6])=c * c2 * g [t0,t1,t2,t3,t4,t5,t6] by rw [Int.mul_left_comm,Int.mul_assoc]]
        exact (cg_wrap _).mul (Cg.refl _)
end
section
open Go.RowKit
def subN (P : Pl) (c : Int) (S : Pl) : Pl:=srtT (nrm (P ++ sclP (-c) S))
def mulN (P Q : Pl) : Pl:=srtT (nrm (mulP P Q))
theorem Ev_subN (P : Pl) (c : Int) (S : Pl) (g : List Int→Int) : Ev (subN P c S) g=Ev (P ++ sclP (-c) S) g:=by
 unfold subN
 rw [Ev_perm (srtT_perm _),Ev_nrm]
theorem Ev_mulN (P Q : Pl) (g : List Int→Int) : Ev (mulN P Q) g=Ev (mulP P Q) g:=by
 unfold mulN
 rw [Ev_perm (srtT_perm _),Ev_nrm]
def l1S (P : Pl) : Int:=(P.map fun t=>if t.2 < 0 then -t.2 else t.2).sum
theorem cf_l1 (e : List Int) : ∀ P : Pl,-(l1S P)≤cfP P e∧cfP P e≤l1S P
 | []=>by
   show -(0 : Int)≤0∧(0 : Int)≤0
   omega
 | t :: P=>by
   have ih:=cf_l1 e P
   have h1 : cfP (t :: P) e=t.2 * ind e t.1+cfP P e:=Ev_cons t P _
   have h2 : l1S (t :: P)=(if t.2 < 0 then -t.2 else t.2)+l1S P:=by simp [l1S]
   rw [h1,h2]
   unfold ind
   split <;> split <;> omega
def stpB (P : Pl) (w : List Int) (c : Int) : Bool:=match P with
 | []=>false
 | t :: P'=>decide (t.1.length=7) && t.1.all (fun x=>decide (0≤x) && decide (x≤24)) && P'.all (fun s=>ltT t.1 s.1) && decide (t.2=c) && decide (c ≠ 0) && decide (l1S P≤1000000) &&
   poB t.1 && permOk (poO t.1 7) && decide (trimL (poO t.1 7)=w) && permOk w && decide (trimL w=w) && decide (1≤w.length) && decide (w.length≤7) && lowOk 15 w
def exdOk : Pl→List Cls→Bool
 | P,[]=>P.isEmpty
 | P,x :: L=>stpB P x.1 x.2 && exdOk (subN P x.2 (symS7 x.1)) L
end
section
open Go.RowKit Go.Maps Go.WideMaps Go.WideElems Go.MapKept Go.ChangeMaps Go.ChangeShapes
theorem TmOk.k7 {t : Cls} (h : TmOk t) : K7 24 t.1:=by
 refine ⟨h.1,fun x hx=> ?_⟩
 obtain ⟨j,hj,rfl⟩:=List.mem_iff_getElem.1 hx
 have:=h.2.1 j
 rw [getD_lt hj] at this
 exact this
theorem run_arrayAt7 (b o k : Nat) (w : World) : (Instr.arrayAt 107 (.slice (some ⟨b,o,none⟩) 7 k)).run Tryz.prog w=.ok (.pointer (some ⟨b,o,none⟩)) w:=by
 unfold Instr.arrayAt
 simp [run_underlying und56]
theorem take_snocT {l : List Cls} {k : Nat} (h : k < l.length) : l.take (k+1)=l.take k ++ [((l.getD k clD).1,(l.getD k clD).2)]:=by
 rw [List.take_succ,List.getElem?_eq_getElem h]
 have e : l.getD k clD=l[k]:=by simp [List.getD_eq_getElem?_getD,h]
 rw [e]
 rfl
theorem openD_any (d : Nat) (v : Value) (ts : List Cls) (w : World) (h : RdCl w v ts) (hok : TsOk ts) (hd : d≤24) (hkd : ∀ t ∈ ts,K7 d t.1) :
 Calls Tryz.prog 70 #[v] w fun e w'=> ∃ u,e=.returned u∧PolV w' u d ts.length ts∧Below w.heap.size w w':=by
 obtain ⟨f,hs,hf⟩:=h
 obtain ⟨p,cap,rfl,⟨hx1,hx⟩,hxc⟩:=hs.two
 unfold maxLen at hx
 have hmm:=@run_makeMap Tryz.prog
 obtain ⟨N,hN⟩ : ∃ N,N=ts.length:=⟨_,rfl⟩
 have HN:=Lib.hid hN
 have hN6 : N≤600:=by rw [hN];exact hok.1
 rw [← hN] at hx1 hxc hf ⊢
 have Hf:=Lib.hid hf
 have Hxc:=Lib.hid hxc
 have Hok:=Lib.hid hok
 have Hkd:=Lib.hid hkd
 obtain ⟨B,hB⟩ : ∃ B,B=w.heap.size:=⟨_,rfl⟩
 have HB:=Lib.hid hB
 have hown0 : OwnMp (w.alloc (.map #[] 0)) w.heap.size 0 (.map []):=World.ownsMap_made _ _ _ _
 have hbel0 : Below w.heap.size w (w.alloc (.map #[] 0)):=below_alloc w _
 rw [← hB] at hown0 hbel0
 have Hown0:=Lib.hid hown0
 have Hbel0:=Lib.hid hbel0
 clear hf hxc hs hok hN hown0 hbel0 hkd
 go_enter Tryz.func70,Tryz.ntmps70
 go_wp2_with fail
 rw [← HB.out]
 clear hB
 go_loopg [5,9] N (fun g s5 s9 wr=> ∃ (k : Nat) (Dout : DU),k≤N∧g=N - k∧s9=.int .i64 k∧Hid (OwnMp wr B k Dout)∧Hid (PolM d Dout (ts.take k))∧Hid (Below B w wr))
 case atStart=>exact ⟨0,.map [],Nat.zero_le _,rfl,rfl,Hown0.out,PolM.empty _,Hbel0.out⟩
 case round =>
  obtain ⟨k,Dout,hk,rfl,rfl,ho,hp,hb⟩:=hrel
  obtain ⟨wo,rfl⟩ : ∃ x : World,x=wr:=⟨_,rfl⟩
  have Ho:=Lib.hid ho.out
  have Hp:=Lib.hid hp.out
  have Hb:=Lib.hid hb.out
  clear ho hp hb
  by_cases hlt : k < N
  ·have hkz : (k : Int) < (N : Int):=by omega
   obtain ⟨b,rfl,hc⟩:=Hxc.out (by omega)
   obtain ⟨a0,a1⟩:=hc k hlt
   have hbw : Below w.heap.size w wo:=by rw [← HB.out];exact Hb.out
   have c0:=cell_below hbw a0
   have c1:=cell_below hbw a1
   have hT:=Hok.out.at (k:=k) (by rw [← HN.out];exact hlt)
   have hK:=Hkd.out _ (show ts.getD k clD ∈ ts by
    have e : ts.getD k clD=ts[k]'(by rw [← HN.out];exact hlt):=by simp [List.getD_eq_getElem?_getD,show k < ts.length by rw [← HN.out];exact hlt]
    rw [e];exact List.getElem_mem _)
   obtain ⟨e,he⟩ : ∃ e,e=(ts.getD k clD).1:=⟨_,rfl⟩
   obtain ⟨c,hcc⟩ : ∃ c,c=(ts.getD k clD).2:=⟨_,rfl⟩
   have hi:=(Hf.out k hlt).below hbw
   rw [← he] at hK hi
   rw [← hcc] at c1
   obtain ⟨q,kq,eq,⟨m1,m2⟩,hq⟩:=hi
   rw [eq,hK.1] at c0
   rw [hK.1] at hq m1
   obtain ⟨g,og,rfl,hg⟩:=hq (by omega)
   have T1:=Lib.hid (take_snocT (l:=ts) (k:=k) (by rw [← HN.out];exact hlt))
   rw [← he,← hcc] at T1
   obtain ⟨t0,t1,t2,t3,t4,t5,t6,hts⟩ : ∃ t0 t1 t2 t3 t4 t5 t6 : Int,e=[t0,t1,t2,t3,t4,t5,t6]:=by
    have:=hK.1
    match e,this with
    | [t0,t1,t2,t3,t4,t5,t6],_=>exact ⟨_,_,_,_,_,_,_,rfl⟩
   subst hts
   have hlg:=World.block_lt_of_cell? _ _ (hg 0 (by omega))
   obtain ⟨W,hW⟩ : ∃ W,W=wo.alloc (.cells #[.slice (some ⟨g,og,none⟩) 7 kq,.int .i64 c] 132):=⟨_,rfl⟩
   have hbW : Below wo.heap.size wo W:=by rw [hW];exact below_alloc wo _
   have zW : W.heap[wo.heap.size]?=some (.cells #[.slice (some ⟨g,og,none⟩) 7 kq,.int .i64 c] 132 (0,0)):=by rw [hW];exact heap_alloc_top _ _
   have x0:=cell_of_blk zW (j:=0) rfl
   have x1:=cell_of_blk zW (j:=1) rfl
   have y0 : W.cell? ⟨g,og,none⟩=some (.int .i64 t0):=cell_below hbW (hg 0 (by omega))
   have y1:=cell_below hbW (hg 1 (by omega))
   have y2:=cell_below hbW (hg 2 (by omega))
   have y3:=cell_below hbW (hg 3 (by omega))
   have y4:=cell_below hbW (hg 4 (by omega))
   have y5:=cell_below hbW (hg 5 (by omega))
   have y6:=cell_below hbW (hg 6 (by omega))
   have HoW:=Lib.hid (show OwnMp W B k Dout by rw [hW];exact Ho.out.alloc _)
   have HA:=Lib.hid (add_any B k d Dout (ts.take k) [t0,t1,t2,t3,t4,t5,t6] c W.drew (HoW.out.kept (row:=none) ⟨rfl,rfl,rfl,Nat.le_refl _,fun _ _ _=>rfl⟩ (by simp)) Hp.out hK (by omega) (by omega))
   have HbW:=Lib.hid (Hb.out.alloc (o:=(.cells #[.slice (some ⟨g,og,none⟩) 7 kq,.int .i64 c] 132)) (by have:=Ho.out.lt;omega))
   have HW:=Lib.hid hW
   have har:=run_arrayAt7 g og kq
   clear hW hbW zW hg hq hT hc a0 a1 he hcc eq
   go_wp2_with fail
   rw [← HW.out]
   go_still_tail 7,(by kernel_rfl)
   change wpList _ _ _ _ _ W.drew
   go_wp2_with fail
   refine HA.out.mono ?_
   rintro e w9 ⟨rfl,D9,ho9,hp9,hg9⟩
   have Ho9:=Lib.hid ho9
   have Hp9:=Lib.hid hp9
   have Hb9:=Lib.hid ((show Below B w W by rw [HW.out];exact HbW.out).grown (gb_undrew hg9) (by rw [HB.out];exact (show Below w.heap.size w W by rw [← HB.out,HW.out];exact HbW.out).size) (fun j hj=>by injection hj with hj;omega))
   clear x0 x1 y0 y1 y2 y3 y4 y5 y6 ho9 hp9 hg9
   go_wp2_with fail
   go_roundg (N - (k+1))
   case measure=>omega
   case rel=>exact ⟨k+1,D9,by omega,rfl,by go_num,Ho9.out,by rw [T1.out];exact Hp9.out,Hb9.out⟩
  ·obtain rfl : k=N:=by omega
   have hp':=Hp.out
   rw [HN.out,List.take_of_length_le (Nat.le_refl _)] at hp'
   have Hp':=Lib.hid hp'
   clear hp'
   go_wp2_with fail
   go_ret
   exact ⟨_,rfl,⟨B,Dout,rfl,Ho.out,Hp'.out⟩,by rw [← HB.out];exact Hb.out⟩
theorem open_any (v : Value) (ts : List Cls) (w : World) (h : RdCl w v ts) (hok : TsOk ts) :
 Calls Tryz.prog 70 #[v] w fun e w'=> ∃ u,e=.returned u∧PolV w' u 24 ts.length ts∧Below w.heap.size w w' :=
 openD_any 24 v ts w h hok (Nat.le_refl _) fun t ht=>(hok.2.1 t ht).k7
end
end Go.Proofs.YtijadclebjcckaaGreat
