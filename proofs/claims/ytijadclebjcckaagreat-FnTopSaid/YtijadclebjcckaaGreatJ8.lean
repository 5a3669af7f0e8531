/-
  A part of the proof of FnTop (texts of one proof, joined).
-/
import Derived.Test.YtijadclebjcckaaGreatJ7
import Derived.Test.YtijadclebjcckaaGreatShelf
namespace Go.Proofs.YtijadclebjcckaaGreat
set_option linter.all false
set_option maxRecDepth 100000
set_option maxHeartbeats 16000000
section
open Go.RowKit
theorem implPerms_go (n : Nat) (hn : n≤5) (f : Nat) : ∀ (ch : List Int) (v : Value) (lo hi : Nat) (w : World),OwnI 3 w lo hi v ch→hi≤w.heap.size→lo≤w.heap.size→ch.length+f=n →
 Calls Tryz.prog 128 #[.int .i64 n,v] w fun e w'=> ∃ u,e=.returned u∧OwnII 24 3 w' lo w'.heap.size u (allL n f ch)∧Below w.heap.size w w':=by
 induction f with
 | zero =>
   intro ch v lo hi w h hhi hlo hf
   have H:=Lib.hid h
   obtain ⟨p,k,rfl,_,_⟩:=h.shape
   clear h
   obtain rfl : n=ch.length:=by omega
   clear hf
   go_enter Tryz.func128,Tryz.ntmps128
   go_wp2_with fail
   go_ret
   refine ⟨_,rfl,⟨fun _=>.slice p ch.length k,?_,fun i hi=> ?_,fun i j hij hj=> ?_⟩,below_alloc _ _⟩
   ·refine ⟨[.slice p ch.length k],Own.of_rowIs (g:=w.heap.size) (n:=1) (cap:=1) (F:=fun _=>.slice p ch.length k) ⟨#[.slice p ch.length k],heap_alloc_top _ _,rfl,fun i hi=> ?_⟩ hlo (by simp) (Nat.le_refl _) (by unfold maxLen;omega) rfl (fun j hj=> ?_),fun j hj=> ?_⟩
    ·obtain rfl : i=0:=by omega
     rfl
    ·obtain rfl : j=0:=by omega
     rfl
    ·obtain rfl : j=0:=by simpa [allL] using hj
     rfl
   ·obtain rfl : i=0:=by simpa [allL] using hi
    exact ((H.out.below (below_alloc _ _))).mono (Nat.le_refl _) (by simp;omega)
   ·have : j=0:=by simpa [allL] using hj
    omega
 | succ f ih =>
   intro ch v lo hi w h hhi hlo hf
   have H:=Lib.hid h
   have Ih:=Lib.hid ih
   obtain ⟨p,k,rfl,_,_⟩:=h.shape
   have hne : (((ch.length : Int)) == (n : Int))=false:=by simp;omega
   clear h ih
   go_enter Tryz.func128,Tryz.ntmps128
   go_wp2_with fail
   go_loopg [5,15] n (fun g s5 i wr=> ∃ (x : Nat) (rows : List (List Int)),x≤n∧g=n - x∧i=.int .i64 x∧Below w.heap.size w wr ∧
    Hid (rows=(List.range x).flatMap fun (y : Nat)=>if (y : Int) ∈ ch then [] else allL n f (ch ++ [(y : Int)]))∧Hid (OwnII 24 3 wr w.heap.size wr.heap.size s5 rows))
   case atStart=>exact ⟨0,[],Nat.zero_le _,rfl,rfl,below_alloc _ _,rfl,⟨fun _=>undef,(OwnF.made0 w _ _).mono (Nat.le_refl _) (by simp),fun i hi=>absurd hi (by simp),fun i j _ hj=>absurd hj (by simp)⟩⟩
   case round =>
    obtain ⟨x,rows,hx,rfl,rfl,hb,hr,ho⟩:=hrel
    obtain ⟨wo,rfl⟩ : ∃ x : World,x=wr:=⟨_,rfl⟩
    obtain ⟨p3,k3,rfl,_,_⟩:=ho.out.shape
    by_cases hlt : x < n
    ·have hci : Ints wo (.slice p ch.length k) ch:=(H.out.below hb).ints
     go_wp2_with fail
     refine (contains_any _ ch x _ hci).mono ?_
     rintro e w1 ⟨rfl,hq⟩
     by_cases hc : (x : Int) ∈ ch
     ·rw [decide_eq_true hc]
      have hr2 : rows=(List.range (x+1)).flatMap fun (y : Nat)=>if (y : Int) ∈ ch then [] else allL n f (ch ++ [(y : Int)]):=by
       rw [flatMap_snoc,if_pos hc,List.append_nil]
       exact hr.out
      have Hr2:=Lib.hid hr2
      have Ho2:=Lib.hid (ho.out.below (hq.below _))
      have hqs:=hq.size
      have Hb2:=Lib.hid (hb.trans (hq.below _))
      clear hr2 hci hc hq hr ho
      go_wp2
      go_roundg (n - (x+1))
      case measure=>omega
      case rel=>exact ⟨x+1,rows,by omega,rfl,by go_num,Hb2.out,Hr2.out,by rw [hqs];exact Ho2.out⟩
     ·rw [decide_eq_false hc]
      have hr2 : rows ++ allL n f (ch ++ [(x : Int)])=(List.range (x+1)).flatMap fun (y : Nat)=>if (y : Int) ∈ ch then [] else allL n f (ch ++ [(y : Int)]):=by
       rw [flatMap_snoc,if_neg hc,hr.out]
      have hpow : n ^ f≤3125:=Nat.le_trans (Nat.pow_le_pow_left hn f) (Nat.pow_le_pow_right (by decide) (show f≤5 by omega))
      have hrl : rows.length≤x * n ^ f:=by
       rw [hr.out]
       refine flatMap_len _ _ (fun y=> ?_) x
       split
       ·simp
       ·exact allL_len _ _ _
      have hrl2 : rows.length+(allL n f (ch ++ [(x : Int)])).length≤18750:=by
       have h1 : x * n ^ f≤5 * 3125:=Nat.mul_le_mul (by omega) hpow
       have h2:=allL_len n f (ch ++ [(x : Int)])
       omega
      have Hr2:=Lib.hid hr2
      have Hbnd:=Lib.hid hrl2
      have Hq:=Lib.hid hq
      have Hci:=Lib.hid (hci.qt hq)
      have hqs:=hq.size
      have hs1:=hb.size
      have hc5 : ch.length≤5:=by omega
      have Hc1:=Lib.hid (show ch.length+1≤maxLen by unfold maxLen;omega)
      have Hc2:=Lib.hid (show (ch.length+1) * 8≤140737488355328 by omega)
      have Hlen:=Lib.hid (show (ch ++ [(x : Int)]).length+f=n by simp;omega)
      clear hr2 hrl2 hrl hpow hci hc hq hr
      go_wp2_with fail
      refine (clone_any _ ch _ Hci.out (by omega)).mono ?_
      rintro e w2 ⟨u,rfl,ho2,hb2⟩
      obtain ⟨p2,k2,rfl,_,_⟩:=ho2.shape
      have Ho2:=Lib.hid ho2
      have hs2:=hb2.size
      go_wp2_with (at_builtin;go_must (refine wpList_append_F rfl (.tmp 25) (.tmp 27) 24 rfl 3 (.int .i64 0) 8 Tryz.underlying24 info_int rfl w1.heap.size w2.heap.size _ ch.length (iv ch) rfl ((Ho2.out.below (below_alloc _ _)).fn) (by simp;omega) (by simp) _ _ _ rfl (rd_one _ _ _ rfl) (fun j _=>rfl) Hc1.out Hc2.out ?_;intro v' w3 ho3 hg3))
      have ho4:=OwnI.snoc1 ho3
      have hs3:=hg3.size
      simp only [size_alloc] at hs3
      have hb3 : Below wo.heap.size wo w3:=(Hq.out.below _).trans ((hb2.mono (by omega)).trans (((below_alloc w2 _).mono (by omega)).trans (grownBy_below hg3 Ho2.out.fn.blocks (by omega) (by simp;omega))))
      obtain ⟨p4,k4,rfl,_,_⟩:=ho4.shape
      refine (Ih.out (ch ++ [(x : Int)]) _ w1.heap.size w3.heap.size w3 ho4 (Nat.le_refl _) (by omega) Hlen.out).mono ?_
      rintro e w5 ⟨u5,rfl,ho5,hb5⟩
      generalize allL n f (ch ++ [(x : Int)])=new at *
      have hb6 : Below wo.heap.size wo w5:=hb3.trans (hb5.mono (by omega))
      have hs5:=hb5.size
      obtain ⟨p5,k5,rfl,_,_⟩:=ho5.shape
      obtain ⟨F,g1,g2,g3⟩:=ho
      obtain ⟨G,j1,j2,j3⟩:=ho5
      have G1:=Lib.hid (g1.below hb6)
      have G2:=Lib.hid (fun i hi=>(g2 i hi).below hb6)
      have G3:=Lib.hid g3
      have J1:=Lib.hid j1
      have J2:=Lib.hid j2
      have J3:=Lib.hid j3
      have hone : ∀ j,j < new.length→(G j).oneCell'=true:=fun j hj=>by
       obtain ⟨p,c,e,_⟩:=(j2 j hj).shape
       rw [e];rfl
      have Hone:=Lib.hid hone
      have hbnd:=Hbnd.out
      have Hd1:=Lib.hid (show rows.length+new.length≤maxLen by unfold maxLen;omega)
      have Hd2:=Lib.hid (show (rows.length+new.length) * 24≤140737488355328 by omega)
      have Hb6:=Lib.hid hb6
      clear g1 g2 g3 j1 j2 j3 hone hb6 hb5 hb3 ho4 ho3 hg3 ho2 hb2 hbnd
      go_wp2_with (at_builtin;go_must (refine wpList_append_F rfl (.tmp 22) (.tmp 29) 43 rfl 24 (.slice none 0 0) 24 Tryz.underlying43 info_sl rfl w.heap.size wo.heap.size _ rows.length F rfl G1.out (by omega) (by omega) _ _ _ rfl J1.out.rd Hone.out Hd1.out Hd2.out ?_;intro v' w' ho' hg'))
      have hsw':=hg'.size
      have hblow : Below w.heap.size wo w':=(Hb6.out.mono hs1).trans (grownBy_below hg' G1.out.blocks (Nat.le_refl _) (by omega))
      go_roundg (n - (x+1))
      case measure=>omega
      case rel =>
       refine ⟨x+1,rows ++ new,by omega,rfl,by go_num,hb.trans hblow,Hr2.out,?_⟩
       exact OwnII.join G1.out G2.out G3.out (fun i hi=>(J2.out i hi).mono (by omega) (Nat.le_refl _)) J3.out hs1 (by omega) (by decide) hg' (by omega) ho'
    ·go_wp2_with fail
     go_ret
     obtain rfl : x=n:=by omega
     have e : allL x (f+1) ch=rows:=by rw [hr.out];rfl
     rw [e]
     exact ⟨_,rfl,ho.out.mono hlo (Nat.le_refl _),hb⟩
theorem implAllPerms_any (N : Int) (w : World) :
 Calls Tryz.prog 107 #[.int .i64 N] w (RetII w (allPermsL N)):=by
 by_cases h : 1≤N∧N≤5
 ·obtain ⟨n,rfl⟩:=Int.eq_ofNat_of_zero_le (show (0 : Int)≤N by omega)
  have e : allPermsL n=allL n n []:=by rw [allL_perms n (by omega) (by omega)];simp [allPermsL,h]
  rw [e]
  have H1 : decide ((n : Int) < 1)=false:=by simp;omega
  have H2 : decide ((5 : Int) < n)=false:=by simp;omega
  clear e
  go_enter Tryz.func107,Tryz.ntmps107
  go_wp2_with fail
  refine (implPerms_go n (by omega) n [] _ w.heap.size w.heap.size _ (own_nil _ _ _ _) (Nat.le_refl _) (Nat.le_refl _) (by simp)).mono ?_
  rintro e w2 ⟨u,rfl,ho,hb⟩
  go_wp2_with fail
  go_ret
  exact ⟨_,rfl,ho,hb⟩
 ·have e : allPermsL N=[]:=by simp [allPermsL,h]
  rw [e]
  clear e
  by_cases h1 : N < 1
  ·clear h
   go_enter Tryz.func107,Tryz.ntmps107
   go_wp2_with fail
   go_ret
   exact ⟨_,rfl,ownII_nil _ _ _,Below.refl _ _⟩
  ·have h2 : 5 < N:=by omega
   clear h
   go_enter Tryz.func107,Tryz.ntmps107
   go_wp2_with fail
   go_ret
   exact ⟨_,rfl,ownII_nil _ _ _,Below.refl _ _⟩
def tabV (vs ys ws : List Int) : Int:=wrap64 (Ev (dblP vs ys) (mono (pickL ws ys)))
def tabL (vs ys : List Int) : List Int:=(permsL vs.length).map (tabV vs ys)
theorem tabL_length (vs ys : List Int) : (tabL vs ys).length=fact vs.length:=by simp [tabL,permsL]
theorem permsL_length (n : Nat) : (permsL n).length=fact n:=by simp [permsL]
def prmB (n : Nat) : Bool:=(permsL n).all fun w=>permOk w && decide (w.length=n)
theorem prm_all : ∀ n : Fin 6,1≤(n : Nat)→prmB n=true:=by decide +kernel
theorem prm_p5 {n : Nat} (h1 : 1≤n) (h5 : n≤5) {x : Nat} (hx : x < fact n) : P5 n ((permsL n).getD x []):=by
 have:=prm_all ⟨n,by omega⟩ h1
 unfold prmB at this
 rw [List.all_eq_true] at this
 have hm : (permsL n).getD x [] ∈ permsL n:=by
  rw [List.getD_eq_getElem?_getD,List.getElem?_eq_getElem (by rw [permsL_length];exact hx)]
  exact List.getElem_mem _
 have:=this _ hm
 rw [Bool.and_eq_true,decide_eq_true_eq] at this
 exact ⟨this.1,this.2,h5⟩
theorem tab_getD {vs ys : List Int} {n x : Nat} (hn : vs.length=n) (hx : x < fact n) : (tabL vs ys).getD x 0=tabV vs ys ((permsL n).getD x []):=by
 unfold tabL
 rw [hn,List.getD_eq_getElem?_getD,List.getElem?_map,List.getD_eq_getElem?_getD,List.getElem?_eq_getElem (by rw [permsL_length];exact hx)]
 rfl
theorem tab_take {vs ys : List Int} {n x : Nat} (hn : vs.length=n) (hx : x < fact n) : (tabL vs ys).take (x+1)=(tabL vs ys).take x ++ [tabV vs ys ((permsL n).getD x [])]:=by
 have hl : x < (tabL vs ys).length:=by rw [tabL_length,hn];exact hx
 rw [← tab_getD hn hx,getD_lt hl,List.take_append_getElem]
theorem fact4 {n : Nat} (h1 : 1≤n) (h5 : n≤5) : 1≤fact n∧fact n≤120:=by
 have : ∀ n : Fin 6,1≤fact n∧fact n≤120:=by decide
 exact this ⟨n,by omega⟩
theorem implTable_any (n : Nat) (vs ys : List Int) (pv py : Value) (w : World) (hp : P5 n vs) (h1 : 1≤n) (h4 : n≤4) (hyl : ys.length=n) (hy9 : ∀ x ∈ ys,-9≤x∧x≤9) (hv : Ints w pv vs) (hy : Ints w py ys) :
 Calls Tryz.prog 78 #[pv,py] w fun e w'=> ∃ u,e=.returned (.tuple #[u,.bool true])∧OwnI 3 w' w.heap.size w'.heap.size u (tabL vs ys)∧Below w.heap.size w w':=by
 have HV:=Lib.hid hv
 have HY:=Lib.hid hy
 have Hp:=Lib.hid hp
 have Hvl:=Lib.hid hp.len
 have Hyl:=Lib.hid hyl
 have Hy9:=Lib.hid hy9
 have h5:=hp.le
 obtain ⟨F,hF⟩ : ∃ F,F=fact n:=⟨_,rfl⟩
 have hf:=fact4 h1 h5
 rw [← hF] at hf
 have HF:=Lib.hid hF
 obtain ⟨T,hT⟩ : ∃ T,T=tabL vs ys:=⟨_,rfl⟩
 have HT:=Lib.hid hT
 have HTl:=Lib.hid (show T.length=F by rw [hT,tabL_length,hp.len,hF])
 rw [← hT]
 have Hsh:=Lib.hid (show shiftB (n : Int) ys=true by
  unfold shiftB
  rw [hyl,decide_eq_true rfl,decide_eq_true hy9];rfl)
 obtain ⟨av,cv,rfl,⟨hv1,hv2⟩,_⟩:=hv
 obtain ⟨ay,cy,rfl,⟨hy1,hy2⟩,_⟩:=hy
 unfold maxLen at hv2 hy2
 rw [Hvl.out] at HV hv1 ⊢
 rw [hyl] at HY hy1 ⊢
 clear hp hyl hy9 hF hT
 have hni : ¬ (4 : Int) < (n : Int):=by omega
 go_enter Tryz.func78,Tryz.ntmps78
 go_wp2_with fail
 refine (implIsPerm_b _ vs true Hp.out.ok _ HV.out).mono ?_
 rintro e w1 ⟨rfl,hb⟩
 have HB1:=Lib.hid hb
 clear hb
 go_wp2_with fail
 refine (shiftsOk_any _ _ ys _ (HY.out.below HB1.out)).mono ?_
 rintro e w1' ⟨rfl,rfl⟩
 rw [Hsh.out]
 go_wp2_with fail
 refine (double_any _ _ vs ys _ (HV.out.below HB1.out) (HY.out.below HB1.out) (by rw [Hvl.out];exact h1) (by rw [Hvl.out];exact h5) (by rw [Hvl.out];exact Hyl.out) Hy9.out Hp.out.low).mono ?_
 rintro e w3 ⟨u3,rfl,hp3,hb3⟩
 have HP:=Lib.hid hp3
 obtain ⟨bf,Df,rfl,_,_⟩:=hp3
 have HB3:=Lib.hid (HB1.out.trans (hb3.mono HB1.out.size))
 have hs13:=HB3.out.size
 clear hb3
 obtain ⟨B0,hB0⟩ : ∃ B,B=w3.heap.size:=⟨_,rfl⟩
 have HB0:=Lib.hid hB0
 rw [← hB0] at hs13
 clear hB0
 go_wp2_with fail
 refine (implAllPerms_any (n : Int) _).mono ?_
 have hap : allPermsL (n : Int)=permsL n:=by unfold allPermsL;rw [if_pos (by omega),Int.toNat_natCast]
 rw [hap]
 clear hap
 rintro e w2 ⟨u2,rfl,ho2,hb2⟩
 have hRl : (permsL n).length=F:=by rw [permsL_length,HF.out]
 have HRl:=Lib.hid hRl
 have e1 : (w3.alloc (.cells #[] 3)).heap.size=B0+1:=by rw [size_alloc,HB0.out]
 obtain ⟨p2,k2,rfl,hk2,hk22⟩:=ho2.shape
 rw [hRl] at hk2 ⊢
 unfold maxLen at hk22
 have hs2 : B0+1≤w2.heap.size:=by rw [← e1];exact hb2.size
 rw [e1] at ho2
 rw [hRl] at ho2
 have Hrows:=Lib.hid ho2
 have Hb2:=Lib.hid (show Below B0 w3 w2 from by rw [HB0.out];exact (below_alloc w3 _).trans (hb2.mono (by simp)))
 have Ho0:=Lib.hid (show OwnI 3 w2 B0 w2.heap.size (.slice (some ⟨w3.heap.size,0,none⟩) 0 0) (T.take 0) from by
  rw [List.take_zero]
  have:=(OwnF.ints (xs:=[]) (OwnF.made0 w3 3 (iv []))).below hb2
  rw [← HB0.out] at this ⊢
  exact this.mono (Nat.le_refl _) (by omega))
 clear hRl ho2 hb2 e1
 obtain ⟨M,hM⟩ : ∃ M,M=w2.heap.size:=⟨_,rfl⟩
 rw [← hM] at hs2
 have HM:=Lib.hid hM
 clear hM
 go_wp2_with fail
 go_loopg [7,33] F (fun g s7 s33 wr=> ∃ k : Nat,k≤F∧g=F - k∧s33=.int .i64 (k : Int)∧Hid (Below B0 w3 wr)∧Hid (M≤wr.heap.size)∧Hid (OwnII 24 3 wr (B0+1) M (.slice p2 F k2) (permsL n))∧Hid (OwnI 3 wr B0 wr.heap.size s7 (T.take k))∧Hid (∀ b,s7.ownBlock=some b→b=B0 ∨ M≤b))
 case atStart =>
  refine ⟨0,Nat.zero_le _,rfl,rfl,Hb2,Lib.hid (Nat.le_of_eq HM.out),by rw [HM.out];exact Hrows,Ho0,Lib.hid fun b hb=>.inl ?_⟩
  rw [HB0.out];cases hb;rfl
 case round =>
  obtain ⟨k,hk,rfl,rfl,hb,hM2,hrows,ho,hbk⟩:=hrel
  obtain ⟨wx,rfl⟩ : ∃ x : World,x=wr:=⟨_,rfl⟩
  have Hb:=Lib.hid hb.out
  have Hrw:=Lib.hid hrows.out
  have Ho:=Lib.hid ho.out
  have Hbk:=Lib.hid hbk.out
  have hMx:=hM2.out
  have htl : (T.take k).length=k:=by rw [List.length_take,HTl.out];omega
  obtain ⟨p5,k5,rfl,hk5,hk55⟩:=ho.out.shape
  rw [htl] at hk5 ⊢
  have Htl:=Lib.hid htl
  have Hbw:=Lib.hid (HB3.out.trans (Hb.out.mono hs13))
  clear hb hrows ho hbk hM2 htl
  by_cases hlt : k < F
  ·have hki : (k : Int) < (F : Int):=by omega
   have HI : Hid (P5 n ((permsL n).getD k [])):=prm_p5 h1 h5 (by rw [← HF.out];exact hlt)
   obtain ⟨f,hf1,hf2⟩:=Hrw.out.rd
   rw [HRl.out] at hf1 hf2
   have hr:=hf2 k hlt
   have hr':=hr
   obtain ⟨pr,kr,er,⟨hkr,hkr2⟩,_⟩:=hr'
   obtain ⟨row,hrow⟩ : ∃ row,row=(permsL n).getD k []:=⟨_,rfl⟩
   rw [← hrow] at hr HI er
   rw [HI.out.len] at er
   rw [er] at hr
   have Hr:=Lib.hid hr
   have Hrow:=Lib.hid hrow
   obtain ⟨_,_,e0,_,hlc0⟩:=hf1
   injection e0 with e1 e2 e3
   subst e1 e3
   obtain ⟨bl,ol,rfl,hlc⟩:=hlc0 (by omega)
   have d0:=hlc k hlt
   rw [er] at d0
   clear hf2 hr er hrow hlc0 hlc e2 hkr hkr2
   have Htk:=Lib.hid (tab_take (ys:=ys) Hvl.out (show k < fact n by rw [← HF.out];exact hlt))
   go_wp2_with fail
   refine (valueAt_any _ _ _ 10 _ (dblP vs ys) row ys _ (HP.out.below (HB0.out ▸ Hb.out)) (by omega) Hr.out (HY.out.below Hbw.out) (by rw [HI.out.len];omega) (fun i hi=>by rw [HI.out.len] at hi;rw [Hyl.out];exact HI.out.rng hi)).mono ?_
   rintro e w4 ⟨rfl,hb4⟩
   obtain ⟨R,hR⟩ : ∃ R,R=wrap64 (Ev (dblP vs ys) (mono (pickL row ys))):=⟨_,rfl⟩
   have HR:=Lib.hid hR
   rw [← hR]
   have Hb4:=Lib.hid hb4
   have hs4:=hb4.size
   have h0x : B0≤wx.heap.size:=by omega
   have Ho4:=Lib.hid (Ho.out.below hb4)
   have Hrw4:=Lib.hid (Hrw.out.below hb4)
   have hbd1 : k+1≤maxLen:=by unfold maxLen;omega
   have hbd2 : (k+1) * 8≤140737488355328:=by omega
   clear hb4 hR
   have hofn:=Ho4.out.fn
   rw [Htl.out] at hofn
   go_wp2_with (at_builtin;go_must (refine wpList_append_G rfl (.tmp 37) (.tmp 42) 24 rfl 3 (.int .i64 0) 8 Tryz.underlying24 info_int rfl B0 wx.heap.size _ k (iv (T.take k)) rfl (hofn.below (below_alloc w4 _)) (by rw [size_alloc];omega) (by rw [size_alloc];omega) _ 1 _ rfl (rd_one _ _ _ rfl) (fun j _=>rfl) hbd1 hbd2 ?_;intro v5 w5 ho5 hg5 hw5))
   have hg6 : (w4.alloc (.cells #[.int .i64 R] 3)).grownBy w5 (Value.slice p5 k k5).ownBlock:=hg5
   have hw6 : ∀ b,v5.ownBlock=some b→(Value.slice p5 k k5).ownBlock=some b ∨ w4.heap.size+1≤b:=fun b hb=>by have:=hw5 b hb;rw [size_alloc] at this;exact this
   have hbk0:=Hbk.out
   rw [Htl.out] at hbk0
   have hs5 : w4.heap.size+1≤w5.heap.size:=by have:=hg6.size;rw [size_alloc] at this;exact this
   clear hg5 hw5
   go_wp2_with fail
   go_roundg (F - (k+1))
   case measure=>omega
   case rel =>
    refine ⟨k+1,hlt,rfl,by go_num,Lib.hid ?_,Lib.hid (by omega),Lib.hid ?_,Lib.hid ?_,Lib.hid fun b hb=> ?_⟩
    ·exact ((Hb.out.trans (Hb4.out.mono h0x)).trans ((below_alloc w4 _).mono (by omega))).trans (grownBy_below hg6 hofn.blocks (Nat.le_refl _) (by rw [size_alloc];omega))
    ·exact (Hrw4.out.below (below_alloc w4 _)).grown hg6 fun b hb=>by rcases hbk0 b hb with h | h <;> omega
    ·have e : T.take (k+1)=T.take k ++ [R]:=by
      rw [HT.out,Htk.out,HR.out,← Hrow.out];rfl
     rw [e]
     exact OwnI.snoc1 (by rw [Htl.out];exact ho5)
    ·rcases hw6 b hb with h | h
     ·exact hbk0 b h
     ·exact .inr (by omega)
  ·obtain rfl : k=F:=by omega
   have hki : ¬ (k : Int) < (k : Int):=by omega
   have hof : OwnI 3 wx B0 wx.heap.size (.slice p5 k k5) T:=by
    have:=Ho.out
    rwa [Htl.out,List.take_of_length_le (by rw [HTl.out];exact Nat.le_refl _)] at this
   have Hof:=Lib.hid (hof.mono hs13 (Nat.le_refl _))
   clear hof
   go_wp2_with fail
   go_ret2
   exact ⟨_,rfl,Hof.out,Hbw.out⟩
def pmA (n x : Nat) : List Int:=(permsL n).getD x []
def tbA (n : Nat) (ys : List Int) (x : Nat) : List Int:=tabL (pmA n x) ys
structure YOk (n : Nat) (ys : List Int) : Prop where
 one : 1≤n
 four : n≤4
 len : ys.length=n
 nine : ∀ x ∈ ys,-9≤x∧x≤9
 dst : DstY n ys
theorem yOk {n : Nat} {ys : List Int} (h : apOk (n : Int) ys=true) : YOk n ys:=by
 simp only [apOk,nmOk,Bool.and_eq_true,decide_eq_true_eq] at h
 obtain ⟨⟨⟨⟨⟨a,b⟩,c⟩,d⟩,e⟩,f⟩:=h
 have hl : ys.length=n:=by omega
 refine ⟨by omega,by omega,hl,d,fun i j hi hj hne he=> ?_⟩
 rw [getD_lt (by omega),getD_lt (by omega)] at he
 have hp:=List.pairwise_iff_getElem.1 f
 rcases Nat.lt_or_gt_of_ne hne with h | h
 ·exact hp i j (by omega) (by omega) h he
 ·exact hp j i (by omega) (by omega) h he.symm
theorem YOk.ap {n : Nat} {ys : List Int} (h : YOk n ys) : apOk (n : Int) ys=true:=by
 have h1:=h.one
 have h2:=h.four
 have h3:=h.len
 simp only [apOk,nmOk,Bool.and_eq_true,decide_eq_true_eq]
 refine ⟨⟨⟨⟨⟨by omega,by omega⟩,by omega⟩,h.nine⟩,by omega⟩,?_⟩
 rw [List.nodup_iff_pairwise_ne,List.pairwise_iff_getElem]
 intro i j hi hj hij he
 refine h.dst i j (by omega) (by omega) (by omega) ?_
 rw [getD_lt (by omega),getD_lt (by omega)]
 exact he
section
variable {n : Nat} {ys : List Int}
theorem pm_p5 (hy : YOk n ys) {x : Nat} (hx : x < fact n) : P5 n (pmA n x):=prm_p5 hy.one (by have:=hy.four;omega) hx
theorem tb_length (hy : YOk n ys) {x : Nat} (hx : x < fact n) : (tbA n ys x).length=fact n:=by unfold tbA;rw [tabL_length,(pm_p5 hy hx).len]
theorem wrap_of {a : Int} (h : a.natAbs≤1000000000000000000) : wrap64 a=a:=by unfold wrap64;omega
theorem tb_at (hy : YOk n ys) {x i : Nat} (hx : x < fact n) (hi : i < fact n) : (tbA n ys x).getD i 0=FW n ys (pmA n x) (pmA n i):=by
 have hp:=pm_p5 hy hx
 unfold tbA
 rw [tab_getD hp.len hi]
 have hb:=FW_bound hy.len hy.one hy.four hy.nine hp (pm_p5 hy hi)
 unfold tabV
 have e : Ev (dblP (pmA n x) ys) (mono (pickL ((permsL n).getD i []) ys))=FW n ys (pmA n x) (pmA n i):=by
  unfold FW EV dblP
  rw [hp.len];rfl
 rw [e]
 exact wrap_of (by omega)
theorem tb_bound (hy : YOk n ys) {x i : Nat} (hx : x < fact n) (hi : i < fact n) : ((tbA n ys x).getD i 0).natAbs≤1000000:=by
 rw [tb_at hy hx hi]
 exact FW_bound hy.len hy.one hy.four hy.nine (pm_p5 hy hx) (pm_p5 hy hi)
theorem tb_ne (hy : YOk n ys) {x : Nat} (hx : x < fact n) : (tbA n ys x).getD x 0 ≠ 0:=by
 rw [tb_at hy hx hx]
 exact FW_ne hy.len (pm_p5 hy hx) hy.dst
end
def subL (rest : List Int) (c : Int) (t : List Int) : List Int:=(List.range rest.length).map fun i=>rest.getD i 0 - c * t.getD i 0
theorem subL_length (rest : List Int) (c : Int) (t : List Int) : (subL rest c t).length=rest.length:=by simp [subL]
theorem subL_getD {rest t : List Int} {c : Int} {i : Nat} (h : i < rest.length) : (subL rest c t).getD i 0=rest.getD i 0 - c * t.getD i 0:=by simp [subL,List.getD_eq_getElem?_getD,h]
def qoA (n : Nat) (ys rest : List Int) (x : Nat) : Int:=(rest.getD x 0).tdiv ((tbA n ys x).getD x 0)
def badA (n : Nat) (ys rest : List Int) (x : Nat) : Prop:=qoA n ys rest x * (tbA n ys x).getD x 0 ≠ rest.getD x 0 ∨ qoA n ys rest x < -1000000000 ∨ 1000000000 < qoA n ys rest x
instance (n : Nat) (ys rest : List Int) (x : Nat) : Decidable (badA n ys rest x):=by unfold badA;exact inferInstance
def exGo (n : Nat) (ys : List Int) : List Nat→List Int→List Cls→Option (List Cls)
 | [],_,out=>some out
 | x :: l,rest,out =>
   if badA n ys rest x then none
   else if qoA n ys rest x=0 then exGo n ys l rest out
   else exGo n ys l (subL rest (qoA n ys rest x) (tbA n ys x)) (out ++ [(trimL (pmA n x),qoA n ys rest x)])
def resE (o : Option (List Cls)) : List Cls × Bool:=match o with | none=>([],false) | some out=>(srtC out,true)
def expE (n : Nat) (vs ys : List Int) (ord : List Nat) : List Cls × Bool:=resE (exGo n ys ord vs [])
def RestOk (n k : Nat) (rest : List Int) : Prop:=rest.length=fact n ∧ ∀ i,i < fact n→(rest.getD i 0).natAbs≤1000000000000+k * 1000000000000000
theorem RestOk.mono {n k : Nat} {rest : List Int} (h : RestOk n k rest) : RestOk n (k+1) rest:=⟨h.1,fun i hi=>Nat.le_trans (h.2 i hi) (Nat.add_le_add_left (Nat.mul_le_mul_right _ (Nat.le_succ k)) _)⟩
theorem abs_mul2 {a b : Int} {A B : Nat} (h1 : a.natAbs≤A) (h2 : b.natAbs≤B) : (a * b).natAbs≤A * B:=by rw [Int.natAbs_mul];exact Nat.mul_le_mul h1 h2
theorem RestOk.sub {n k : Nat} {rest ys : List Int} (hy : YOk n ys) {x : Nat} (hx : x < fact n) {c : Int} (hc : c.natAbs≤1000000000) (h : RestOk n k rest) : RestOk n (k+1) (subL rest c (tbA n ys x)):=by
 refine ⟨by rw [subL_length];exact h.1,fun i hi=> ?_⟩
 rw [subL_getD (by rw [h.1];exact hi)]
 have a:=h.2 i hi
 have b:=abs_mul2 hc (tb_bound hy hx hi)
 have e : (k+1) * 1000000000000000=k * 1000000000000000+1000000000 * 1000000:=Nat.succ_mul _ _
 rw [e]
 obtain ⟨X,hX⟩ : ∃ X,X=k * 1000000000000000:=⟨_,rfl⟩
 rw [← hX] at a ⊢
 obtain ⟨Y,hY⟩ : ∃ Y,Y=1000000000 * 1000000:=⟨_,rfl⟩
 rw [← hY] at b ⊢
 clear hX hY e
 omega
theorem tdiv_abs (a b : Int) : (a.tdiv b).natAbs≤a.natAbs:=by rw [Int.natAbs_tdiv];exact Nat.div_le_self _ _
theorem tdiv_mul_abs (a b : Int) : (a.tdiv b * b).natAbs≤a.natAbs:=by rw [Int.natAbs_mul,Int.natAbs_tdiv];exact Nat.div_mul_le_self _ _
def trimB (n : Nat) : Bool:=decide (((List.range (fact n)).map fun x=>trimL (pmA n x)).Nodup)
theorem trim_all : ∀ n : Fin 4,trimB (n.val+1)=true:=by decide +kernel
theorem trim_nodup {n : Nat} (h1 : 1≤n) (h4 : n≤4) : ((List.range (fact n)).map fun x=>trimL (pmA n x)).Nodup:=by
 have:=trim_all ⟨n - 1,by omega⟩
 rw [show (⟨n - 1,by omega⟩ : Fin 4).val+1=n by simp;omega] at this
 exact of_decide_eq_true this
def OutOk (n : Nat) (done : List Nat) (out : List Cls) : Prop:=(out.map (·.1)).Sublist (done.map fun x=>trimL (pmA n x))
theorem OutOk.skip {n : Nat} {done : List Nat} {out : List Cls} (h : OutOk n done out) (x : Nat) : OutOk n (done ++ [x]) out:=by
 unfold OutOk at *
 rw [List.map_append]
 exact h.trans (List.sublist_append_left _ _)
theorem OutOk.snoc {n : Nat} {done : List Nat} {out : List Cls} (h : OutOk n done out) (x : Nat) (c : Int) : OutOk n (done ++ [x]) (out ++ [(trimL (pmA n x),c)]):=by
 unfold OutOk at *
 rw [List.map_append,List.map_append]
 exact h.append (List.Sublist.refl _)
theorem OutOk.nodup {n : Nat} (h1 : 1≤n) (h4 : n≤4) {done l : List Nat} {out : List Cls} (h : OutOk n done out) (hp : (done ++ l).Perm (List.range (fact n))) : (out.map (·.1)).Nodup:=by
 refine List.Nodup.sublist h ?_
 have a : ((done ++ l).map fun x=>trimL (pmA n x)).Nodup:=(List.Perm.nodup_iff (hp.map _)).2 (trim_nodup h1 h4)
 rw [List.map_append] at a
 exact (List.nodup_append.1 a).1
theorem OutOk.length {n : Nat} {done l : List Nat} {out : List Cls} (h : OutOk n done out) (hp : (done ++ l).Perm (List.range (fact n))) : out.length≤fact n:=by
 have a:=h.length_le
 have b:=hp.length_eq
 rw [List.length_map,List.length_map] at a
 rw [List.length_append,List.length_range] at b
 omega
end
section
open Go.RowKit Go.Sort
variable {α : Type} [Inhabited α]
def swR (a b : Nat) : Nat→Array α→Array α
 | 0,d=>d
 | k+1,d=>swp (swR a b k d) (a+k) (b+k)
theorem size_swR (a b : Nat) (d : Array α) : ∀ k,(swR a b k d).size=d.size
 | 0=>rfl
 | k+1=>by rw [swR,size_swp,size_swR a b d k]
def rotA (m : Nat) : Nat→Nat→Nat→Array α→Array α
 | 0,_,_,d=>d
 | f+1,i,j,d=>if i=j then swR (m - i) m i d else if j < i then rotA m f (i - j) j (swR (m - i) m j d) else rotA m f i (j - i) (swR (m - i) (m+j - i) i d)
theorem size_rotA (m : Nat) : ∀ (f i j : Nat) (d : Array α),(rotA m f i j d).size=d.size
 | 0,_,_,_=>rfl
 | f+1,i,j,d=>by
   rw [rotA]
   split
   ·exact size_swR _ _ _ _
   ·split
    ·rw [size_rotA m f,size_swR]
    ·rw [size_rotA m f,size_swR]
def bsA (p : Nat→Bool) : Nat→Nat→Nat→Nat
 | 0,i,_=>i
 | f+1,i,j=>if i < j then (if p ((i+j) / 2) then bsA p f ((i+j) / 2+1) j else bsA p f i ((i+j) / 2)) else i
theorem bsA_rng (p : Nat→Bool) : ∀ (f i j : Nat),i≤j→i≤bsA p f i j∧bsA p f i j≤j
 | 0,i,j,h=>⟨Nat.le_refl _,h⟩
 | f+1,i,j,h=>by
   rw [bsA]
   split
   ·split
    ·have:=bsA_rng p f ((i+j) / 2+1) j (by omega);omega
    ·have:=bsA_rng p f i ((i+j) / 2) (by omega);omega
   ·omega
theorem bsA_end (p : Nat→Bool) : ∀ (f i j : Nat),¬ i < j→bsA p f i j=i
 | 0,_,_,_=>rfl
 | f+1,i,j,h=>by rw [bsA,if_neg h]
theorem bsA_up {p : Nat→Bool} {f i j : Nat} (hf : j - i≤f) (h : i < j) (hp : p ((i+j) / 2)=true) : bsA p f i j=bsA p (f - 1) ((i+j) / 2+1) j:=by
 obtain ⟨t,rfl⟩ : ∃ t,f=t+1:=⟨f - 1,by omega⟩
 rw [bsA,if_pos h,if_pos hp];rfl
theorem bsA_dn {p : Nat→Bool} {f i j : Nat} (hf : j - i≤f) (h : i < j) (hp : p ((i+j) / 2)=false) : bsA p f i j=bsA p (f - 1) i ((i+j) / 2):=by
 obtain ⟨t,rfl⟩ : ∃ t,f=t+1:=⟨f - 1,by omega⟩
 rw [bsA,if_pos h,hp];rfl
def shUA (a : Nat) : Nat→Array α→Array α
 | 0,d=>d
 | k+1,d=>swp (shUA a k d) (a+k) (a+k+1)
def shDA (m : Nat) : Nat→Array α→Array α
 | 0,d=>d
 | k+1,d=>swp (shDA m k d) (m - k) (m - k - 1)
theorem size_shUA (a : Nat) (d : Array α) : ∀ k,(shUA a k d).size=d.size
 | 0=>rfl
 | k+1=>by rw [shUA,size_swp,size_shUA a d k]
theorem size_shDA (m : Nat) (d : Array α) : ∀ k,(shDA m k d).size=d.size
 | 0=>rfl
 | k+1=>by rw [shDA,size_swp,size_shDA m d k]
section
variable (lt : α→α→Bool)
def sp1 (d : Array α) (a h : Nat) : Bool:=lt d[h]! d[a]!
def sp2 (d : Array α) (m h : Nat) : Bool:=!lt d[m]! d[h]!
def sp3 (d : Array α) (p c : Nat) : Bool:=!lt d[p - c]! d[c]!
def smLo (a m b : Nat) : Nat:=if (a+b) / 2 < m then (a+b) / 2+m - b else a
def smHi (a m b : Nat) : Nat:=if (a+b) / 2 < m then (a+b) / 2 else m
def smAt (d : Array α) (a m b : Nat) : Nat:=bsA (sp3 lt d ((a+b) / 2+m - 1)) (smHi a m b - smLo a m b) (smLo a m b) (smHi a m b)
def symA : Nat→Nat→Nat→Nat→Array α→Array α
 | 0,_,_,_,d=>d
 | f+1,a,m,b,d =>
   if m - a=1 then shUA a (bsA (sp1 lt d a) (b - m) m b - 1 - a) d
   else if b - m=1 then shDA m (m - bsA (sp2 lt d m) (m - a) a m) d
   else
    let mid:=(a+b) / 2
    let st:=smAt lt d a m b
    let en:=mid+m - st
    let d1:=if st < m∧m < en then rotA m (en - st) (m - st) (en - m) d else d
    let d2:=if a < st∧st < mid then symA f a st mid d1 else d1
    if mid < en∧en < b then symA f mid en b d2 else d2
theorem size_symA : ∀ (f a m b : Nat) (d : Array α),(symA lt f a m b d).size=d.size
 | 0,_,_,_,_=>rfl
 | f+1,a,m,b,d=>by
   rw [symA]
   split
   ·exact size_shUA _ _ _
   ·split
    ·exact size_shDA _ _ _
    ·dsimp only
     repeat' split
     all_goals simp only [size_symA f,size_rotA]
def insS (a b : Nat) : Nat→Nat→Array α→Array α
 | 0,_,d=>d
 | f+1,i,d=>if i < b then insS a b f (i+1) (insInner lt a i d) else d
theorem insS_eq (a b : Nat) : ∀ (f i : Nat) (d : Array α),b - i≤f→insOuter lt a b i d=insS lt a b f i d
 | 0,i,d,h=>by rw [insOuter,if_neg (by omega),insS]
 | f+1,i,d,h=>by
   rw [insOuter,insS]
   split
   ·exact insS_eq a b f (i+1) _ (by omega)
   ·rfl
end
def stbA (lt : α→α→Bool) (d : Array α) : Array α :=
 if d.size < 20 then insertionSort lt d 0 d.size else symA lt d.size 0 20 d.size (insertionSort lt (insertionSort lt d 0 20) 20 d.size)
def stbS (lt : α→α→Bool) (d : Array α) : Array α :=
 if d.size < 20 then insS lt 0 d.size d.size 1 d else symA lt d.size 0 20 d.size (insS lt 20 d.size d.size 21 (insS lt 0 20 20 1 d))
end
section
open Go.RowKit Go.Shelf Go.Sort Go.Lib
def atd (w : World) (n : Nat) : World:={ w with drawn:=n }
theorem wp_region_quiet_z {P : Program} {id : Nat} {Q : Exit→Act→World→Prop} {a : Act} {w : World} {l : List Oper} (hm : P.follows .mixedOrders=true) (hB : Region.lexB .any l.toArray=true)
 (h : wpQuiet P l.toArray (fun w'=> ∃ p : GrownBy,w'=grow (atd w p.n) p.os) (fun a'=> ∀ w',(∃ p : GrownBy,w'=grow (atd w p.n) p.os)→Q .normal a' w') l a) : (Code.region id l.toArray true).wp P Q a w :=
 wp_region_quiet (C:=fun w'=> ∃ p : GrownBy,w'=grow (atd w p.n) p.os) hm hB ⟨⟨w.drawn+1,#[]⟩,by rw [grow_empty];rfl⟩ (by simpa using h)
theorem grow_atd (w : World) (n q : Nat) (os os' : Array Obj) : grow (atd (grow (atd w n) os) q) os'=grow (atd w q) (os ++ os'):=by
 show grow (grow (atd w q) os) os'=_
 rw [grow_grow]
theorem grown_z {P : Program} {f : FuncId} {args : Array Value} {w : World} {n : Nat} {os : Array Obj} {v : Value}
 (h : Calls P f args (grow (atd w n) os) fun e w'=>e=.returned v ∧ ∃ q os',w'=grow (atd (grow (atd w n) os) q) os') : Calls P f args (grow (atd w n) os) fun e w''=>e=.returned v ∧ ∃ p : GrownBy,w''=grow (atd w p.n) p.os :=
 h.mono fun _ _ ⟨he,q,os',hq⟩=>⟨he,⟨q,os ++ os'⟩,by rw [hq,grow_atd]⟩
theorem below_grow {W w' : World} (h : Below W.heap.size W w') : ∃ q os',w'=grow (atd W q) os':=by
 refine ⟨w'.drawn,w'.heap.extract W.heap.size w'.heap.size,?_⟩
 have hh : w'.heap=W.heap ++ w'.heap.extract W.heap.size w'.heap.size:=by
  apply Array.ext_getElem?
  intro i
  by_cases hi : i < W.heap.size
  ·rw [Array.getElem?_append_left hi];exact h.block i hi
  ·rw [Array.getElem?_append_right (by omega),Array.getElem?_extract]
   by_cases h2 : i < w'.heap.size
   ·rw [if_pos (by omega)];congr 1;omega
   ·rw [if_neg (by omega),Array.getElem?_eq_none (by omega)]
 have h1:=h.os
 have h2:=h.tape
 have h3:=h.output
 obtain ⟨a1,a2,a3,a4,a5⟩:=w'
 obtain ⟨b1,b2,b3,b4,b5⟩:=W
 dsimp only at h1 h2 h3 hh ⊢
 unfold grow atd
 dsimp only
 rw [← hh,h1,h2,h3]
variable {P : Program} {α : Type} [Inhabited α] {enc : α→Value} {w0 W : World} {blk off : Nat} {dk d0 : Array α}
def SZ (enc : α→Value) (w0 : World) (blk off : Nat) (dk : Array α) (W : World) : Prop:=∃ n,SW enc w0 blk off dk (atd W n)
theorem SZ.start (h : Holds enc w0 blk off dk) : SZ enc w0 blk off dk w0:=⟨w0.drawn,SW.start h⟩
theorem SZ.c1 (h : SZ enc w0 blk off dk W) (R : Row1 enc w0 blk off d0) (hs : dk.size=d0.size) (i : Nat) (hi : i < dk.size) : W.cell? ⟨blk,off+i,none⟩=some (enc dk[i]!):=by
 obtain ⟨n,h⟩:=h
 exact h.c1 R hs i hi
theorem SZ.f1 (h : SZ enc w0 blk off dk W) (R : Row1 enc w0 blk off d0) (hs : dk.size=d0.size) (i : Nat) (hi : i < dk.size) : W.frozen? ⟨blk,off+i,none⟩=false:=by
 obtain ⟨n,h⟩:=h
 exact h.f1 R hs i hi
theorem SZ.grown (h : SZ enc w0 blk off dk W) (n : Nat) (os : Array Obj) : SZ enc w0 blk off dk (grow (atd W n) os):=by
 obtain ⟨m,h⟩:=h
 exact ⟨m,h.grown 0 os⟩
theorem SZ.cl (h : SZ enc w0 blk off dk W) (R : Row1 enc w0 blk off d0) (hs : dk.size=d0.size) (i : Nat) (hi : i < dk.size) (n : Nat) (os : Array Obj) : (grow (atd W n) os).cell? ⟨blk,off+i,none⟩=some (enc dk[i]!):=(h.grown n os).c1 R hs i hi
theorem SZ.drew (h : SZ enc w0 blk off dk W) : SZ enc w0 blk off dk W.drew:=by
 obtain ⟨m,h⟩:=h
 exact ⟨m,h⟩
theorem SZ.c2 (h : SZ enc w0 blk off dk W) (R : Row1 enc w0 blk off d0) (hs : dk.size=d0.size) (i j : Nat) (hi : i < dk.size) (hj : j < dk.size) (v : Value) :
 ∃ u,(W.setCell ⟨blk,off+i,none⟩ v).cell? ⟨blk,off+j,none⟩=some u:=by
 obtain ⟨m,h⟩:=h
 exact h.c2 R hs i j hi hj v
theorem SZ.swapped (h : SZ enc w0 blk off dk W) (R : Row1 enc w0 blk off d0) (i j : Nat) (hi : i < dk.size) (hj : j < dk.size) :
 SZ enc w0 blk off (swp dk i j) ((W.setCell ⟨blk,off+i,none⟩ (enc dk[j]!)).setCell ⟨blk,off+j,none⟩ (enc dk[i]!)).drew:=by
 obtain ⟨m,h⟩:=h
 exact ⟨m,h.swap R.hblk i j hi hj⟩
def CmpZ (P : Program) (g : Nat) (cb : Array Value) (enc : α→Value) (cf : α→α→Int) (blk off size : Nat) (w0 : World) : Prop :=
 ∀ (W : World) (dk : Array α),SZ enc w0 blk off dk W→dk.size=size → ∀ x y : α,
   Calls P g (#[enc x,enc y] ++ cb) W fun e w'=>e=.returned (.int .i64 (cf x y))∧Below W.heap.size W w'
theorem SZ.cmp {g : Nat} {cb : Array Value} {cf : α→α→Int} {size : Nat} (h : SZ enc w0 blk off dk W) (hC : CmpZ P g cb enc cf blk off size w0) (hs : dk.size=size) (x y : α) (n : Nat) (os : Array Obj) :
 Calls P g (#[enc x,enc y] ++ cb) (grow (atd W n) os) fun e w'=>e=.returned (.int .i64 (cf x y)) ∧ ∃ q os',w'=grow (atd (grow (atd W n) os) q) os' :=
 (hC _ dk (h.grown n os) hs x y).mono fun _ _ ⟨he,hb⟩=>⟨he,below_grow hb⟩
variable {α : Type} [Inhabited α]
theorem swInj {a b : Int} (h : a=b) : Value.int .i64 a=.int .i64 b:=by rw [h]
theorem swapRange_any (enc : α→Value) (fv : Value) (blk off cap a b n : Nat) (d0 d : Array α) (w0 w : World) (R : Row1 enc w0 blk off d0) (hs : d0.size=d.size) (S : SZ enc w0 blk off d w) (ha : a+n≤d.size) (hb : b+n≤d.size) (hsz : d.size < 4611686018427387904) :
 Calls Tryz.prog 181 #[.slice (some ⟨blk,off,none⟩) d.size cap,.int .i64 (a : Int),.int .i64 (b : Int),.int .i64 (n : Int),fv] w fun e w'=>e=.returned (.tuple #[])∧SZ enc w0 blk off (swR a b n d) w':=by
 have hcl0:=R.hO.cells
 simp only [Value.cells] at hcl0
 have hst:=R.hO.store Tryz.prog
 have mixed:=Tryz.insI.mixed
 have S0 : Aside (SZ enc w0 blk off d w):=S
 clear S
 go_enter Tryz.func181,Tryz.ntmps181
 go_wp2
 go_loopg [10] n (fun g1 vi wr=> ∃ (i : Nat) (dk : Array α),vi=.int .i64 i∧i≤n∧n - i≤g1∧dk.size=d.size∧Aside (SZ enc w0 blk off dk wr)∧Hid (dk=swR a b i d))
 case atStart=>exact ⟨0,d,by go_num,by omega,by omega,rfl,S0,rfl⟩
 case round =>
  clear S0
  obtain ⟨i,dk,rfl,hin,hg1,hsk,S1,HD⟩:=hrel
  by_cases hlt : i < n
  ·have hltz : (i : Int) < (n : Int):=by omega
   obtain ⟨iN1,hiN1⟩ : ∃ zz,zz=a+i:=⟨_,rfl⟩
   obtain ⟨jN1,hjN1⟩ : ∃ zz,zz=b+i:=⟨_,rfl⟩
   have eaN1 : ((a : Int)+(i : Int)).toNat=iN1:=by omega
   have paN1 : (0 : Int)≤(a : Int)+(i : Int):=by omega
   have baN1 : (a : Int)+(i : Int) < (d.size : Int):=by omega
   have raN1 : IntKind.i64.wrap ((a : Int)+(i : Int))=(a : Int)+(i : Int):=by rw [IntKind.wrap_i64];omega
   have ecN1 : ((b : Int)+(i : Int)).toNat=jN1:=by omega
   have pcN1 : (0 : Int)≤(b : Int)+(i : Int):=by omega
   have bcN1 : (b : Int)+(i : Int) < (d.size : Int):=by omega
   have rcN1 : IntKind.i64.wrap ((b : Int)+(i : Int))=(b : Int)+(i : Int):=by rw [IntKind.wrap_i64];omega
   obtain ⟨xN1,hxN1⟩ : ∃ x,x=dk[a+i]!:=⟨_,rfl⟩
   obtain ⟨yN1,hyN1⟩ : ∃ x,x=dk[b+i]!:=⟨_,rfl⟩
   have S2 : Aside (SZ enc w0 blk off (swp dk (a+i) (b+i)) ((wr.setCell ⟨blk,off+iN1,none⟩ (enc yN1)).setCell ⟨blk,off+jN1,none⟩ (enc xN1)).drew):=by rw [hiN1,hjN1,hxN1,hyN1];exact S1.out.swapped R (a+i) (b+i) (by omega) (by omega)
   have cN1a:=S1.out.c1 R (by omega) (a+i) (by omega)
   have cN1b:=S1.out.c1 R (by omega) (b+i) (by omega)
   have fN1a:=S1.out.f1 R (by omega) (a+i) (by omega)
   have fN1b:=S1.out.f1 R (by omega) (b+i) (by omega)
   obtain ⟨uN1,cN1c⟩:=S1.out.c2 R (by omega) (a+i) (b+i) (by omega) (by omega) (enc yN1)
   rw [← hjN1,← hiN1] at cN1c
   rw [← hxN1,← hiN1] at cN1a
   rw [← hyN1,← hjN1] at cN1b
   rw [← hiN1] at fN1a
   rw [← hjN1] at fN1b
   clear S1 hxN1 hyN1 hiN1 hjN1
   go_wp2_with fail
   go_big_region_o
   clear cN1a cN1b cN1c fN1a fN1b
   generalize ((wr.setCell ⟨blk,off+iN1,none⟩ (enc yN1)).setCell ⟨blk,off+jN1,none⟩ (enc xN1)).drew=w2 at S2 ⊢
   clear eaN1 ecN1 paN1 baN1 raN1 pcN1 bcN1 rcN1
   go_wp2
   go_roundg (n - (i+1))
   case measure=>omega
   case rel=>exact ⟨i+1,swp dk (a+i) (b+i),by first | rfl | go_num | (congr 1;omega),by omega,Nat.le_refl _,by rw [size_swp];exact hsk,S2,(show Hid _ from by rw [HD.out];exact rfl)⟩
  ·have hltz : ¬ (i : Int) < (n : Int):=by omega
   go_wp2
   go_end0
   have hin2 : i=n:=by omega
   refine ⟨rfl,?_⟩
   have:=S1.out
   rw [HD.out,hin2] at this
   exact this
theorem rotate_any (enc : α→Value) (fv : Value) (blk off cap a m b : Nat) (d0 d : Array α) (w0 w : World) (R : Row1 enc w0 blk off d0) (hs : d0.size=d.size) (S : SZ enc w0 blk off d w) (ham : a < m) (hmb : m < b) (hb : b≤d.size) (hsz : d.size < 4611686018427387904) :
 Calls Tryz.prog 175 #[.slice (some ⟨blk,off,none⟩) d.size cap,.int .i64 (a : Int),.int .i64 (m : Int),.int .i64 (b : Int),fv] w fun e w'=>e=.returned (.tuple #[])∧SZ enc w0 blk off (rotA m (b - a) (m - a) (b - m) d) w':=by
 obtain ⟨K,hK⟩ : ∃ K,K=rotA m (b - a) (m - a) (b - m) d:=⟨_,rfl⟩
 rw [← hK]
 have HK:=Lib.hid hK
 clear hK
 have S0 : Aside (SZ enc w0 blk off d w):=S
 clear S
 have hw1 : IntKind.i64.wrap ((m : Int) - (a : Int))=((m - a : Nat) : Int):=by rw [IntKind.wrap_i64];omega
 have hw2 : IntKind.i64.wrap ((b : Int) - (m : Int))=((b - m : Nat) : Int):=by rw [IntKind.wrap_i64];omega
 have hz1 : (m : Int) - (a : Int)=((m - a : Nat) : Int):=by omega
 have hz2 : (b : Int) - (m : Int)=((b - m : Nat) : Int):=by omega
 have Hz1:=Lib.hid hz1
 have Hz2:=Lib.hid hz2
 clear hz1 hz2 hw1 hw2
 go_enter Tryz.func175,Tryz.ntmps175
 go_wp2
 go_loopg [10,11] (b - a) (fun g1 vi vj wr=> ∃ (i j : Nat) (dk : Array α),vi=.int .i64 i∧vj=.int .i64 j∧1≤i∧1≤j∧i≤m - a∧j≤b - m∧i+j≤g1∧dk.size=d.size∧Aside (SZ enc w0 blk off dk wr)∧Hid (rotA m g1 i j dk=K))
 case atStart=>exact ⟨m - a,b - m,d,by first | exact swInj Hz1.out | go_num,by first | exact swInj Hz2.out | go_num,by omega,by omega,Nat.le_refl _,Nat.le_refl _,by omega,rfl,S0,HK.out.symm⟩
 case round =>
  clear S0
  obtain ⟨i,j,dk,rfl,rfl,hi1,hj1,him,hjb,hg1,hsk,S1,HD⟩:=hrel
  have hmi : (m : Int) - (i : Int)=((m - i : Nat) : Int):=by omega
  have Hmi:=Lib.hid hmi
  clear hmi
  have Hsk:=Lib.hid hsk
  obtain ⟨gg,hgg⟩ : ∃ gg,gk=gg+1:=⟨gk - 1,by omega⟩
  by_cases hij : i=j
  ·have e0 : ((i : Int) != (j : Int))=false:=by simp [hij]
   have Hij:=Lib.hid hij
   clear hij hsk
   go_wp2_with fail
   rw [Hmi.out,← Hsk.out]
   refine (swapRange_any enc fv blk off cap (m - i) m i d0 dk w0 _ R (by rw [Hsk.out];exact hs) S1.out (by have:=Hsk.out;omega) (by have:=Hsk.out;have:=Hij.out;omega) (by rw [Hsk.out];exact hsz)).mono ?_
   rintro e w2 ⟨rfl,hS2⟩
   go_wp2_with fail
   go_end0
   refine ⟨rfl,?_⟩
   have:=HD.out
   rw [hgg,rotA,if_pos Hij.out] at this
   rw [← this]
   exact hS2
  ·have e0 : ((i : Int) != (j : Int))=true:=by simp;omega
   by_cases hji : j < i
   ·have hjiz : (j : Int) < (i : Int):=by omega
    have Hij:=Lib.hid hij
    clear hij hsk
    go_wp2_with fail
    rw [Hmi.out,← Hsk.out]
    refine (swapRange_any enc fv blk off cap (m - i) m j d0 dk w0 _ R (by rw [Hsk.out];exact hs) S1.out (by have:=Hsk.out;omega) (by have:=Hsk.out;omega) (by rw [Hsk.out];exact hsz)).mono ?_
    rintro e w2 ⟨rfl,hS2⟩
    have S3 : Aside (SZ enc w0 blk off (swR (m - i) m j dk) w2):=hS2
    clear hS2 S1
    rw [Hsk.out]
    go_wp2_with fail
    go_roundg gg
    case measure=>omega
    case rel=>exact ⟨i - j,j,_,by first | go_num | exact swInj (by omega),rfl,by omega,hj1,by omega,hjb,by omega,by rw [size_swR];exact Hsk.out,S3,(show Hid _ from by
     have:=HD.out
     rw [hgg,rotA,if_neg Hij.out,if_pos hji] at this
     exact this)⟩
   ·have hjiz : ¬ (j : Int) < (i : Int):=by omega
    have hmj : (m : Int)+(j : Int) - (i : Int)=((m+j - i : Nat) : Int):=by omega
    have Hmj:=Lib.hid hmj
    have Hij:=Lib.hid hij
    clear hij hsk hmj
    go_wp2_with fail
    rw [Hmi.out,Hmj.out,← Hsk.out]
    refine (swapRange_any enc fv blk off cap (m - i) (m+j - i) i d0 dk w0 _ R (by rw [Hsk.out];exact hs) S1.out (by have:=Hsk.out;omega) (by have:=Hsk.out;omega) (by rw [Hsk.out];exact hsz)).mono ?_
    rintro e w2 ⟨rfl,hS2⟩
    have S3 : Aside (SZ enc w0 blk off (swR (m - i) (m+j - i) i dk) w2):=hS2
    clear hS2 S1
    rw [Hsk.out]
    go_wp2_with fail
    go_roundg gg
    case measure=>omega
    case rel=>exact ⟨i,j - i,_,rfl,by first | go_num | exact swInj (by have:=Hij.out;omega),hi1,by have:=Hij.out;omega,him,by omega,by omega,by rw [size_swR];exact Hsk.out,S3,(show Hid _ from by
     have:=HD.out
     rw [hgg,rotA,if_neg Hij.out,if_neg hji] at this
     exact this)⟩
theorem insertion_any (enc : α→Value) (cf : α→α→Int) (g : Nat) (cb : Array Value) (blk off cap a b : Nat) (d0 d : Array α) (w0 w : World)
 (eg : ∀ args w,(callFunc g args).run Tryz.prog w=.ok (.enter g args) w) (hcmp : CmpZ Tryz.prog g cb enc cf blk off d0.size w0) (R : Row1 enc w0 blk off d0) (hs : d0.size=d.size) (S : SZ enc w0 blk off d w) (hab : a≤b) (hb : b≤d.size) (hsz : d.size < 4611686018427387904) :
 Calls Tryz.prog 155 #[.slice (some ⟨blk,off,none⟩) d.size cap,.int .i64 (a : Int),.int .i64 (b : Int),.func (.func g) #[] cb] w fun e w'=>e=.returned (.tuple #[])∧SZ enc w0 blk off (Sort.insertionSort (ltOf cf) d a b) w':=by
 have hcl0:=R.hO.cells
 simp only [Value.cells] at hcl0
 have hst:=R.hO.store Tryz.prog
 have mixed:=Tryz.insI.mixed
 have HC : Aside _:=hcmp
 have S0 : Aside (SZ enc w0 blk off d w):=S
 clear S
 clear hcmp
 go_enter Tryz.func155,Tryz.ntmps155
 go_wp2
 go_loopg [8] (b - a) (fun g1 vi wr=> ∃ (i : Nat) (dk : Array α),vi=.int .i64 i∧a < i∧i≤b+1∧b+1 - i≤g1+1∧dk.size=d.size∧Aside (SZ enc w0 blk off dk wr)∧Hid (insOuter (ltOf cf) a b i dk=insOuter (ltOf cf) a b (a+1) d))
 case atStart=>exact ⟨a+1,d,by go_num,by omega,by omega,by omega,rfl,S0,rfl⟩
 case round =>
  clear S0
  obtain ⟨i,dk,rfl,hai,hib,hg1,hsk,S1,HO⟩:=hrel
  by_cases hlt : i < b
  ·have hltz : (i : Int) < (b : Int):=by omega
   go_wp2
   go_loopg [9] i (fun g2 vj wr2=> ∃ (j : Nat) (dj : Array α),vj=.int .i64 j∧a≤j∧j≤i∧j≤g2∧dj.size=d.size∧Aside (SZ enc w0 blk off dj wr2)∧Hid (insInner (ltOf cf) a j dj=insInner (ltOf cf) a i dk))
   case atStart=>exact ⟨i,dk,rfl,by omega,Nat.le_refl _,Nat.le_refl _,hsk,S1,rfl⟩
   case round =>
    clear S1
    obtain ⟨j,dj,rfl,haj,hji,hg2,hsj,SJ,HI⟩:=hrel
    have out : (j≤a ∨ (ltOf cf) dj[j]! dj[j - 1]! = false)→Hid (insOuter (ltOf cf) a b (i+1) dj=insOuter (ltOf cf) a b (a+1) d):=fun hs=>by
     show _=_
     rw [← HO.out,insOuter_go _ _ _ _ _ hlt,← HI.out,insInner_stop _ _ _ _ hs]
    have OUT : Aside _:=out
    clear out
    by_cases hja : a < j
    ·have hjaz : (a : Int) < (j : Int):=by omega
     obtain ⟨jp,hjp⟩ : ∃ q,q+1=j:=⟨j - 1,by omega⟩
     have zjp : (j : Int)=(jp : Int)+1:=by omega
     have hjad : decide ((jp : Int)+1 > (a : Int))=true:=decide_eq_true (by omega)
     have hjaz' : (a : Int) < (jp : Int)+1:=by omega
     cases hlv : (ltOf cf) dj[j]! dj[j - 1]! with
     | true =>
       obtain ⟨iN2,hiN2⟩ : ∃ zz,zz=j:=⟨_,rfl⟩
       obtain ⟨jN2,hjN2⟩ : ∃ zz,zz=j - 1:=⟨_,rfl⟩
       have eaN2 : ((jp : Int)+1).toNat=iN2:=by omega
       have paN2 : (0 : Int)≤(jp : Int)+1:=by omega
       have baN2 : (jp : Int)+1 < (d.size : Int):=by omega
       have raN2 : IntKind.i64.wrap ((jp : Int)+1)=(jp : Int)+1:=by rw [IntKind.wrap_i64];omega
       have ecN2 : ((jp : Int)).toNat=jN2:=by omega
       have pcN2 : (0 : Int)≤(jp : Int):=by omega
       have bcN2 : (jp : Int) < (d.size : Int):=by omega
       have rcN2 : IntKind.i64.wrap ((jp : Int))=(jp : Int):=by rw [IntKind.wrap_i64];omega
       obtain ⟨xN2,hxN2⟩ : ∃ x,x=dj[j]!:=⟨_,rfl⟩
       obtain ⟨yN2,hyN2⟩ : ∃ x,x=dj[j - 1]!:=⟨_,rfl⟩
       have lN2a:=SJ.out.cl R (by omega) (j) (by omega)
       have lN2b:=SJ.out.cl R (by omega) (j - 1) (by omega)
       rw [← hxN2,← hiN2] at lN2a
       rw [← hyN2,← hjN2] at lN2b
       have hcN2:=SJ.out.cmp HC.out (by omega) xN2 yN2
       have hvN2 : cf xN2 yN2 < 0:=by rw [hxN2,hyN2];exact of_decide_eq_true hlv
       have hdN2 : decide (cf xN2 yN2 < 0)=true:=decide_eq_true hvN2
       clear hxN2 hyN2 hiN2 hjN2
       go_wp2_with fail
       refine wp_region_quiet_z (by assumption) (by kernel_rfl) ?_
       repeat (quiet_step (first | (go_at_fn g;refine grown_z (hcN2 _ _))))
       refine wpQuiet_nil ?_
       intro _ hw'
       obtain ⟨⟨nq,osq⟩,hw''⟩:=hw'
       subst hw''
       have S2 : Aside (SZ enc w0 blk off dj (grow (atd wr nq) osq)):=SJ.out.grown nq osq
       clear lN2a lN2b hcN2 SJ
       generalize grow (atd wr nq) osq=w2 at S2 ⊢
       clear nq osq
       clear eaN2 ecN2 paN2 baN2 raN2 pcN2 bcN2 rcN2
       go_wp2_with fail
       obtain ⟨iN3,hiN3⟩ : ∃ zz,zz=j:=⟨_,rfl⟩
       obtain ⟨jN3,hjN3⟩ : ∃ zz,zz=j - 1:=⟨_,rfl⟩
       have eaN3 : ((jp : Int)+1).toNat=iN3:=by omega
       have paN3 : (0 : Int)≤(jp : Int)+1:=by omega
       have baN3 : (jp : Int)+1 < (d.size : Int):=by omega
       have raN3 : IntKind.i64.wrap ((jp : Int)+1)=(jp : Int)+1:=by rw [IntKind.wrap_i64];omega
       have ecN3 : ((jp : Int)).toNat=jN3:=by omega
       have pcN3 : (0 : Int)≤(jp : Int):=by omega
       have bcN3 : (jp : Int) < (d.size : Int):=by omega
       have rcN3 : IntKind.i64.wrap ((jp : Int))=(jp : Int):=by rw [IntKind.wrap_i64];omega
       obtain ⟨xN3,hxN3⟩ : ∃ x,x=dj[j]!:=⟨_,rfl⟩
       obtain ⟨yN3,hyN3⟩ : ∃ x,x=dj[j - 1]!:=⟨_,rfl⟩
       have S3 : Aside (SZ enc w0 blk off (swp dj (j) (j - 1)) ((w2.setCell ⟨blk,off+iN3,none⟩ (enc yN3)).setCell ⟨blk,off+jN3,none⟩ (enc xN3)).drew):=by rw [hiN3,hjN3,hxN3,hyN3];exact S2.out.swapped R (j) (j - 1) (by omega) (by omega)
       have cN3a:=S2.out.c1 R (by omega) (j) (by omega)
       have cN3b:=S2.out.c1 R (by omega) (j - 1) (by omega)
       have fN3a:=S2.out.f1 R (by omega) (j) (by omega)
       have fN3b:=S2.out.f1 R (by omega) (j - 1) (by omega)
       obtain ⟨uN3,cN3c⟩:=S2.out.c2 R (by omega) (j) (j - 1) (by omega) (by omega) (enc yN3)
       rw [← hjN3,← hiN3] at cN3c
       rw [← hxN3,← hiN3] at cN3a
       rw [← hyN3,← hjN3] at cN3b
       rw [← hiN3] at fN3a
       rw [← hjN3] at fN3b
       clear S2 hxN3 hyN3 hiN3 hjN3
       go_wp2_with fail
       go_big_region_o
       clear cN3a cN3b cN3c fN3a fN3b
       generalize ((w2.setCell ⟨blk,off+iN3,none⟩ (enc yN3)).setCell ⟨blk,off+jN3,none⟩ (enc xN3)).drew=w3 at S3 ⊢
       clear eaN3 ecN3 paN3 baN3 raN3 pcN3 bcN3 rcN3
       go_wp2
       go_roundg (j - 1)
       case measure=>omega
       case rel=>exact ⟨j - 1,swp dj j (j - 1),by first | rfl | go_num | (congr 1;omega),by omega,by omega,Nat.le_refl _,by rw [size_swp];exact hsj,S3,(show Hid _ from by rw [← HI.out,insInner_go (ltOf cf) a j dj hja hlv];exact rfl)⟩
     | false =>
       obtain ⟨iN4,hiN4⟩ : ∃ zz,zz=j:=⟨_,rfl⟩
       obtain ⟨jN4,hjN4⟩ : ∃ zz,zz=j - 1:=⟨_,rfl⟩
       have eaN4 : ((jp : Int)+1).toNat=iN4:=by omega
       have paN4 : (0 : Int)≤(jp : Int)+1:=by omega
       have baN4 : (jp : Int)+1 < (d.size : Int):=by omega
       have raN4 : IntKind.i64.wrap ((jp : Int)+1)=(jp : Int)+1:=by rw [IntKind.wrap_i64];omega
       have ecN4 : ((jp : Int)).toNat=jN4:=by omega
       have pcN4 : (0 : Int)≤(jp : Int):=by omega
       have bcN4 : (jp : Int) < (d.size : Int):=by omega
       have rcN4 : IntKind.i64.wrap ((jp : Int))=(jp : Int):=by rw [IntKind.wrap_i64];omega
       obtain ⟨xN4,hxN4⟩ : ∃ x,x=dj[j]!:=⟨_,rfl⟩
       obtain ⟨yN4,hyN4⟩ : ∃ x,x=dj[j - 1]!:=⟨_,rfl⟩
       have lN4a:=SJ.out.cl R (by omega) (j) (by omega)
       have lN4b:=SJ.out.cl R (by omega) (j - 1) (by omega)
       rw [← hxN4,← hiN4] at lN4a
       rw [← hyN4,← hjN4] at lN4b
       have hcN4:=SJ.out.cmp HC.out (by omega) xN4 yN4
       have hvN4 : ¬ cf xN4 yN4 < 0:=by rw [hxN4,hyN4];exact of_decide_eq_false hlv
       have hdN4 : decide (cf xN4 yN4 < 0)=false:=decide_eq_false hvN4
       clear hxN4 hyN4 hiN4 hjN4
       go_wp2_with fail
       refine wp_region_quiet_z (by assumption) (by kernel_rfl) ?_
       repeat (quiet_step (first | (go_at_fn g;refine grown_z (hcN4 _ _))))
       refine wpQuiet_nil ?_
       intro _ hw'
       obtain ⟨⟨nq,osq⟩,hw''⟩:=hw'
       subst hw''
       have S2 : Aside (SZ enc w0 blk off dj (grow (atd wr nq) osq)):=SJ.out.grown nq osq
       clear lN4a lN4b hcN4 SJ
       generalize grow (atd wr nq) osq=w2 at S2 ⊢
       clear nq osq
       clear eaN4 ecN4 paN4 baN4 raN4 pcN4 bcN4 rcN4
       go_wp2_with fail
       go_roundg (b - (i+1))
       case measure=>omega
       case rel=>exact ⟨i+1,dj,by go_num,by omega,by omega,by omega,hsj,S2,OUT.out (Or.inr hlv)⟩
    ·have hjaz : decide ((j : Int) > (a : Int))=false:=decide_eq_false (by omega)
     have hjaz' : ¬ (a : Int) < (j : Int):=by omega
     go_wp2_with fail
     go_big_region_o
     have S2 : Aside (SZ enc w0 blk off dj wr.drew):=SJ.out.drew
     clear SJ
     generalize wr.drew=w2 at S2 ⊢
     go_wp2
     go_roundg (b - (i+1))
     case measure=>omega
     case rel=>exact ⟨i+1,dj,by go_num,by omega,by omega,by omega,hsj,S2,OUT.out (Or.inl (by omega))⟩
  ·have hltz : ¬ (i : Int) < (b : Int):=by omega
   go_wp2
   go_end0
   exact ⟨rfl,by unfold Sort.insertionSort;rw [← HO.out,insOuter_stop _ _ _ _ _ hlt];exact S1.out⟩
end
end Go.Proofs.YtijadclebjcckaaGreat
