/-
  A part of the proof of FnTop (texts of one proof, joined).
-/
import Derived.Test.YtijadclebjcckaaGreatJ26
namespace Go.Proofs.YtijadclebjcckaaGreat
set_option linter.all false
set_option maxRecDepth 100000
set_option maxHeartbeats 16000000
section
open Go.RowKit
theorem esOk_yes {xs zs ys : List Int} {k n : Nat} (hx : bxOk xs k n=true) (hz : bxOk zs k n=true) (hkn : k≤n) (h1 : 1≤n) (h4 : n≤4) (hl : ys.length=n) (hd : ys.Nodup) (h9 : ∀ y ∈ ys,-9≤y∧y≤9) : esOk xs zs (k : Int) (n : Int) ys=true:=by
 have hb : ∀ s,bxOk s k n=true→boxOk s (k : Int) (n : Int)=true:=fun s hs=>by
  unfold boxOk
  rw [Bool.and_eq_true,decide_eq_true_eq,Int.toNat_natCast,Int.toNat_natCast]
  exact ⟨by omega,hs⟩
 unfold esOk
 rw [hb xs hx,hb zs hz,Bool.true_and,Bool.true_and]
 simp only [apOk,nmOk,shiftB,Bool.and_eq_true,decide_eq_true_eq]
 grind
theorem keepL {B : Nat} {w w' : World} {a : Addr} {v : Value} (hb : Below B w w') (hlt : a.block < B) (h : w.cell? a=some v) : w'.cell? a=some v:=by
 rw [← h]
 unfold World.cell?
 rw [hb.block a.block hlt]
theorem own0 (B N : Nat) : ∀ b,(Value.slice (some ⟨B,0,none⟩) 0 0).ownBlock=some b→(B≤b∧b < B+1) ∨ N≤b:=fun b h=>by
 have : B=b:=by injection h
 omega
theorem lawFnTop (p : Option Addr) (l cap : Nat) (w : World) (hl : l≤maxLen) (h : Byts w (.slice p l cap) l) :
 Calls Tryz.prog 3 #[.slice p l cap] w fun e w'=>e=.returned (.bool true)∧Below w.heap.size w w':=by
 have Hl:=Lib.hid hl
 have Hh:=Lib.hid h
 clear hl h
 go_enter Tryz.func3,Tryz.ntmps3
 go_wp2_with fail
 refine (big_any p l cap _ Hl.out).mono ?_
 rintro e w' ⟨rfl,rfl⟩
 by_cases hb : 1048576 < l
 ·have e1 : decide (1048576 < l)=true:=by simp [hb]
  rw [e1]
  go_wp2_with fail
  go_ret
  exact ⟨rfl,Below.refl _ _⟩
 ·have e1 : decide (1048576 < l)=false:=by simp [hb]
  rw [e1]
  clear e1 hb
  go_wp2_with fail
  refine (DrawWeights_any _ l _ Hh.out).mono ?_
  rintro e w1 ⟨u1,u2,u3,xs,zs,ys,k,n,rfl,hx,hz,hy,hbx,hbz,hyl,hyd,hy9,hn2,hn4,hkn,hb1⟩
  have h1 : 1≤n:=by omega
  have hok:=esOk_yes hbx hbz hkn h1 hn4 hyl hyd hy9
  have mx:=bx_mem hbx hkn
  have mz:=bx_mem hbz hkn
  have hYOk : YOk n ys:=by
   unfold esOk at hok
   rw [Bool.and_eq_true] at hok
   exact yOk hok.2
  have HEs:=Lib.hid (es_wt hYOk hkn hbx hbz hok)
  have S:=shpIs h1 hn4 hkn
  have HS:=Lib.hid S
  obtain ⟨ci,hci,eci⟩:=pm_mem h1 hn4 (S.p5 xs mx)
  obtain ⟨cj,hcj,ecj⟩:=pm_mem h1 hn4 (S.p5 zs mz)
  have T:=topQ h1 hn4 hkn mx mz hci hcj eci ecj
  have HT:=Lib.hid T
  obtain ⟨sx,ex⟩:=gs_at h1 hn4 hkn mx
  obtain ⟨sz,ez⟩:=gs_at h1 hn4 hkn mz
  have HGr:=Lib.hid (GrProduct_any u1 u2 xs zs k n w1 hx hz hbx hbz hkn h1 (by omega) T.fs)
  have HS1:=Lib.hid (fun u (hu : Below w1.heap.size w1 u)=>StringOfShape0_any u1 xs k n u (hx.below hu) hbx hkn h1 (by omega))
  have HS2:=Lib.hid (fun u (hu : Below w1.heap.size w1 u)=>StringOfShape0_any u2 zs k n u (hz.below hu) hbz hkn h1 (by omega))
  have HPu:=Lib.hid (show ∀ va vb u,Ints u va (gsL xs k n)→Ints u vb (gsL zs k n)→Calls Tryz.prog 7 #[va,vb] u fun e w'=> ∃ v,e=.returned (.tuple #[v,.bool true])∧RdCl w' v (filL xs zs k ((n - k : Nat) : Int))∧Below u.heap.size u w' from fun va vb u ha hb=>T.fin ▸ PuzzleProduct_any va vb _ _ n u h1 hn4 ha hb sx sz (gsL_length _ _ _) (gsL_length _ _ _) (by rw [ex,ez]) T.pz T.pu)
  have HG1:=Lib.hid (fun u (hu : Below w1.heap.size w1 u)=>GrassmannianPerm_any u1 xs k n u (hx.below hu) hbx hkn h1 (by omega))
  have HG2:=Lib.hid (fun u (hu : Below w1.heap.size w1 u)=>GrassmannianPerm_any u2 zs k n u (hz.below hu) hbz hkn h1 (by omega))
  have HMp:=Lib.hid (fun va vb u (ha : Ints u va (gpW xs k n)) (hb : Ints u vb (gpW zs k n))=>MulPerms_any n ci cj va vb u h1 hn4 hci hcj (by rw [eci];exact S.p5 xs mx) (by rw [ecj];exact S.p5 zs mz) (by rw [eci];exact ha) (by rw [ecj];exact hb))
  have HSh:=Lib.hid (fun u (hu : Below w1.heap.size w1 u)=>implShapes_any u1 u2 u3 xs zs ys (k : Int) (n : Int) u (hx.below hu) (hz.below hu) (hy.below hu))
  have sumx:=bx_sum hbx hkn hn4 (S.short xs mx)
  have sumz:=bx_sum hbz hkn hn4 (S.short zs mz)
  obtain ⟨SA,hSA⟩ : ∃ z,z=sumI xs:=⟨_,rfl⟩
  obtain ⟨SB,hSB⟩ : ∃ z,z=sumI zs:=⟨_,rfl⟩
  rw [← hSA] at sumx
  rw [← hSB] at sumz
  obtain ⟨hsxo,hsx0,hsx1⟩:=sumx
  obtain ⟨hszo,hsz0,hsz1⟩:=sumz
  have HA1:=Lib.hid (show ∀ u,Below w1.heap.size w1 u→Calls Tryz.prog 13 #[u1] u fun e w'=>e=.returned (.int .i64 SA)∧Qt u w' from fun u hu=>hSA ▸ lawSum_any u1 xs u (hx.below hu) hsxo)
  have HA2:=Lib.hid (show ∀ u,Below w1.heap.size w1 u→Calls Tryz.prog 13 #[u2] u fun e w'=>e=.returned (.int .i64 SB)∧Qt u w' from fun u hu=>hSB ▸ lawSum_any u2 zs u (hz.below hu) hszo)
  have Htop:=Lib.hid (show (wtP n k ys xs zs).filter (fun x=>decide (sumI x.1=SA+SB))=filL xs zs k ((n - k : Nat) : Int) by rw [hSA,hSB];exact top_fil T.top)
  have HX1:=Lib.hid (show ∀ u,Below w1.heap.size w1 u→Ints u u1 xs from fun u hu=>hx.below hu)
  have HX2:=Lib.hid (show ∀ u,Below w1.heap.size w1 u→Ints u u2 zs from fun u hu=>hz.below hu)
  have Hbx:=Lib.hid hbx
  have Hbz:=Lib.hid hbz
  have HB1:=Lib.hid hb1
  obtain ⟨p1,k1,rfl,_⟩:=hx
  obtain ⟨p2,k2,rfl,_⟩:=hz
  obtain ⟨p3,k3,rfl,_⟩:=hy
  obtain ⟨F,hF⟩ : ∃ F,F=filL xs zs k ((n - k : Nat) : Int):=⟨_,rfl⟩
  rw [← hF] at HGr HPu Htop
  have HF:=Lib.hid hF
  obtain ⟨E,hE⟩ : ∃ E,E=wtP n k ys xs zs:=⟨_,rfl⟩
  rw [← hE] at HEs Htop
  have HE:=Lib.hid hE
  obtain ⟨n1,hl1⟩ : ∃ z,z=xs.length:=⟨_,rfl⟩
  obtain ⟨n2,hl2⟩ : ∃ z,z=zs.length:=⟨_,rfl⟩
  obtain ⟨n3,hl3⟩ : ∃ z,z=ys.length:=⟨_,rfl⟩
  rw [← hl1] at HGr HS1 HG1 HSh HA1 HX1 ⊢
  rw [← hl2] at HGr HS2 HG2 HSh HA2 HX2 ⊢
  rw [← hl3] at HSh ⊢
  clear hbx hbz hyl hyd hy9 hb1 hok mx mz hYOk sx ex sz ez S T hci hcj eci ecj hsxo hszo hSA hSB hF hE hl1 hl2 hl3
  go_wp2_with fail
  refine HGr.out.mono ?_
  rintro e w2 ⟨ul,lo2,rfl,_,hol,_,_,hb2⟩
  have HL2:=Lib.hid hol.rd
  have HB2:=Lib.hid hb2
  obtain ⟨pl,kl,rfl,hkl1,hkl2⟩:=hol.shape
  obtain ⟨N,hN⟩ : ∃ N,N=F.length:=⟨_,rfl⟩
  have HN:=Lib.hid hN
  rw [← hN] at HL2 hkl1 ⊢
  clear hol hb2 hN HGr
  go_wp2_with fail
  refine (HS1.out _ HB2.out).mono ?_
  rintro e w3 ⟨ua,rfl,hoa,hb3⟩
  have Hoa:=Lib.hid hoa.ints
  have HB3:=Lib.hid (below_trans HB2.out hb3)
  have HL3:=Lib.hid (HL2.out.below hb3)
  obtain ⟨pa,ka,rfl,_,_⟩:=hoa.shape
  clear hoa hb3 HL2
  go_wp2_with fail
  refine (HS2.out _ HB3.out).mono ?_
  rintro e w4 ⟨ub,rfl,hob,hb4⟩
  have Hob:=Lib.hid hob.ints
  have Hoa4:=Lib.hid (Hoa.out.below hb4)
  have HB4:=Lib.hid (below_trans HB3.out hb4)
  have HL4:=Lib.hid (HL3.out.below hb4)
  obtain ⟨pb,kb,rfl,_,_⟩:=hob.shape
  clear hob hb4 HL3 Hoa
  go_wp2_with fail
  refine (HPu.out _ _ _ Hoa4.out Hob.out).mono ?_
  rintro e w5 ⟨um,rfl,hm5,hb5⟩
  have HM5:=Lib.hid hm5
  have HB5:=Lib.hid (below_trans HB4.out hb5)
  have HL5:=Lib.hid (HL4.out.below hb5)
  obtain ⟨_,⟨pm,km,rfl,_⟩,_⟩:=hm5
  rw [← HN.out] at HM5 ⊢
  clear hb5 HL4 Hoa4 Hob HPu HS1 HS2
  go_wp2_with fail
  refine (HG1.out _ HB5.out).mono ?_
  rintro e w6 ⟨ug,rfl,hog,hb6⟩
  have Hog:=Lib.hid hog.ints
  have HB6:=Lib.hid (below_trans HB5.out hb6)
  have HL6:=Lib.hid (HL5.out.below hb6)
  have HM6:=Lib.hid (HM5.out.below hb6)
  obtain ⟨pg,kg,rfl,_,_⟩:=hog.shape
  clear hog hb6 HL5 HM5
  go_wp2_with fail
  refine (HG2.out _ HB6.out).mono ?_
  rintro e w7 ⟨uh,rfl,hoh,hb7⟩
  have Hoh:=Lib.hid hoh.ints
  have Hog7:=Lib.hid (Hog.out.below hb7)
  have HB7:=Lib.hid (below_trans HB6.out hb7)
  have HL7:=Lib.hid (HL6.out.below hb7)
  have HM7:=Lib.hid (HM6.out.below hb7)
  obtain ⟨ph,kh,rfl,_,_⟩:=hoh.shape
  clear hoh hb7 HL6 HM6 Hog
  go_wp2_with fail
  refine (HMp.out _ _ _ Hog7.out Hoh.out).mono ?_
  rintro e w8 ⟨up,rfl,hp8,hb8⟩
  have HP8:=Lib.hid hp8
  have HB8:=Lib.hid (below_trans HB7.out hb8)
  have HL8:=Lib.hid (HL7.out.below hb8)
  have HM8:=Lib.hid (HM7.out.below hb8)
  obtain ⟨_,⟨pp,kp,rfl,_⟩,_⟩:=hp8
  obtain ⟨np,hnp⟩ : ∃ z,z=(srtC (mR n ci cj)).length:=⟨_,rfl⟩
  rw [← hnp] at HP8 ⊢
  clear hnp hb8 HL7 HM7 Hog7 Hoh HMp HG1 HG2
  go_wp2_with fail
  refine (HSh.out _ HB8.out).mono ?_
  rw [HEs.out]
  rintro e w9 ⟨ue,rfl,hoe,hb9⟩
  dsimp only at hoe ⊢
  have HE9:=Lib.hid hoe.rd
  have HB9:=Lib.hid (below_trans HB8.out hb9)
  have HL9:=Lib.hid (HL8.out.below hb9)
  have HP9:=Lib.hid (HP8.out.below hb9)
  have Hps:=Lib.hid (parts_same _ _ _ w9 HL9.out (HM8.out.below hb9))
  obtain ⟨pe,ke,rfl,hke1,hke2⟩:=hoe.shape
  obtain ⟨NE,hNE⟩ : ∃ NE,NE=E.length:=⟨_,rfl⟩
  have HNE:=Lib.hid hNE
  rw [← hNE] at HE9 hke1 ⊢
  clear hoe hb9 HL8 HP8 HM8 hNE HEs HSh
  go_wp2_with fail
  refine Hps.out.mono ?_
  rintro e w0 ⟨rfl,q0⟩
  have HB0:=Lib.hid (below_trans HB9.out (q0.below _))
  have HE0:=Lib.hid (HE9.out.below (q0.below _))
  have HL0:=Lib.hid (HL9.out.below (q0.below _))
  have HP0:=Lib.hid (HP9.out.below (q0.below _))
  clear q0 HB9 HE9 HL9 HP9 Hps
  obtain ⟨WA,hWA⟩ : ∃ WA,WA=w0.alloc (.cells #[] 39):=⟨_,rfl⟩
  obtain ⟨WB,hWB⟩ : ∃ WB,WB=WA.alloc (.cells #[] 39):=⟨_,rfl⟩
  obtain ⟨B,hB⟩ : ∃ B,B=w0.heap.size:=⟨_,rfl⟩
  have hsA : WA.heap.size=B+1:=by rw [hWA,hB];exact size_alloc _ _
  have hsB : WB.heap.size=B+2:=by rw [hWB];rw [size_alloc,hsA]
  have HcA:=Lib.hid (show ∃ g,OwnS WB B (B+1) 39 2 (.slice (some ⟨B,0,none⟩) 0 0) 0 (clF [] g) by
   obtain ⟨g,g1,_⟩:=OwnP2.made0 w0
   rw [← hB,← hWA,hsA] at g1
   exact ⟨g,by rw [hWB];exact g1.below (below_alloc _ _)⟩)
  have HcB:=Lib.hid (show ShP WB w0 (B+1) (.slice (some ⟨B+1,0,none⟩) 0 0) [] by rw [hWB,← hsA];exact ShP.made0 WA w0)
  have HBw:=Lib.hid (show Below B w0 WB by rw [hWB,hWA,hB];exact (below_alloc _ _).trans ((below_alloc _ _).mono (by simp)))
  have HWB:=Lib.hid hWB
  have HWA:=Lib.hid hWA
  have HsA:=Lib.hid hsA
  have HsB:=Lib.hid hsB
  have HBe:=Lib.hid hB
  clear hWA hWB hsA hsB hB
  go_wp2_with fail
  rw [← HWA.out]
  rw [← HWB.out]
  rw [← HBe.out]
  have hNE6 : NE≤6:=by
   rw [HNE.out,HE.out]
   unfold wtP
   rw [List.length_map]
   exact Nat.le_trans (List.length_filter_le _ _) HS.out.six
  obtain ⟨q,hq⟩ : ∃ q : Cls→Bool,q=fun x=>decide (sumI x.1=SA+SB):=⟨_,rfl⟩
  have Hq:=Lib.hid hq
  rw [← hq] at Htop
  clear hq
  go_loopg [17,18] NE (fun g s17 s18 wr=> ∃ j : Nat,j≤NE∧g=NE - j∧s18=.int .i64 (j : Int)∧Hid (ShP wr w0 (B+1) s17 ((E.take j).filter q))∧Hid (Below (B+1) WB wr))
  case atStart=>exact ⟨0,Nat.zero_le _,rfl,rfl,by rw [List.take_zero];exact HcB,Lib.hid (Below.refl _ _)⟩
  case round =>
   obtain ⟨j,hj,rfl,rfl,ho,hb⟩:=hrel
   obtain ⟨wz,rfl⟩ : ∃ x : World,x=wr:=⟨_,rfl⟩
   have HO:=Lib.hid ho.out
   have HbZ:=Lib.hid hb.out
   have HbW0:=Lib.hid (show Below w0.heap.size w0 wz by rw [← HBe.out];exact HBw.out.trans (hb.out.mono (Nat.le_succ _)))
   have HbW1:=Lib.hid (below_trans HB0.out HbW0.out)
   have hszB : B+1≤wz.heap.size:=by have:=hb.out.size;have:=HsB.out;omega
   have HszB:=Lib.hid hszB
   clear ho hb hszB
   by_cases hjl : j < NE
   ·have hji : (j : Int) < (NE : Int):=by omega
    obtain ⟨fe,hre,hfe⟩:=HE0.out
    obtain ⟨pe',ke',ell,_,hxc⟩:=hre.two
    rw [← HNE.out] at ell hxc
    injection ell with ell1 ell2 ell3
    obtain ⟨be,hbe,hce⟩:=hxc (by omega)
    rw [← ell1] at hbe
    subst hbe
    obtain ⟨d1,d2⟩:=hce j hjl
    have hiv:=hfe j (by rw [← HNE.out];exact hjl)
    obtain ⟨vi,hvi⟩ : ∃ z,z=fe j:=⟨_,rfl⟩
    obtain ⟨X,hX⟩ : ∃ z,z=E.getD j clD:=⟨_,rfl⟩
    rw [← hX] at d2 hiv
    rw [← hvi] at d1 hiv
    have hXm : X ∈ E:=by rw [hX,List.getD_eq_getElem?_getD,List.getElem?_eq_getElem (by rw [← HNE.out];exact hjl)];exact List.getElem_mem _
    have hsm:=wt_mem (show X ∈ wtP n k ys xs zs by rw [← HE.out];exact hXm)
    have hsum:=bx_sum (HS.out.box _ hsm) hkn hn4 (HS.out.short _ hsm)
    have htk : E.take (j+1)=E.take j ++ [X]:=by
     rw [hX,List.getD_eq_getElem?_getD,List.getElem?_eq_getElem (show j < E.length by rw [← HNE.out];exact hjl),List.take_succ_eq_append_getElem (show j < E.length by rw [← HNE.out];exact hjl)];rfl
    have Htk:=Lib.hid htk
    clear hX hXm hsm htk
    obtain ⟨s,c⟩:=X
    dsimp only at d2 hiv hsum
    obtain ⟨hso,_,_⟩:=hsum
    have cA:=cell_below HbW0.out d1
    have cB:=cell_below HbW0.out d2
    have HI0:=Lib.hid hiv
    obtain ⟨SX,hSX⟩ : ∃ z,z=sumI s:=⟨_,rfl⟩
    have HSX:=Lib.hid hSX
    have HSm:=Lib.hid (show Calls Tryz.prog 13 #[vi] wz fun e w'=>e=.returned (.int .i64 SX)∧Qt wz w' from hSX ▸ lawSum_any vi s wz (hiv.below HbW0.out) hso)
    obtain ⟨pv,kv,rfl,_,_⟩:=hiv
    obtain ⟨nv,hnv⟩ : ∃ nv,nv=s.length:=⟨_,rfl⟩
    rw [← hnv] at HI0 HSm cA
    have HcA1:=Lib.hid cA
    have HcB1:=Lib.hid cB
    clear hvi hre hfe hxc hce ell1 ell2 ell3 d1 d2 hso hSX hnv
    go_wp2_with fail
    refine HSm.out.mono ?_
    rintro e wa ⟨rfl,qa⟩
    have HbA:=Lib.hid (qa.below wz.heap.size)
    clear qa cA cB
    go_wp2_with fail
    refine (HA1.out _ (below_trans HbW1.out HbA.out)).mono ?_
    rintro e wb ⟨rfl,qb⟩
    have HbB:=Lib.hid (below_trans HbA.out (qb.below _))
    clear qb HbA
    go_wp2_with fail
    refine (HA2.out _ (below_trans HbW1.out HbB.out)).mono ?_
    rintro e wc ⟨rfl,qc⟩
    have HbC:=Lib.hid (below_trans HbB.out (qc.below _))
    clear qc HbB
    by_cases e : SX=SA+SB
    ·have hd : (SX == SA+SB)=true:=by simp [e]
     have cA:=cell_below HbC.out HcA1.out
     have cB:=cell_below HbC.out HcB1.out
     have hq1 : q (s,c)=true:=by rw [Hq.out];show decide (sumI s=SA+SB)=true;rw [← HSX.out];exact decide_eq_true e
     have Hq1:=Lib.hid hq1
     obtain ⟨ft,ho1,ho2⟩:=HO.out
     obtain ⟨pt,kt,rfl,hkt1,hkt2,_⟩:=ho1.shape
     obtain ⟨nt,hnt⟩ : ∃ z,z=((E.take j).filter q).length:=⟨_,rfl⟩
     have hnt2 : nt≤j:=by rw [hnt];exact Nat.le_trans (List.length_filter_le _ _) (by rw [List.length_take];omega)
     have Hnt:=Lib.hid hnt
     rw [← hnt] at ho1 hkt1 ⊢
     have Ho2:=Lib.hid ho2
     have hal:=below_alloc wc (.cells #[.slice pv nv kv,.int .i64 c] 39)
     have hbQ : Below wz.heap.size wz (wc.alloc (.cells #[.slice pv nv kv,.int .i64 c] 39)):=below_trans HbC.out hal
     have G1:=Lib.hid (ho1.below hbQ)
     have HbQ:=Lib.hid hbQ
     have Hlo:=Lib.hid (show B+1≤(wc.alloc (.cells #[.slice pv nv kv,.int .i64 c] 39)).heap.size from Nat.le_trans HszB.out hbQ.size)
     have Hcl:=Lib.hid (show ∀ j,j < 2→(wc.alloc (.cells #[.slice pv nv kv,.int .i64 c] 39)).cell? ⟨wc.heap.size,j,none⟩=some (match j with | 0=>.slice pv nv kv | _=>.int .i64 c) from fun j hj =>
      match j,hj with
      | 0,_=>cell_of_blk (heap_alloc_top wc _) (j:=0) rfl
      | 1,_=>cell_of_blk (heap_alloc_top wc _) (j:=1) rfl)
     have Hone:=Lib.hid (show ∀ j,j < 2→(match j with | 0=>Value.slice pv nv kv | _=>.int .i64 c).oneCell'=true from fun j hj =>
      match j,hj with
      | 0,_=>rfl
      | 1,_=>rfl)
     have Hn1:=Lib.hid (show nt+1≤maxLen by unfold maxLen;omega)
     have Hn2:=Lib.hid (show (nt+1) * 32≤140737488355328 by omega)
     clear e hq1 ho1 ho2 hal hbQ hnt
     go_wp2_with (at_builtin;go_must (refine wpList_append_S rfl (.tmp 112) (.tmp 117) 27 rfl 39 _ 2 32 Tryz.underlying27 info_prt rfl (by omega) (B+1) wz.heap.size _ nt (clF ((E.take j).filter q) ft) rfl G1.out Hlo.out _ _ _ rfl Hcl.out Hone.out Hn1.out Hn2.out ?_;intro v2 w2 hv2 hg2))
     go_roundg (NE - (j+1))
     case measure=>omega
     case rel =>
      refine ⟨j+1,by omega,rfl,by go_num,Lib.hid ?_,Lib.hid ?_⟩
      ·rw [Htk.out,List.filter_append,List.filter_cons_of_pos Hq1.out,List.filter_nil]
       rw [Hnt.out] at hv2
       exact ShP.snoc Ho2.out HI0.out hv2
      ·exact (HbZ.out.trans (HbQ.out.mono HszB.out)).trans (grownBy_below hg2 G1.out.blocks (Nat.le_refl _) Hlo.out)
    ·have hd : (SX == SA+SB)=false:=by simp [e]
     have hq1 : q (s,c)=false:=by rw [Hq.out];show decide (sumI s=SA+SB)=false;rw [← HSX.out];exact decide_eq_false e
     have Hq1:=Lib.hid hq1
     clear e hq1
     go_wp2_with fail
     go_roundg (NE - (j+1))
     case measure=>omega
     case rel =>
      refine ⟨j+1,by omega,rfl,by go_num,Lib.hid ?_,Lib.hid (HbZ.out.trans (HbC.out.mono HszB.out))⟩
      rw [Htk.out,List.filter_append,List.filter_cons_of_neg (by rw [Hq1.out];decide),List.filter_nil,List.append_nil]
      exact HO.out.below HbC.out
   ·obtain rfl : j=NE:=by omega
    have hji : ¬ (j : Int) < (j : Int):=by omega
    have hO:=HO.out
    rw [List.take_of_length_le (by rw [← HNE.out];exact Nat.le_refl _),Htop.out] at hO
    have HTop:=Lib.hid hO
    obtain ⟨w10,rfl⟩ : ∃ x : World,x=wz:=⟨_,rfl⟩
    have HC10:=Lib.hid (show ShP w10 w0 B (.slice (some ⟨B,0,none⟩) 0 0) [] by
     obtain ⟨g,g1⟩:=HcA.out
     exact ⟨g,(g1.keep fun k _ h2 _=>HbZ.out.block k h2).mono (Nat.le_refl _) HszB.out,fun i hi=>absurd hi (Nat.not_lt_zero _)⟩)
    have hN6 : N≤6:=by
     rw [HN.out,← Htop.out]
     exact Nat.le_trans (List.length_filter_le _ _) (by rw [← HNE.out];exact hNE6)
    have hO2:=hO
    obtain ⟨ft,ho1,_⟩:=hO2
    obtain ⟨pt,kt,rfl,hkt1,hkt2,_⟩:=ho1.shape
    have Hb10:=Lib.hid HbW0.out
    have Hb10B:=Lib.hid (show Below B w0 w10 by rw [HBe.out];exact HbW0.out)
    rw [← HN.out] at HTop ⊢
    clear hO ho1 hkt1 hkt2 HcA HO HbZ hj
    go_wp2_with fail
    go_loopg [16,19] N (fun g s16 s19 wr=> ∃ i : Nat,i≤N∧g=N - i∧s19=.int .i64 (i : Int)∧Hid (ShP wr w0 B s16 (F.take i))∧Hid (Frm B (B+1) w10 wr)∧Hid (∀ b,s16.ownBlock=some b→(B≤b∧b < B+1) ∨ w10.heap.size≤b))
    case atStart=>exact ⟨0,Nat.zero_le _,rfl,rfl,by rw [List.take_zero];exact HC10,Lib.hid (Frm.refl _ _ _),Lib.hid (own0 B w10.heap.size)⟩
    case round =>
     obtain ⟨i,hi,rfl,rfl,ho,hf,hbk⟩:=hrel
     obtain ⟨wy,rfl⟩ : ∃ x : World,x=wr:=⟨_,rfl⟩
     have HO:=Lib.hid ho.out
     have HFr:=Lib.hid hf.out
     have Hbk:=Lib.hid hbk.out
     have HbY:=Lib.hid (show Below w0.heap.size w0 wy by rw [← HBe.out];exact Hb10B.out.trans (hf.out.below (Nat.le_refl _) (Nat.le_trans (Nat.le_succ _) HszB.out)))
     have Hsz:=Lib.hid (show w10.heap.size≤wy.heap.size from hf.out.size)
     clear ho hf hbk
     by_cases hil : i < N
     ·have hii : (i : Int) < (N : Int):=by omega
      obtain ⟨fe,hre,hfe⟩:=HL0.out
      obtain ⟨pe',ke',ell,_,hxc⟩:=hre.two
      rw [← HN.out] at ell hxc
      injection ell with ell1 ell2 ell3
      obtain ⟨bl,hbl,hce⟩:=hxc (by omega)
      rw [← ell1] at hbl
      subst hbl
      obtain ⟨d1,d2⟩:=hce i hil
      have hiv:=hfe i (by rw [← HN.out];exact hil)
      obtain ⟨vi,hvi⟩ : ∃ z,z=fe i:=⟨_,rfl⟩
      obtain ⟨X,hX⟩ : ∃ z,z=F.getD i clD:=⟨_,rfl⟩
      rw [← hX] at d2 hiv
      rw [← hvi] at d1 hiv
      have hXm : X ∈ F:=by rw [hX,List.getD_eq_getElem?_getD,List.getElem?_eq_getElem (by rw [← HN.out];exact hil)];exact List.getElem_mem _
      have TP:=HT.out.one X (by rw [← HF.out];exact hXm)
      have htk : F.take (i+1)=F.take i ++ [X]:=by
       rw [hX,List.getD_eq_getElem?_getD,List.getElem?_eq_getElem (show i < F.length by rw [← HN.out];exact hil),List.take_succ_eq_append_getElem (show i < F.length by rw [← HN.out];exact hil)];rfl
      have Htk:=Lib.hid htk
      clear hX hXm htk
      obtain ⟨s,c⟩:=X
      obtain ⟨tbx,tbd,tis,tcl,tct,tgw⟩:=TP
      dsimp only at d2 hiv tbx tbd tis tcl tct tgw
      have p5s:=HS.out.p5 _ (bx_mem tbx hkn)
      have HI:=Lib.hid (show ∀ u,Below w0.heap.size w0 u→Ints u vi s from fun u hu=>hiv.below hu)
      have HcAB:=Lib.hid (show ∀ u,Below w0.heap.size w0 u→u.cell? ⟨bl,i * 2,none⟩=some vi∧u.cell? ⟨bl,i * 2+1,none⟩=some (.int .i64 c) from fun u hu=>⟨cell_below hu d1,cell_below hu d2⟩)
      have Hd1:=Lib.hid d1
      have HGp:=Lib.hid (GrassmannianPerm_any vi s k n wy (HI.out _ HbY.out) tbx hkn h1 (by omega))
      have HTm:=Lib.hid (fun v u (hu : Ints u v (gpW s k n))=>implTrim_yes v (gpW s k n) u hu p5s.ok)
      have HCi:=Lib.hid (show ∀ v u,Below w0.heap.size w0 u→Ints u v (trimL (gpW s k n))→Calls Tryz.prog 15 #[.slice pp np kp,v] u fun e w'=>e=.returned (.int .i64 c)∧Qt u w' from fun v u hu hv=>by
       rw [← tcl]
       exact classIn_any _ v _ _ u (HP0.out.below hu) hv)
      have HDu:=Lib.hid (show ∀ wX u,Below w0.heap.size w0 wX→Below wX.heap.size wX u→Calls Tryz.prog 17 #[vi,.int .i64 (k : Int),.int .i64 (n : Int)] u fun e w'=> ∃ z,e=.returned z∧Ints w' z (dlL s k n)∧Below wX.heap.size wX w'∧Below u.heap.size u w' from fun wX u hX hu =>
       (DualShape_any vi s k n u (HI.out _ (below_trans hX hu)) tbx hkn h1 (by omega) (fun i _=>bx_rows tbx hkn i)).mono fun e w' ⟨z,h1,h2,h3⟩=>⟨z,h1,h2,below_trans hu h3,h3⟩)
      have HIs:=Lib.hid (show ∀ wX u z b,Below w0.heap.size w0 wX→Below wX.heap.size wX u→Ints u z (dlL s k n)→u.heap[b]?=some (.cells #[.slice p1 n1 k1,.slice p2 n2 k2,z] 24 (0,0))→Calls Tryz.prog 16 #[.slice (some ⟨b,0,none⟩) 3 3,.int .i64 (k : Int),.int .i64 (n : Int)] u fun e w'=>e=.returned (.int .i64 c)∧Below wX.heap.size wX w' from fun wX u z b hX hu hz hk=>by
       have hw:=below_trans HB0.out (below_trans hX hu)
       have hr : RdII u (.slice (some ⟨b,0,none⟩) 3 3) [xs,zs,dlL s k n]:=⟨fun j=>match j with | 0=>.slice p1 n1 k1 | 1=>.slice p2 n2 k2 | _=>z,⟨_,_,rfl,⟨Nat.le_refl _,by unfold maxLen;decide⟩,fun _=>⟨b,0,rfl,fun j hj=>by
        match j,hj with
        | 0,_=>exact cell_of_blk hk (j:=0) rfl
        | 1,_=>exact cell_of_blk hk (j:=1) rfl
        | 2,_=>exact cell_of_blk hk (j:=2) rfl⟩⟩,fun j hj=>by
        match j,hj with
        | 0,_=>exact HX1.out _ hw
        | 1,_=>exact HX2.out _ hw
        | 2,_=>exact hz⟩
       refine (Isn_any _ _ k n u hr (show 3≤12 by omega) hkn h1 (by omega) (fun j hj=>by
        match j,hj with
        | 0,_=>exact Hbx.out
        | 1,_=>exact Hbz.out
        | 2,_=>exact tbd) tis).mono fun e w' ⟨g1,g2⟩=>⟨by rw [g1,tct],below_trans hu g2⟩)
      have HGw:=Lib.hid (show ∀ wX u z,Below w0.heap.size w0 wX→Below wX.heap.size wX u→Ints u z (dlL s k n)→0 < k→Calls Tryz.prog 18 #[.slice p1 n1 k1,.slice p2 n2 k2,z,.int .i64 (k : Int),.int .i64 (n : Int),.int .i64 0] u fun e w'=>e=.returned (.int .i64 c)∧Below wX.heap.size wX w' from fun wX u z hX hu hz h0=>by
       have hw:=below_trans HB0.out (below_trans hX hu)
       exact (Gw_any _ _ _ xs zs (dlL s k n) k n 0 u (HX1.out _ hw) (HX2.out _ hw) hz Hbx.out Hbz.out tbd h0 hkn (by omega) (HT.out.qu h0)).mono fun e w' ⟨g1,g2⟩=>⟨by rw [g1,tgw h0],below_trans hu g2⟩)
      have Hgl:=Lib.hid p5s.len
      have HI0:=Lib.hid hiv
      obtain ⟨pv,kv,rfl,_,_⟩:=hiv
      obtain ⟨nv,hnv⟩ : ∃ nv,nv=s.length:=⟨_,rfl⟩
      rw [← hnv] at HI0 HcAB HGp HDu HI
      obtain ⟨cA,cB⟩:=HcAB.out _ HbY.out
      have hcc : (c != c)=false:=by simp
      clear hvi hre hfe hxc hce ell1 ell2 ell3 d1 d2 hnv tbx tbd tis tcl tct tgw p5s
      go_wp2_with fail
      refine HGp.out.mono ?_
      rintro e wa ⟨ua,rfl,hoa,hba⟩
      have Hia:=Lib.hid hoa.ints
      have Hba:=Lib.hid hba
      obtain ⟨pg2,kg2,rfl,_,_⟩:=hoa.shape
      rw [Hgl.out] at Hia ⊢
      clear hoa hba HGp
      go_wp2_with fail
      refine (HTm.out _ _ Hia.out).mono ?_
      rintro e wb ⟨ub,rfl,hob,hbb⟩
      have Hib:=Lib.hid hob.ints
      have Hbb:=Lib.hid (below_trans Hba.out hbb)
      obtain ⟨pt2,kt2,rfl,_,_⟩:=hob.shape
      obtain ⟨nt2,hnt2⟩ : ∃ z,z=(trimL (gpW s k n)).length:=⟨_,rfl⟩
      rw [← hnt2] at Hib ⊢
      have HbB0:=Lib.hid (below_trans HbY.out Hbb.out)
      clear hob hbb Hia Hba HTm hnt2 cA cB
      obtain ⟨cA,cB⟩:=HcAB.out _ HbB0.out
      go_upto_region 21 with fail
      go_cut [16] from 119 to 188 (fun s16 wc=>Hid (ShP wc w0 B s16 (F.take (i+1)))∧Hid (Frm B (B+1) w10 wc)∧Hid (∀ b,s16.ownBlock=some b→(B≤b∧b < B+1) ∨ w10.heap.size≤b)∧Hid (wy.heap.size≤wc.heap.size))
      case first =>
       obtain ⟨fc,ho1,ho2⟩:=HO.out
       obtain ⟨pz,kz,rfl,hkz,hkzm,_⟩:=ho1.shape
       obtain ⟨nz,hnz⟩ : ∃ z,z=(F.take i).length:=⟨_,rfl⟩
       have hnz2 : nz≤i:=by rw [hnz,List.length_take];omega
       have Hnz:=Lib.hid hnz
       rw [← hnz] at ho1 hkz Hbk ⊢
       have G1:=Lib.hid (ho1.below Hbb.out)
       have Ho2:=Lib.hid ho2
       have Hn1:=Lib.hid (show nz+1≤maxLen by unfold maxLen;omega)
       have Hn2:=Lib.hid (show (nz+1) * 32≤140737488355328 by omega)
       have HByb:=Lib.hid (show B≤wb.heap.size from Nat.le_trans (Nat.le_trans (Nat.le_trans (Nat.le_succ _) HszB.out) Hsz.out) Hbb.out.size)
       clear ho1 ho2 hnz
       have HCw:=Lib.hid (show ∀ u,Below wb.heap.size wb u→Calls Tryz.prog 15 #[.slice pp np kp,.slice pt2 nt2 kt2] u fun e w'=>e=.returned (.int .i64 c)∧Below wb.heap.size wb w'∧w'.cell? ⟨bl,i * 2,none⟩=some (.slice pv nv kv) from fun u hu =>
        (HCi.out _ u (below_trans HbB0.out hu) (Hib.out.below hu)).mono fun e w' ⟨g1,g2⟩=>⟨g1,below_trans hu (g2.below _),(HcAB.out _ (below_trans HbB0.out (below_trans hu (g2.below _)))).1⟩)
       have hblB : bl < B:=by rw [HBe.out];exact World.block_lt_of_cell? w0 _ Hd1.out
       clear cB HCi
       go_wp2_with fail
       go_region_held3 (fun w'=>w'.cell? ⟨bl,i * 2,none⟩=some (.slice pv nv kv))
        (first | with_reducible assumption | exact cA | exact cS9 | exact cell_below (below_alloc _ _) (by assumption) | exact keepL hb6 hblB (by assumption))
        (first
          | (go_at_call 15;with_reducible refine Calls.mono (HCw.out _ (by (repeat (first | assumption | with_reducible refine Below.drew ?_ | with_reducible refine belF_al ?_ (Nat.le_refl _) _ | exact Below.refl _ _)))) ?_;rintro e w9 ⟨rfl,b9,cS9⟩)
          | (refine step_append_TW rfl (.tmp 134) (.tmp 144) 27 rfl 39 _ 2 32 Tryz.underlying27 info_prt rfl (by omega) B wy.heap.size _ nz (clF (F.take i) fc) rfl (G1.out.below (b9.trans ((below_alloc w9 _).mono b9.size))) (Nat.le_trans HByb.out (b9.trans ((below_alloc w9 _).mono b9.size)).size) _ _ (fun j=>match j with | 0=>.slice pv nv kv | _=>.int .i64 c) rfl (fun j hj=>match j,hj with | 0,_=>cell_of_blk (heap_alloc_top w9 _) (j:=0) rfl | 1,_=>cell_of_blk (heap_alloc_top w9 _) (j:=1) rfl) (fun j hj=>match j,hj with | 0,_=>rfl | 1,_=>rfl) Hn1.out Hn2.out ?_;intro v2 w2 hv hg hat;have hb6:=grownBy_below hg G1.out.blocks (Nat.le_refl _) (Nat.le_trans HByb.out (b9.trans ((below_alloc w9 _).mono b9.size)).size);have Hv:=Lib.hid hv;have Hg:=Lib.hid hg;have Hat:=Lib.hid hat;clear hv hg hat))
       all_goals go_wp2_with fail
       all_goals go_meet
       all_goals
        have hW2 : Below wb.heap.size wb (w9.alloc (.cells #[.slice pv nv kv,.int .i64 c] 39)):=b9.trans ((below_alloc w9 _).mono b9.size)
        have hWy:=below_trans Hbb.out hW2
        have hfr:=HFr.out.thenB hWy Hsz.out
        have hv:=Hv.out
        rw [Hnz.out] at hv
        refine ⟨Lib.hid ?_,Lib.hid (Frm.step (v:=.slice pz nz kz) hfr Hbk.out Hg.out.os Hg.out.tape Hg.out.output Hg.out.size (fun k hk hne=>Hg.out.block k hk (fun e=>hne e.symm))),Lib.hid (fun b hb=> ?_),Lib.hid (Nat.le_trans hWy.size Hg.out.size)⟩
        ·rw [Htk.out]
         exact ShP.snoc Ho2.out HI0.out hv
        ·rcases Hat.out with h | h
         ·exact Hbk.out b (h.symm.trans hb)
         ·have hb:=h.symm.trans hb
          injection hb with hb
          right
          rw [← hb]
          exact Nat.le_trans Hsz.out hWy.size
      case rest =>
       obtain ⟨ho8,hf8,hbk8,hsz8⟩:=hcut
       obtain ⟨wX,rfl⟩ : ∃ x : World,x=wc:=⟨_,rfl⟩
       have HO8:=Lib.hid ho8.out
       have HF8:=Lib.hid hf8.out
       have HK8:=Lib.hid hbk8.out
       have Hsz8:=Lib.hid (show w10.heap.size≤wX.heap.size from hf8.out.size)
       have HbX:=Lib.hid (show Below w0.heap.size w0 wX by rw [← HBe.out];exact Hb10B.out.trans (hf8.out.below (Nat.le_refl _) (Nat.le_trans (Nat.le_succ _) HszB.out)))
       obtain ⟨dA,dB⟩:=HcAB.out _ HbX.out
       obtain ⟨nd,hnd⟩ : ∃ z,z=(dlL s k n).length:=⟨_,rfl⟩
       have HDX:=Lib.hid (show ∀ u,Below wX.heap.size wX u→Calls Tryz.prog 17 #[.slice pv nv kv,.int .i64 (k : Int),.int .i64 (n : Int)] u fun e w'=> ∃ p k',e=.returned (.slice p nd k')∧Ints w' (.slice p nd k') (dlL s k n)∧Below wX.heap.size wX w'∧Below u.heap.size u w'∧(w'.cell? ⟨bl,i * 2,none⟩=some (.slice pv nv kv)∧w'.cell? ⟨bl,i * 2+1,none⟩=some (.int .i64 c)) from fun u hu =>
        (HDu.out wX u HbX.out hu).mono fun e w' ⟨z,g1,g2,g3,g4⟩=>by
          have g5:=g2
          obtain ⟨p,k',rfl,_⟩:=g2
          rw [← hnd] at g1 g5
          exact ⟨p,k',g1,g5,g3,g4,HcAB.out _ (below_trans HbX.out g3)⟩)
       have HIX:=Lib.hid (show ∀ u z b,Below wX.heap.size wX u→Ints u z (dlL s k n)→u.heap[b]?=some (.cells #[.slice p1 n1 k1,.slice p2 n2 k2,z] 24 (0,0))→Calls Tryz.prog 16 #[.slice (some ⟨b,0,none⟩) 3 3,.int .i64 (k : Int),.int .i64 (n : Int)] u fun e w'=>e=.returned (.int .i64 c)∧Below wX.heap.size wX w'∧(w'.cell? ⟨bl,i * 2,none⟩=some (.slice pv nv kv)∧w'.cell? ⟨bl,i * 2+1,none⟩=some (.int .i64 c)) from fun u z b hu hz hk =>
        (HIs.out wX u z b HbX.out hu hz hk).mono fun e w' ⟨g1,g2⟩=>⟨g1,g2,HcAB.out _ (below_trans HbX.out g2)⟩)
       have HGX:=Lib.hid (show ∀ u z,Below wX.heap.size wX u→Ints u z (dlL s k n)→0 < k→Calls Tryz.prog 18 #[.slice p1 n1 k1,.slice p2 n2 k2,z,.int .i64 (k : Int),.int .i64 (n : Int),.int .i64 0] u fun e w'=>e=.returned (.int .i64 c)∧Below wX.heap.size wX w'∧(w'.cell? ⟨bl,i * 2,none⟩=some (.slice pv nv kv)∧w'.cell? ⟨bl,i * 2+1,none⟩=some (.int .i64 c)) from fun u z hu hz h0 =>
        (HGw.out wX u z HbX.out hu hz h0).mono fun e w' ⟨g1,g2⟩=>⟨g1,g2,HcAB.out _ (below_trans HbX.out g2)⟩)
       clear ho8 hf8 hbk8 hsz8 hnd cA cB
       go_wp2_with fail
       go_region_held3 (fun w'=>w'.cell? ⟨bl,i * 2,none⟩=some (.slice pv nv kv)∧w'.cell? ⟨bl,i * 2+1,none⟩=some (.int .i64 c))
        (first | with_reducible assumption | exact ⟨dA,dB⟩ | exact cS1 | exact cS2 | exact ⟨cell_below (below_alloc _ _) (by first | exact cS1.1),cell_below (below_alloc _ _) (by first | exact cS1.2)⟩)
        (first
          | (go_at_call 17;with_reducible refine Calls.mono (HDX.out _ (by (repeat (first | assumption | with_reducible refine Below.drew ?_ | with_reducible refine Below.drewN ?_ _ | with_reducible refine belF_al ?_ (Nat.le_refl _) _ | exact Below.refl _ _)))) ?_;rintro e wC ⟨pC,kC,rfl,oC,bC,bC2,cS1⟩)
          | (go_at_call 16;with_reducible refine Calls.mono (HIX.out _ _ _ (by (repeat (first | assumption | with_reducible refine Below.drew ?_ | with_reducible refine Below.drewN ?_ _ | with_reducible refine belF_al ?_ (Nat.le_refl _) _ | exact Below.refl _ _))) (by first | exact oC | exact oC.below (below_alloc _ _)) (by (repeat (first | with_reducible exact heap_alloc_top _ _ | with_reducible refine blk_later ?_ bC2 | with_reducible refine blkF_drew ?_)))) ?_;rintro e w9 ⟨rfl,b9,cS2⟩))
       clear cS1 oC bC bC2
       by_cases h0 : k=0
       ·subst h0
        go_wp2_with fail
        go_big_quiet (fail)
        go_wp2_with fail
        go_roundg (N - (i+1))
        case measure=>omega
        case rel =>
         exact ⟨i+1,by omega,rfl,by go_num,Lib.hid (HO8.out.below (by first | exact b9 | exact b9.drew | exact Below.drewN b9 _)),Lib.hid (HF8.out.thenB (by first | exact b9 | exact b9.drew | exact Below.drewN b9 _) Hsz8.out),HK8⟩
       ·have hk0 : (0 : Int) < (k : Int):=by omega
        have hk1 : 0 < k:=by omega
        go_wp2_with fail
        go_region_held3 (fun w'=>w'.cell? ⟨bl,i * 2,none⟩=some (.slice pv nv kv)∧w'.cell? ⟨bl,i * 2+1,none⟩=some (.int .i64 c))
         (first | with_reducible assumption | exact cS2 | exact cS3 | exact cS4 | exact ⟨cell_below (below_alloc _ _) (by first | exact cS3.1),cell_below (below_alloc _ _) (by first | exact cS3.2)⟩)
         (first
           | (go_at_call 17;with_reducible refine Calls.mono (HDX.out _ (by (repeat (first | assumption | with_reducible refine Below.drew ?_ | with_reducible refine Below.drewN ?_ _ | with_reducible refine belF_al ?_ (Nat.le_refl _) _ | exact Below.refl _ _)))) ?_;rintro e wD ⟨pD,kD,rfl,oD,bD,bD2,cS3⟩)
           | (go_at_call 18;with_reducible refine Calls.mono (HGX.out _ _ (by (repeat (first | assumption | with_reducible refine Below.drew ?_ | with_reducible refine Below.drewN ?_ _ | with_reducible refine belF_al ?_ (Nat.le_refl _) _ | exact Below.refl _ _))) (by first | exact oD | exact oD.below (below_alloc _ _)) hk1) ?_;rintro e w8 ⟨rfl,b8,cS4⟩))
        go_wp2_with fail
        go_roundg (N - (i+1))
        case measure=>omega
        case rel =>
         exact ⟨i+1,by omega,rfl,by go_num,Lib.hid (HO8.out.below (by first | exact b8 | exact b8.drew | exact Below.drewN b8 _)),Lib.hid (HF8.out.thenB (by first | exact b8 | exact b8.drew | exact Below.drewN b8 _) Hsz8.out),HK8⟩
     ·obtain rfl : i=N:=by omega
      have hii : ¬ (i : Int) < (i : Int):=by omega
      have hO:=HO.out
      rw [List.take_of_length_le (by rw [← HN.out];exact Nat.le_refl _)] at hO
      have Hrc:=Lib.hid (hO.rd HbY.out)
      have Hrt:=Lib.hid ((HTop.out.frm HFr.out (Nat.le_refl _)).rd HbY.out)
      have Hrl:=Lib.hid (HL0.out.below HbY.out)
      obtain ⟨fc,ho1,_⟩:=hO
      obtain ⟨pz,kz,rfl,_⟩:=ho1.shape
      rw [← HN.out] at Hrc ⊢
      clear ho1
      go_wp2_with fail
      refine (parts_same _ _ F wy Hrt.out Hrl.out).mono ?_
      rintro e wp ⟨rfl,qp⟩
      have Hqp:=Lib.hid (qp.below wy.heap.size)
      clear qp
      go_wp2_with fail
      refine (parts_same _ _ F wp (Hrc.out.below Hqp.out) (Hrl.out.below Hqp.out)).mono ?_
      rintro e wq ⟨rfl,qq⟩
      have Hqq:=Lib.hid (below_trans Hqp.out (qq.below _))
      clear qq
      go_wp2_with fail
      go_ret
      exact ⟨rfl,HB1.out.trans ((below_trans HB0.out (below_trans HbY.out Hqq.out)).mono HB1.out.size)⟩
end
end Go.Proofs.YtijadclebjcckaaGreat
