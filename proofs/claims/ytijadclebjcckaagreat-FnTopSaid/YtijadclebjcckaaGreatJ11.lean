/-
  A part of the proof of FnTop (texts of one proof, joined).
-/
import Derived.Test.YtijadclebjcckaaGreatJ10
namespace Go.Proofs.YtijadclebjcckaaGreat
set_option linter.all false
set_option maxRecDepth 100000
set_option maxHeartbeats 16000000
section
open Go.RowKit
def RetCB (w : World) (r : List Cls × Bool) (e : Ending) (w' : World) : Prop :=
 ∃ u,e=.returned (.tuple #[u,.bool r.2])∧OwnCd w' w.heap.size w'.heap.size u r.1∧Below w.heap.size w w'
theorem implExpand_no (N : Int) (v u : Value) (vs ys : List Int) (w : World) (hv : Ints w v vs) (hy : Ints w u ys) (h : GkIs N vs ys false) :
 Calls Tryz.prog 79 #[.int .i64 N,v,u] w (RetCB w ([],false)):=by
 have h0:=implIsGkm_any N v u vs ys w hv hy
 rw [← h.eps] at h0
 have H0:=Lib.hid h0
 clear h0 h
 obtain ⟨p1,k1,rfl,_,_⟩:=hv
 obtain ⟨p2,k2,rfl,_,_⟩:=hy
 go_enter Tryz.func79,Tryz.ntmps79
 go_wp2_with fail
 refine H0.out.mono ?_
 rintro e w1 ⟨rfl,hb⟩
 have Hb:=Lib.hid hb
 clear hb
 go_wp2_with fail
 go_ret2
 exact ⟨_,rfl,OwnCd.nil _ _ _,Hb.out⟩
theorem implExpand_yes (n : Nat) (v u : Value) (vs ys : List Int) (w : World) (hv : Ints w v vs) (hy : Ints w u ys) (h : GkIs n vs ys true) :
 Calls Tryz.prog 79 #[.int .i64 (n : Int),v,u] w (RetCB w (expE n vs ys (ordL n))):=by
 have h0:=implIsGkm_any n v u vs ys w hv hy
 rw [← h.eps] at h0
 obtain ⟨ha,hvl,hmo,hgk⟩:=h.1 rfl
 clear hgk
 rw [Int.toNat_natCast] at hvl
 have YO:=yOk ha
 have OI:=ordIs YO.one YO.four
 obtain ⟨F,hF⟩ : ∃ F,F=fact n:=⟨_,rfl⟩
 have hf:=fact4 YO.one (show n≤5 by have:=YO.four;omega)
 rw [← hF] at hf
 have HF:=Lib.hid hF
 have HYO:=Lib.hid YO
 have HOI:=Lib.hid OI
 have Hvl:=Lib.hid hvl
 have Hmo:=Lib.hid hmo
 have HV:=Lib.hid hv
 have HY:=Lib.hid hy
 have e0 : allPermsL n=permsL n:=by have:=YO.one;have:=YO.four;unfold allPermsL;rw [if_pos (by omega)];simp
 have He0:=Lib.hid e0
 obtain ⟨pv,kv,rfl,⟨hv1,hv2⟩,hvx⟩:=hv
 obtain ⟨py,ky,rfl,⟨hy1,hy2⟩,hyx⟩:=hy
 clear hvx hyx
 unfold maxLen at hv2 hy2
 rw [hvl,← hF] at HV hv1 h0 ⊢
 rw [YO.len] at HY hy1 h0 ⊢
 have H0:=Lib.hid h0
 clear h0 h ha hvl hmo YO OI hF e0
 obtain ⟨B0,hB0⟩ : ∃ B,B=w.heap.size:=⟨_,rfl⟩
 have HB0:=Lib.hid hB0
 clear hB0
 go_enter Tryz.func79,Tryz.ntmps79
 go_wp2_with fail
 refine H0.out.mono ?_
 rintro e w1 ⟨rfl,hb1⟩
 have Hb1:=Lib.hid hb1
 have hs1:=hb1.size
 clear hb1 H0
 go_wp2_with fail
 refine (implAllPerms_any n w1).mono ?_
 rw [He0.out]
 rintro e w2 ⟨u2,rfl,ho2,hb2⟩
 have hs2:=hb2.size
 have hRl : (permsL n).length=F:=by rw [permsL_length,HF.out]
 obtain ⟨p2,k2,rfl,hk2,hk22⟩:=ho2.shape
 unfold maxLen at hk22
 rw [hRl] at hk2 ho2 ⊢
 have Hall:=Lib.hid ho2
 have Hb2:=Lib.hid hb2
 clear ho2 hb2
 go_wp2_with fail
 refine (upTo_any F _ (by omega)).mono ?_
 rintro e w4 ⟨u4,rfl,ho4,hb4⟩
 have hs3 : (w2.alloc (.cells #[.slice p2 F k2] 43)).heap.size=w2.heap.size+1:=by rw [size_alloc]
 rw [hs3] at ho4 hb4
 have hs4:=hb4.size
 rw [hs3] at hs4
 obtain ⟨A1,hA1⟩ : ∃ A,A=w1.heap.size:=⟨_,rfl⟩
 obtain ⟨A2,hA2⟩ : ∃ A,A=w2.heap.size:=⟨_,rfl⟩
 obtain ⟨A4,hA4⟩ : ∃ A,A=w4.heap.size:=⟨_,rfl⟩
 have hAll:=Hall.out
 have hB1:=Hb1.out
 have hB2:=Hb2.out
 rw [← hA1,← hA2] at hAll
 rw [← hA1] at hB2
 rw [← hA2] at ho4 hb4 hs4 hs2 hs3 ⊢
 rw [← hA1] at hs1 hs2
 rw [← hA4] at ho4 hs4
 have hlow : Below (A2+1) (w2.alloc (.cells #[.slice p2 F k2] 43)) w4:=hb4
 have hkeep : ∀ W,Frm (A2+1) A4 w4 W→W.cell? ⟨A2,0,none⟩=some (.slice p2 F k2)∧RdII W (.slice p2 F k2) (permsL n):=fun W hW=>by
  have hb : Below (A2+1) (w2.alloc (.cells #[.slice p2 F k2] 43)) W:=hlow.trans (hW.below (Nat.le_refl _) (by omega))
  refine ⟨?_,?_⟩
  ·rw [hb.cell (by show A2 < A2+1;omega)]
   rw [hA2]
   simp
  ·have h1 : Below w2.heap.size w2 W:=by rw [← hA2];exact (by have:=below_alloc w2 (.cells #[.slice p2 F k2] 43);rw [← hA2] at this;exact this : Below A2 w2 _).trans (hb.mono (by omega))
   exact (hAll.below h1).rd
 have Hkeep:=Lib.hid hkeep
 have Ho4:=Lib.hid ho4
 have Hlow:=Lib.hid hlow
 obtain ⟨p4,k4,rfl,hk4,hk44⟩:=ho4.shape
 unfold maxLen at hk44
 rw [idL_length] at hk4 Ho4 ⊢
 have HA1:=Lib.hid hA1
 have HA2:=Lib.hid hA2
 have HA4:=Lib.hid hA4
 have HB1:=Lib.hid hB1
 have HB2:=Lib.hid hB2
 clear hkeep ho4 hlow hb4 hAll hA1 hA2 hA4 hB1 hB2 Hb1 Hb2 Hall
 go_wp2_with fail
 refine (sortOrder_any (.slice p4 F k4) n (A2+1) A4 A2 (.slice p2 F k2) w4 HYO.out.one HYO.out.four (by have:=Ho4.out;rw [HF.out] at this ⊢;exact this) Hkeep.out).mono ?_
 rintro e w5 ⟨rfl,ho5,hf5⟩
 obtain ⟨hbx5,hrd5⟩:=Hkeep.out w5 hf5
 have hb45 : Below (A2+1) (w2.alloc (.cells #[.slice p2 F k2] 43)) w5:=Hlow.out.trans (hf5.below (Nat.le_refl _) (by rw [← HA4.out];exact hs4))
 have hbw5 : Below w.heap.size w w5:=HB1.out.trans ((HB2.out.mono hs1).trans ((by have:=below_alloc w2 (.cells #[.slice p2 F k2] 43);rw [← HA2.out] at this;exact this : Below A2 w2 _).mono (by omega) |>.trans (hb45.mono (by omega))))
 have hs5:=hf5.size
 obtain ⟨A5,hA5⟩ : ∃ A,A=w5.heap.size:=⟨_,rfl⟩
 rw [← hA5,← HA4.out] at hs5
 have hofn5:=ho5.ints
 have hlo5 : (ordZ n).length=F:=by unfold ordZ;rw [List.length_map,HOI.out.length,HF.out]
 have hp4 : ∃ g4,p4=some ⟨g4,0,none⟩ ∧ ∀ j,j < F→w5.cell? ⟨g4,j,none⟩=some (.int .i64 (((ordL n).getD j 0 : Nat) : Int)):=by
  have h1:=ho5.fn
  rw [hlo5] at h1
  obtain ⟨g4,e4,_,_,_⟩:=h1.at_ (by omega)
  subst e4
  refine ⟨g4,rfl,fun j hj=> ?_⟩
  rw [h1.cell hj]
  unfold iv ordZ
  congr 2
  simp only [List.getD_eq_getElem?_getD,List.getElem?_map]
  rw [List.getElem?_eq_getElem (by rw [HOI.out.length,← HF.out];exact hj)]
  simp
 obtain ⟨g4,rfl,hc4⟩:=hp4
 have HA5:=Lib.hid hA5
 have Hc4:=Lib.hid hc4
 obtain ⟨fr,⟨pp,cc,epp,_,hxc⟩,hfr⟩:=hrd5
 rw [hRl] at epp hxc hfr
 injection epp with e1 e2 e3
 subst e1
 obtain ⟨gb,ob,rfl,hcr⟩:=hxc (by omega)
 have Hbx5:=Lib.hid hbx5
 have Hcr:=Lib.hid hcr
 have Hfr:=Lib.hid (show ∀ x,x < F→Ints w5 (fr x) (pmA n x) from hfr)
 clear hxc hfr hcr e3
 have Hbw5:=Lib.hid hbw5
 have HV5:=Lib.hid (HV.out.below hbw5)
 have HY5:=Lib.hid (HY.out.below hbw5)
 clear hA5 hc4 hbx5 hbw5 ho5 hf5 hb45 hofn5 hlo5 Hkeep Hlow Ho4 HB1 HB2 HV HY
 go_wp2_with fail
 refine (clone_any _ vs _ HV5.out (by rw [Hvl.out,← HF.out];omega)).mono ?_
 rintro e w6 ⟨u6,rfl,ho6,hb6⟩
 rw [← HA5.out] at ho6 hb6
 obtain ⟨A6,hA6⟩ : ∃ A,A=w6.heap.size:=⟨_,rfl⟩
 have hs6:=hb6.size
 rw [← hA6] at ho6 hs6
 rw [← HA5.out] at hs6
 obtain ⟨p6,k6,rfl,hk6,hk66⟩:=ho6.shape
 unfold maxLen at hk66
 rw [Hvl.out,← HF.out] at hk6 ho6 ⊢
 have HA6:=Lib.hid hA6
 obtain ⟨g6,rfl,hg61,hg62,_⟩:=(show OwnF w6 A5 A6 3 (.slice p6 F k6) F (iv vs) from by have:=ho6.fn;rw [Hvl.out,← HF.out] at this;exact this).at_ (by omega)
 have Ho6:=Lib.hid ho6
 have Hb6:=Lib.hid hb6
 clear hA6 ho6 hb6
 have Hr0:=Lib.hid (show RestOk n 0 vs from ⟨Hvl.out,fun i hi=>by
  have hm:=Hmo.out
  simp only [mostB,decide_eq_true_eq] at hm
  have:=hm _ (getD_mem (show i < vs.length by rw [Hvl.out];exact hi))
  omega⟩)
 have Hol:=Lib.hid (show (ordL n).length=F by rw [HOI.out.length,HF.out])
 go_wp2_with fail
 go_loopg [11,36] F (fun g s11 s36 wr=> ∃ (i : Nat) (rest : List Int) (outs : List Cls),i≤F∧g=F - i∧s36=.int .i64 (i : Int)∧Hid (Below A5 w5 wr)∧Hid (A6≤wr.heap.size)∧Hid (OwnI 3 wr A5 A6 (.slice (some ⟨g6,0,none⟩) F k6) rest) ∧
  Hid (OwnCd wr A6 wr.heap.size s11 outs)∧Hid (RestOk n i rest)∧Hid (OutOk n ((ordL n).take i) outs)∧Hid (exGo n ys ((ordL n).drop i) rest outs=exGo n ys (ordL n) vs []))
 case atStart =>
  refine ⟨0,vs,[],Nat.zero_le _,rfl,rfl,Lib.hid ?_,Lib.hid ?_,Lib.hid ?_,Lib.hid ?_,Hr0,Lib.hid ?_,Lib.hid ?_⟩
  ·exact Hb6.out.trans ((below_alloc w6 _).mono (by rw [← HA6.out];omega))
  ·rw [size_alloc,← HA6.out];omega
  ·exact Ho6.out.below (below_alloc w6 _)
  ·have:=OwnCd.made0 w6
   rw [← HA6.out] at this ⊢
   exact this.mono (Nat.le_refl _) (by rw [size_alloc,← HA6.out];omega)
  ·exact List.Sublist.refl _
  ·rw [List.drop_zero]
 case round =>
  obtain ⟨i,rest,outs,hi,rfl,rfl,hb,hs,ho,hoc,hr,hot,hgo⟩:=hrel
  obtain ⟨wx,rfl⟩ : ∃ x : World,x=wr:=⟨_,rfl⟩
  have Hb:=Lib.hid hb.out
  have Hs:=Lib.hid hs.out
  have Ho:=Lib.hid ho.out
  have Hoc:=Lib.hid hoc.out
  have Hr:=Lib.hid hr.out
  have Hot:=Lib.hid hot.out
  have Hgo:=Lib.hid hgo.out
  obtain ⟨pc,kc,rfl,hkc,hkcm⟩:=hoc.out.shape
  clear hb hs ho hoc hr hot hgo
  unfold maxLen at hkcm
  obtain ⟨no,hno⟩ : ∃ no,no=outs.length:=⟨_,rfl⟩
  have Hno:=Lib.hid hno
  rw [← hno] at hkc Hoc ⊢
  clear hno
  have hbx : Below w5.heap.size w5 wx:=by rw [← HA5.out];exact Hb.out
  have cbx:=cell_below hbx Hbx5.out
  by_cases hlt : i < F
  ·have hlti : (i : Int) < (F : Int):=by omega
   obtain ⟨x,hx⟩ : ∃ x,x=(ordL n).getD i 0:=⟨_,rfl⟩
   have hxF : x < F:=by rw [hx,HF.out];exact HOI.out.at_ (by rw [← HF.out];exact hlt)
   have hxi : (x : Int) < (F : Int):=by omega
   have co:=cell_below hbx (Hc4.out i hlt)
   rw [← hx] at co
   obtain ⟨vx,hvx⟩ : ∃ z,z=fr x:=⟨_,rfl⟩
   have cr:=cell_below hbx (Hcr.out x hxF)
   rw [← hvx] at cr
   have Hix:=Lib.hid (show Ints wx vx (pmA n x) by rw [hvx];exact (Hfr.out x hxF).below hbx)
   have HY9:=Lib.hid (HY5.out.below hbx)
   have hdr : (ordL n).drop i=x :: (ordL n).drop (i+1):=by
    rw [List.drop_eq_getElem_cons (by rw [Hol.out];exact hlt),hx,List.getD_eq_getElem?_getD,List.getElem?_eq_getElem (by rw [Hol.out];exact hlt)];rfl
   have htk : (ordL n).take (i+1)=(ordL n).take i ++ [x]:=by
    rw [List.take_add_one,List.getElem?_eq_getElem (by rw [Hol.out];exact hlt),hx,List.getD_eq_getElem?_getD,List.getElem?_eq_getElem (by rw [Hol.out];exact hlt)];rfl
   have Hdr:=Lib.hid hdr
   have Htk:=Lib.hid htk
   have Hx:=Lib.hid hx
   have Hbx:=Lib.hid hbx
   have Hvx:=Lib.hid hvx
   clear hdr htk hx hvx hbx
   go_wp2_with fail
   refine (implTable_any n (pmA n x) ys vx (.slice py n ky) wx (pm_p5 HYO.out (by rw [← HF.out];exact hxF)) HYO.out.one HYO.out.four HYO.out.len HYO.out.nine Hix.out (by have:=HY9.out;exact this)).mono ?_
   rintro e w8 ⟨u8,rfl,ho8,hb8⟩
   have hl8 : (tabL (pmA n x) ys).length=F:=by rw [HF.out];exact tb_length HYO.out (by rw [← HF.out];exact hxF)
   have h8:=ho8.fn
   obtain ⟨p8,k8,rfl,hk8,hk88⟩:=ho8.shape
   unfold maxLen at hk88
   rw [hl8] at h8 hk8 ⊢
   obtain ⟨g8,rfl,hg81,hg82,hg83⟩:=h8.at_ (by omega)
   have hrl : rest.length=F:=by rw [Hr.out.1,HF.out]
   have h6 : OwnF w8 A5 A6 3 (.slice (some ⟨g6,0,none⟩) F k6) F (iv rest):=by
    have:=(Ho.out.below hb8).fn
    rw [hrl] at this
    exact this
   obtain ⟨T,hT⟩ : ∃ T,T=(tbA n ys x).getD x 0:=⟨_,rfl⟩
   obtain ⟨R,hR⟩ : ∃ R,R=rest.getD x 0:=⟨_,rfl⟩
   obtain ⟨C,hC⟩ : ∃ C,C=qoA n ys rest x:=⟨_,rfl⟩
   have c8 : w8.cell? ⟨g8,x,none⟩=some (.int .i64 T):=by rw [h8.cell hxF,hT];rfl
   have c6 : w8.cell? ⟨g6,x,none⟩=some (.int .i64 R):=by rw [h6.cell hxF,hR];rfl
   have hT0 : ¬ T=0:=by rw [hT];exact tb_ne HYO.out (by rw [← HF.out];exact hxF)
   have hRb : R.natAbs≤1000000000000+i * 1000000000000000:=by rw [hR];exact Hr.out.2 x (by rw [← HF.out];exact hxF)
   have hCd : C=R.tdiv T:=by rw [hC,hR,hT];rfl
   have hCa : C.natAbs≤R.natAbs:=by rw [hCd];exact tdiv_abs _ _
   have hPa : (C * T).natAbs≤R.natAbs:=by rw [hCd];exact tdiv_mul_abs _ _
   have hR17 : R.natAbs≤200000000000000000:=by
    have : i * 1000000000000000≤120 * 1000000000000000:=Nat.mul_le_mul_right _ (by omega)
    omega
   have hbad : badA n ys rest x ↔ (C * T ≠ R ∨ C < -1000000000 ∨ 1000000000 < C):=by unfold badA;rw [← hC,← hT,← hR]
   obtain ⟨P,hP⟩ : ∃ P,P=C * T:=⟨_,rfl⟩
   rw [← hP] at hPa hbad
   have hwq : IntKind.i64.wrap (R.tdiv T)=C:=by rw [← hCd,IntKind.wrap_i64];omega
   have hwp : IntKind.i64.wrap (C * T)=P:=by rw [← hP,IntKind.wrap_i64];omega
   have HC:=Lib.hid hC
   have HT:=Lib.hid hT
   have HR:=Lib.hid hR
   have HP:=Lib.hid hP
   have Hbad:=Lib.hid hbad
   have H8:=Lib.hid h8
   have H6:=Lib.hid h6
   have Hb8:=Lib.hid hb8
   have Hrl:=Lib.hid hrl
   have HCa:=Lib.hid hCa
   have Hwp:=Lib.hid hwp
   have HT0:=Lib.hid hT0
   have HRb:=Lib.hid hRb
   clear hC hT hR hP hbad h8 h6 hb8 hrl ho8 hl8 hCd hCa hPa hR17 hRb hwp
   go_wp2_with fail
   go_quiet (fail)
   obtain ⟨q1,rfl⟩ : ∃ q : Nat,q=nq:=⟨_,rfl⟩
   have hbw8 : Below w.heap.size w w8:=Hbw5.out.trans ((Hbx.out.mono Hbw5.out.size).trans (Hb8.out.mono (Nat.le_trans Hbw5.out.size Hbx.out.size)))
   have Hbw8:=Lib.hid hbw8
   have Hnone:=Lib.hid (show badA n ys rest x→expE n vs ys (ordL n)=([],false) from fun hb=>by
    unfold expE
    rw [← Hgo.out,Hdr.out,exGo,if_pos hb];rfl)
   clear hbw8
   by_cases e1 : P=R
   ·have d1 : (P != R)=false:=by simp [e1]
    have He1:=Lib.hid e1
    have hwp : IntKind.i64.wrap (C * T)=P:=Hwp.out
    clear e1
    by_cases e2 : C < -1000000000
    ·go_wp2_with fail
     go_quiet (fail)
     go_wp2_with fail
     go_ret2
     rw [Hnone.out (Hbad.out.2 (.inr (.inl e2)))]
     exact ⟨_,rfl,OwnCd.nil _ _ _,Hbw8.out.trans (Below.of_drewN _ _ |>.trans (Below.of_drewN _ _))⟩
    ·by_cases e3 : 1000000000 < C
     ·go_wp2_with fail
      go_quiet (fail)
      go_wp2_with fail
      go_ret2
      rw [Hnone.out (Hbad.out.2 (.inr (.inr e3)))]
      exact ⟨_,rfl,OwnCd.nil _ _ _,Hbw8.out.trans (Below.of_drewN _ _ |>.trans (Below.of_drewN _ _))⟩
     ·have hnb : ¬ badA n ys rest x:=fun hb=>by
       rcases Hbad.out.1 hb with h | h | h
       ·exact h He1.out
       ·exact e2 h
       ·exact e3 h
      have Hnb:=Lib.hid hnb
      clear hnb
      by_cases e4 : C=0
      ·have d4 : (C == 0)=true:=by simp [e4]
       have He4:=Lib.hid e4
       clear e4
       go_wp2_with fail
       go_quiet (fail)
       go_wp2_with fail
       go_roundg (F - (i+1))
       case measure=>omega
       case rel =>
        refine ⟨i+1,rest,outs,by omega,rfl,by go_num,Lib.hid ?_,Lib.hid ?_,Lib.hid ?_,Lib.hid ?_,Lib.hid Hr.out.mono,Lib.hid ?_,Lib.hid ?_⟩
        ·exact Hb.out.trans ((Hb8.out.mono (by have:=Hs.out;omega)).trans (Below.of_drewN _ _))
        ·have:=Hb8.out.size;have:=Hs.out;show A6≤w8.heap.size;omega
        ·exact (Ho.out.below Hb8.out).below (Below.of_drewN _ _)
        ·exact ((Hoc.out.below Hb8.out).mono (Nat.le_refl _) Hb8.out.size).below (Below.of_drewN _ _)
        ·rw [Htk.out];exact Hot.out.skip x
        ·rw [← Hgo.out,Hdr.out,exGo,if_neg Hnb.out,if_pos (by rw [← HC.out];exact He4.out)]
      ·have d4 : (C == 0)=false:=by simp [e4]
       have He4:=Lib.hid e4
       clear e4
       go_wp2_with fail
       go_quiet (fail)
       obtain ⟨W9,hW9⟩ : ∃ W,W=(w8.drewN q1).drewN nq:=⟨_,rfl⟩
       rw [← hW9]
       have Hq9:=Lib.hid (show Qt w8 W9 from ⟨q1+nq,by rw [hW9,World.drewN_drewN]⟩)
       clear hW9
       have h6' : OwnF W9 A5 A6 3 (.slice (some ⟨g6,0,none⟩) F k6) F (iv rest):=H6.out.below (Hq9.out.below _)
       have Hc8:=Lib.hid (show ∀ j,j < F→W9.cell? ⟨g8,j,none⟩=some (.int .i64 ((tbA n ys x).getD j 0)) from fun j hj=>Hq9.out.cell (H8.out.cell hj))
       have hg8s : g8 < W9.heap.size:=by rw [Hq9.out.size];exact hg83
       have hg8o : A6≤g8:=Nat.le_trans Hs.out hg81
       have H6':=Lib.hid h6'
       clear h6' c6 c8
       go_wp2_with fail
       go_loopg [81] F (fun g s81 wr2=> ∃ j : Nat,j≤F∧g=F - j∧s81=.int .i64 (j : Int)∧Hid (Frm A5 A6 W9 wr2)∧Hid (OwnF wr2 A5 A6 3 (.slice (some ⟨g6,0,none⟩) F k6) F (fun t=>if t < j then iv (subL rest C (tbA n ys x)) t else iv rest t)))
       case atStart=>exact ⟨0,Nat.zero_le _,rfl,rfl,Lib.hid (Frm.refl _ _ _),Lib.hid (H6'.out.congr fun t _=>by rw [if_neg (Nat.not_lt_zero _)])⟩
       case round =>
        obtain ⟨j,hj,rfl,rfl,hfj,hoj⟩:=hrel
        obtain ⟨wy,rfl⟩ : ∃ x : World,x=wr:=⟨_,rfl⟩
        have Hfj:=Lib.hid hfj.out
        have Hoj:=Lib.hid hoj.out
        clear hfj hoj
        by_cases hjF : j < F
        ·have hjFi : (j : Int) < (F : Int):=by omega
         obtain ⟨a,ha⟩ : ∃ a,a=rest.getD j 0:=⟨_,rfl⟩
         obtain ⟨b,hb⟩ : ∃ b,b=(tbA n ys x).getD j 0:=⟨_,rfl⟩
         have ca : wy.cell? ⟨g6,j,none⟩=some (.int .i64 a):=by rw [Hoj.out.cell hjF,if_neg (Nat.lt_irrefl _),ha];rfl
         have fa : wy.frozen? ⟨g6,j,none⟩=false:=Hoj.out.frozen j
         have cb : wy.cell? ⟨g8,j,none⟩=some (.int .i64 b):=by
          rw [hb,← Hc8.out j hjF]
          unfold World.cell?
          rw [Hfj.out.block g8 hg8s (.inr hg8o)]
         obtain ⟨M,hM⟩ : ∃ M,M=C * b:=⟨_,rfl⟩
         obtain ⟨S,hS⟩ : ∃ S,S=a - M:=⟨_,rfl⟩
         have hab : a.natAbs≤200000000000000000:=by
          rw [ha]
          refine Nat.le_trans (Hr.out.2 j (by rw [← HF.out];exact hjF)) ?_
          have : i * 1000000000000000≤120 * 1000000000000000:=Nat.mul_le_mul_right _ (by omega)
          omega
         have hMb : M.natAbs≤1000000000 * 1000000:=by rw [hM,hb];exact abs_mul2 (by omega) (tb_bound HYO.out (by rw [← HF.out];exact hxF) (by rw [← HF.out];exact hjF))
         have hwM : IntKind.i64.wrap (C * b)=M:=by rw [← hM,IntKind.wrap_i64];omega
         have hwS : IntKind.i64.wrap (a - M)=S:=by rw [hS,IntKind.wrap_i64];omega
         have Ha:=Lib.hid ha
         have HB:=Lib.hid hb
         have HM:=Lib.hid hM
         have HS:=Lib.hid hS
         clear ha hb hM hS hab hMb
         go_wp2_with fail
         go_region
         go_wp2_with fail
         go_roundg (F - (j+1))
         case measure=>omega
         case rel =>
          refine ⟨j+1,by omega,rfl,by go_num,Lib.hid ?_,Lib.hid ?_⟩
          ·exact (Hfj.out.setCell (p:=⟨g6,j,none⟩) hg61 hg62 _).drewN 1
          ·have h1:=Hoj.out.set j (.int .i64 S)
           have h2 : OwnF (wy.setCell ⟨g6,j,none⟩ (.int .i64 S)).drew A5 A6 3 (.slice (some ⟨g6,0,none⟩) F k6) F _:=h1.below ((Below.refl _ _).drew)
           refine h2.congr fun t ht=> ?_
           by_cases h3 : t=j
           ·rw [if_pos h3,if_pos (by omega),h3]
            unfold iv
            rw [subL_getD (by rw [Hrl.out];exact hjF),HS.out,HM.out,Ha.out,HB.out]
           ·rw [if_neg h3]
            by_cases h4 : t < j
            ·rw [if_pos h4,if_pos (by omega)]
            ·rw [if_neg h4,if_neg (by omega)]
        ·have hjFi : ¬ (j : Int) < (F : Int):=by omega
         obtain rfl : j=F:=by omega
         have hsl : (subL rest C (tbA n ys x)).length=j:=by rw [subL_length,Hrl.out]
         have Hoy:=Lib.hid (show OwnI 3 wy A5 A6 (.slice (some ⟨g6,0,none⟩) j k6) (subL rest C (tbA n ys x)) from by
          refine OwnF.ints ?_
          rw [hsl]
          exact Hoj.out.congr fun t ht=>by rw [if_pos ht])
         have hsz9 : W9.heap.size≤wy.heap.size:=Hfj.out.size
         have hsx9 : wx.heap.size≤W9.heap.size:=by rw [Hq9.out.size];exact Hb8.out.size
         have hbx9 : Below wx.heap.size wx W9:=Hb8.out.trans ((Hq9.out.below _).mono Hb8.out.size)
         have hb9y : Below A5 W9 wy:=Hfj.out.below (Nat.le_refl _) (by have:=Hs.out;omega)
         have hbxy : Below A5 wx wy:=(hbx9.mono (by have:=Hs.out;omega)).trans hb9y
         have hb5y : Below w5.heap.size w5 wy:=by rw [← HA5.out];exact Hb.out.trans hbxy
         have cby:=cell_below hb5y Hbx5.out
         have cry:=cell_below hb5y (Hcr.out x hxF)
         rw [← Hvx.out] at cry
         have Hiy:=Lib.hid (show Ints wy vx (pmA n x) by rw [Hvx.out];exact (Hfr.out x hxF).below hb5y)
         have Hcy:=Lib.hid (show OwnCd wy A6 wx.heap.size (.slice pc no kc) outs from (Hoc.out.below hbx9).frm Hfj.out (.inr (Nat.le_refl _)))
         have Hb5y:=Lib.hid hb5y
         have Hbxy:=Lib.hid hbxy
         have hsxy : wx.heap.size≤wy.heap.size:=Nat.le_trans hsx9 hsz9
         clear hsl hbx9 hb9y hbxy hb5y cbx cr co
         go_wp2_with fail
         refine (implTrim_yes vx (pmA n x) wy Hiy.out (pm_p5 HYO.out (by rw [← HF.out];exact hxF)).ok).mono ?_
         rintro e wt ⟨ut,rfl,hot,hbt⟩
         obtain ⟨tl,htl⟩ : ∃ tl,tl=trimL (pmA n x):=⟨_,rfl⟩
         rw [← htl] at hot
         obtain ⟨pt,kt,rfl,hkt,hktm⟩:=hot.shape
         obtain ⟨nt,hnt⟩ : ∃ nt,nt=tl.length:=⟨_,rfl⟩
         rw [← hnt] at hot hkt ⊢
         have Htl:=Lib.hid htl
         obtain ⟨B8,hB8⟩ : ∃ B,B=wy.heap.size:=⟨_,rfl⟩
         obtain ⟨B9,hB9⟩ : ∃ B,B=wt.heap.size:=⟨_,rfl⟩
         have hst:=hbt.size
         rw [← hB8,← hB9] at hst hot
         obtain ⟨f,g1,g2,g3⟩:=(Hcy.out.mono (Nat.le_refl A6) hsxy).below hbt
         rw [← hB8] at g1 g2
         have hal : Below wt.heap.size wt (wt.alloc (.cells #[.slice pt nt kt,.int .i64 C] 74)):=below_alloc wt _
         have g1a:=Lib.hid (g1.below hal)
         have g2a:=Lib.hid (show ∀ i,i < outs.length→OwnI 3 (wt.alloc (.cells #[.slice pt nt kt,.int .i64 C] 74)) A6 B8 (f i) (outs.getD i clD).1 from fun i hi=>(g2 i hi).below hal)
         have G3:=Lib.hid g3
         have Hxt:=Lib.hid (hot.below hal)
         have Hcl:=Lib.hid (show ∀ j,j < 2→(wt.alloc (.cells #[.slice pt nt kt,.int .i64 C] 74)).cell? ⟨wt.heap.size,j,none⟩=some (match j with | 0=>.slice pt nt kt | _=>.int .i64 C) from fun j hj =>
          match j,hj with
          | 0,_=>cell_of_blk (heap_alloc_top wt _) (j:=0) rfl
          | 1,_=>cell_of_blk (heap_alloc_top wt _) (j:=1) rfl)
         have Hone:=Lib.hid (show ∀ j,j < 2→(match j with | 0=>Value.slice pt nt kt | _=>.int .i64 C).oneCell'=true from fun j hj =>
          match j,hj with
          | 0,_=>rfl
          | 1,_=>rfl)
         have hol : outs.length≤120:=Nat.le_trans (Hot.out.length (l:=(ordL n).drop i) (by rw [List.take_append_drop];exact HOI.out.perm)) (by rw [← HF.out];exact hf.2)
         have Hn1:=Lib.hid (show outs.length+1≤maxLen by unfold maxLen;omega)
         have Hn2:=Lib.hid (show (outs.length+1) * 32≤140737488355328 by omega)
         have Hlo:=Lib.hid (show A6≤(wt.alloc (.cells #[.slice pt nt kt,.int .i64 C] 74)).heap.size by rw [size_alloc,← hB9];have:=Hs.out;omega)
         have HB8:=Lib.hid hB8
         have HB9:=Lib.hid hB9
         have Hbt:=Lib.hid hbt
         have Hal:=Lib.hid hal
         have hs8 : wx.heap.size≤B8:=by rw [hB8];exact hsxy
         clear g1 g2 g3 hot hal hnt htl hB8 hB9 hbt hol
         go_wp2_with (at_builtin;go_must (refine wpList_append_S rfl (.tmp 97) (.tmp 105) 32 rfl 74 _ 2 32 Tryz.underlying32 info_cls rfl (by omega) A6 B8 _ outs.length (clF outs f) rfl g1a.out Hlo.out _ _ _ rfl Hcl.out Hone.out Hn1.out Hn2.out ?_;intro v' w' hv hg))
         go_roundg (j - (i+1))
         case measure=>omega
         case rel =>
          have hgb : Below A6 (wt.alloc (.cells #[.slice pt nt kt,.int .i64 C] 74)) w':=grownBy_below hg g1a.out.blocks (Nat.le_refl _) Hlo.out
          have hA6 : A6≤wy.heap.size:=by have:=Hs.out;omega
          have hby' : Below A6 wy w':=(Hbt.out.mono hA6).trans ((Hal.out.mono (Nat.le_trans hA6 Hbt.out.size)).trans hgb)
          refine ⟨i+1,subL rest C (tbA n ys x),outs ++ [(tl,C)],by omega,rfl,by go_num,Lib.hid ?_,Lib.hid ?_,Lib.hid ?_,Lib.hid ?_,Lib.hid ?_,Lib.hid ?_,Lib.hid ?_⟩
          ·exact Hb.out.trans (Hbxy.out.trans (hby'.mono (by omega)))
          ·exact Nat.le_trans hA6 hby'.size
          ·exact Own.keep Hoy.out fun k h1 h2 h3=>hby'.block k h2
          ·exact OwnCd.snoc g1a.out g2a.out G3.out Hxt.out (by have:=Hs.out;omega) hst hg (Nat.le_trans (by rw [HB9.out];exact Hal.out.size) hg.size) hv
          ·exact Hr.out.sub HYO.out (by rw [← HF.out];exact hxF) (by omega)
          ·rw [Htk.out,Htl.out];exact Hot.out.snoc x C
          ·rw [← Hgo.out,Hdr.out,exGo,if_neg Hnb.out,if_neg (by rw [← HC.out];exact He4.out),← HC.out,Htl.out]
   ·have d1 : (P != R)=true:=by simp [e1]
    have He1:=Lib.hid e1
    have hwp : IntKind.i64.wrap (C * T)=P:=Hwp.out
    clear e1
    go_wp2_with fail
    go_quiet (fail)
    go_wp2_with fail
    go_ret2
    rw [Hnone.out (Hbad.out.2 (.inl He1.out))]
    exact ⟨_,rfl,OwnCd.nil _ _ _,Hbw8.out.trans (Below.of_drewN _ _ |>.trans (Below.of_drewN _ _))⟩
  ·have hlti : ¬ (i : Int) < (F : Int):=by omega
   obtain rfl : i=F:=by omega
   have hnd : (outs.map (·.1)).Nodup:=Hot.out.nodup HYO.out.one HYO.out.four (l:=(ordL n).drop i) (by rw [List.take_append_drop];exact HOI.out.perm)
   have hol : outs.length≤120:=Nat.le_trans (Hot.out.length (l:=(ordL n).drop i) (by rw [List.take_append_drop];exact HOI.out.perm)) (by rw [← HF.out];exact hf.2)
   have Hsc:=Lib.hid (sortClasses_any (.slice pc no kc) outs A6 wx.heap.size wx Hoc.out (by omega) hnd)
   clear hnd hol cbx
   go_wp2_with fail
   refine Hsc.out.mono ?_
   rintro e w9 ⟨rfl,ho9,hf9⟩
   have Ho9:=Lib.hid ho9
   have Hf9:=Lib.hid hf9
   have Hbx:=Lib.hid hbx
   clear ho9 hf9 hbx
   go_wp2_with fail
   go_ret2
   have hres : expE n vs ys (ordL n)=(srtC outs,true):=by
    unfold expE
    rw [← Hgo.out,List.drop_of_length_le (by rw [Hol.out];exact Nat.le_refl _)]
    rfl
   rw [hres]
   have hw5:=Hbw5.out.size
   have h56 : w5.heap.size≤A6:=by rw [← HA5.out];exact hs6
   refine ⟨_,rfl,(Ho9.out.mono (by omega) Hf9.out.size),?_⟩
   exact Hbw5.out.trans ((Hbx.out.mono hw5).trans (Hf9.out.below (by omega) (by have:=Hs.out;omega)))
theorem take_snocC {cs : List Cls} {i : Nat} (h : i < cs.length) : cs.take (i+1)=cs.take i ++ [cs.getD i clD]:=by
 rw [List.take_add_one,List.getElem?_eq_getElem h,List.getD_eq_getElem?_getD,List.getElem?_eq_getElem h];rfl
def OwnCe (w : World) (lo1 lo0 hi : Nat) (v : Value) (cs : List Cls) : Prop :=
 ∃ g,OwnS w lo1 hi 74 2 v cs.length (clF cs g) ∧ ∀ i,i < cs.length→OwnI 3 w lo0 hi (g i) (cs.getD i clD).1
theorem OwnCe.below {w w' : World} {lo1 lo0 hi : Nat} {v : Value} {cs : List Cls} (h : OwnCe w lo1 lo0 hi v cs) (hb : Below w.heap.size w w') : OwnCe w' lo1 lo0 hi v cs:=by
 obtain ⟨g,h1,h2⟩:=h
 exact ⟨g,h1.below hb,fun i hi=>(h2 i hi).below hb⟩
theorem OwnCe.cl {w : World} {lo1 lo0 hi : Nat} {v : Value} {cs : List Cls} (h : OwnCe w lo1 lo0 hi v cs) (hl : lo0≤lo1) : OwnCl w lo0 hi v cs:=by
 obtain ⟨g,h1,h2⟩:=h
 exact ⟨g,h1.mono hl (Nat.le_refl _),h2⟩
theorem OwnCe.snoc {w w' : World} {lo1 lo0 mid : Nat} {v v' x : Value} {cs : List Cls} {m : Cls} {f : Nat→Value} {n : Nat} (hn : n=cs.length) (g1 : OwnS w lo1 mid 74 2 v n (clF cs f)) (g2 : ∀ i,i < cs.length→OwnI 3 w lo0 mid (f i) (cs.getD i clD).1)
 (hx : OwnI 3 w lo0 mid x m.1) (hg : w.grownBy w' v.ownBlock) (hsz : mid≤w'.heap.size)
 (hv : OwnS w' lo1 w'.heap.size 74 2 v' (n+1) (fun i=>if i < n then clF cs f i else fun j=>match j with | 0=>x | _=>.int .i64 m.2)) : OwnCe w' lo1 lo0 w'.heap.size v' (cs ++ [m]):=by
 subst hn
 have hrow : ∀ (y : Value) (ys : List Int) (lo1 hi1 : Nat),OwnI 3 w lo1 hi1 y ys→OwnI 3 w' lo1 hi1 y ys:=fun y ys lo1 hi1 hy =>
  ⟨ownsRow_of_block hy.1 fun k hk=>hg.block k (Own.block hy hk).2.2 fun e=>ne_of_kinds (g1.kind k e.symm) (OwnI.kind hy k hk) (by decide),hy.2⟩
 refine ⟨fun i=>if i < cs.length then f i else x,by
  rw [List.length_append]
  refine hv.congr fun i hi j hj=> ?_
  by_cases h : i < cs.length
  ·rw [if_pos h]
   unfold clF
   rw [OwnCd.getD_snoc,if_pos h]
   have : j=0 ∨ j=1:=by omega
   rcases this with rfl | rfl
   ·show f i=if i < cs.length then f i else x
    rw [if_pos h]
   ·rfl
  ·have e : i=cs.length:=by omega
   rw [if_neg h]
   unfold clF
   rw [OwnCd.getD_snoc,if_neg h,if_pos e]
   have : j=0 ∨ j=1:=by omega
   rcases this with rfl | rfl
   ·show x=if i < cs.length then f i else x
    rw [if_neg h]
   ·rfl,fun i hi=> ?_⟩
 rw [List.length_append] at hi
 simp only [List.length_singleton] at hi
 rw [OwnCd.getD_snoc]
 by_cases h : i < cs.length
 ·simp only [h,if_true]
  exact (hrow _ _ _ _ (g2 i h)).mono (Nat.le_refl _) hsz
 ·have : i=cs.length:=by omega
  simp only [h,if_false]
  rw [if_pos this]
  exact (hrow _ _ _ _ hx).mono (Nat.le_refl _) hsz
theorem OwnCl.frm {w w' : World} {lo hi lo' hi' : Nat} {v : Value} {cs : List Cls} (h : OwnCl w lo hi v cs) (hb : Frm lo' hi' w w') (ho : hi≤lo' ∨ hi'≤lo) : OwnCl w' lo hi v cs:=by
 obtain ⟨g,h1,h2⟩:=h
 exact ⟨g,h1.frm hb ho,fun i hi=>(h2 i hi).frm hb ho⟩
theorem GkIs.nat {N : Int} {vs y : List Int} (h : GkIs N vs y true) : ∃ n : Nat,N=(n : Int)∧YOk n y∧vs.length=fact n∧RestOk n 0 vs:=by
 obtain ⟨ha,hvl,hmo,hgk⟩:=h.1 rfl
 have hN : 1≤N:=by
  simp only [apOk,nmOk,Bool.and_eq_true,decide_eq_true_eq] at ha
  exact ha.1.1.1.1.1
 obtain ⟨n,rfl⟩:=Int.eq_ofNat_of_zero_le (show (0 : Int)≤N by omega)
 rw [Int.toNat_natCast] at hvl
 refine ⟨n,rfl,yOk ha,hvl,hvl,fun i hi=> ?_⟩
 simp only [mostB,decide_eq_true_eq] at hmo
 have:=hmo _ (getD_mem (show i < vs.length by rw [hvl];exact hi))
 omega
theorem implExpand_any (N : Int) (v u : Value) (vs ys : List Int) (w : World) (hv : Ints w v vs) (hy : Ints w u ys) (b : Bool) (h : GkIs N vs ys b) :
 Calls Tryz.prog 79 #[.int .i64 N,v,u] w (RetCB w (if b then expE N.toNat vs ys (ordL N.toNat) else ([],false))):=by
 cases b with
 | false=>exact implExpand_no N v u vs ys w hv hy h
 | true =>
   obtain ⟨n,rfl,_⟩:=h.nat
   exact implExpand_yes n v u vs ys w hv hy h
section
variable {n : Nat} {ys : List Int}
theorem tab_at (hy : YOk n ys) {u : List Int} (hu : P5 n u) {i : Nat} (hi : i < fact n) : (tabL u ys).getD i 0=FW n ys u (pmA n i):=by
 rw [tab_getD hu.len hi]
 have hb:=FW_bound hy.len hy.one hy.four hy.nine hu (pm_p5 hy hi)
 unfold tabV
 have e : Ev (dblP u ys) (mono (pickL ((permsL n).getD i []) ys))=FW n ys u (pmA n i):=by
  unfold FW EV dblP
  rw [hu.len];rfl
 rw [e]
 exact wrap_of (by omega)
theorem tab_bound (hy : YOk n ys) {u : List Int} (hu : P5 n u) {i : Nat} (hi : i < fact n) : ((tabL u ys).getD i 0).natAbs≤1000000:=by
 rw [tab_at hy hu hi]
 exact FW_bound hy.len hy.one hy.four hy.nine hu (pm_p5 hy hi)
def mulT (n : Nat) (ys u v : List Int) : List Int:=(List.range (fact n)).map fun i=>(tabL u ys).getD i 0 * (tabL v ys).getD i 0
theorem mulT_length (n : Nat) (ys u v : List Int) : (mulT n ys u v).length=fact n:=by simp [mulT]
theorem mulT_getD {u v : List Int} {i : Nat} (h : i < fact n) : (mulT n ys u v).getD i 0=(tabL u ys).getD i 0 * (tabL v ys).getD i 0:=by simp [mulT,List.getD_eq_getElem?_getD,h]
theorem mulT_bound (hy : YOk n ys) {u v : List Int} (hu : P5 n u) (hv : P5 n v) {i : Nat} (hi : i < fact n) : ((mulT n ys u v).getD i 0).natAbs≤1000000 * 1000000:=by
 rw [mulT_getD hi]
 exact abs_mul2 (tab_bound hy hu hi) (tab_bound hy hv hi)
theorem most_of {vs : List Int} (h : ∀ i,i < vs.length→(vs.getD i 0).natAbs≤1000000 * 1000000) : mostB vs=true:=by
 simp only [mostB,decide_eq_true_eq]
 intro x hx
 obtain ⟨i,hi,e⟩:=List.mem_iff_getElem.1 hx
 have:=h i hi
 rw [getD_lt hi,e] at this
 omega
theorem gk_of (hy : YOk n ys) {vs : List Int} {f : List Int→Int} (hl : vs.length=fact n) (hf : ∀ i,i < fact n→vs.getD i 0=f (pmA n i)) (hb : ∀ i,i < fact n→(vs.getD i 0).natAbs≤1000000 * 1000000)
 (hm : ∀ p,P5 n p → ∀ i j,i < n→j < n→Mg (yAt ys p i - yAt ys p j) (f p) (f (swapL p i j))) : GkIs n vs ys true:=by
 refine ⟨fun _=>⟨hy.ap,by rw [Int.toNat_natCast];exact hl,most_of fun i hi=>hb i (by rw [← hl];exact hi),fun x i j hx hij hj=> ?_⟩,fun _=>rfl⟩
 rw [Int.toNat_natCast] at hx hj ⊢
 have G:=gkN hy.one hy.four
 obtain ⟨p1,p2⟩:=G.plc x i j hx hij hj
 unfold gkAt
 rw [hf x hx,hf _ p1]
 have e : pmA n (plN (swapL ((permsL n).getD x []) i j))=swapL (pmA n x) i j:=p2
 rw [e]
 exact (hm _ (pm_p5 hy hx) i j (by omega) hj).tmod
theorem gk_mul (hy : YOk n ys) {u v : List Int} (hu : P5 n u) (hv : P5 n v) : GkIs n (mulT n ys u v) ys true :=
 gk_of hy (f:=fun p=>FW n ys u p * FW n ys v p) (mulT_length n ys u v) (fun i hi=>by rw [mulT_getD hi,tab_at hy hu hi,tab_at hy hv hi]) (fun i hi=>mulT_bound hy hu hv hi)
  fun p hp i j hi hj=>(FW_swap hp hi hj u).mul (FW_swap hp hi hj v)
end
def eqOk (us vs ys : List Int) : Bool:=permOk us && permOk vs && decide (us.length=vs.length) && apOk us.length ys
def eqL (us vs ys : List Int) : List Cls × Bool:=if eqOk us vs ys then expE us.length (mulT us.length ys us vs) ys (ordL us.length) else ([],false)
theorem eqL_no {us vs ys : List Int} (h : eqOk us vs ys=false) : eqL us vs ys=([],false):=by unfold eqL;rw [h];rfl
theorem eqL_yes {us vs ys : List Int} (h : eqOk us vs ys=true) : eqL us vs ys=expE us.length (mulT us.length ys us vs) ys (ordL us.length):=by unfold eqL;rw [h];rfl
structure EqIs (n : Nat) (us vs ys : List Int) : Prop where
 y : YOk n ys
 u : P5 n us
 v : P5 n vs
theorem eqIs {us vs ys : List Int} (h : eqOk us vs ys=true) : EqIs us.length us vs ys:=by
 simp only [eqOk,Bool.and_eq_true,decide_eq_true_eq] at h
 obtain ⟨⟨⟨a,b⟩,c⟩,d⟩:=h
 have hy:=yOk d
 exact ⟨hy,⟨a,rfl,by have:=hy.four;omega⟩,⟨b,c.symm,by have:=hy.four;omega⟩⟩
section
variable {n : Nat} {ys : List Int}
theorem pm_mem (h1 : 1≤n) (h4 : n≤4) {u : List Int} (hu : P5 n u) : ∃ x,x < fact n∧pmA n x=u:=by
 obtain ⟨x,hx,e⟩:=List.mem_iff_getElem.1 (((aL h1 h4).mem u).2 hu)
 rw [permsL_length] at hx
 refine ⟨x,hx,?_⟩
 unfold pmA
 rw [List.getD_eq_getElem?_getD,List.getElem?_eq_getElem (by rw [permsL_length];exact hx)]
 exact e
theorem pm_inj (h1 : 1≤n) (h4 : n≤4) {x y : Nat} (hx : x < fact n) (hy : y < fact n) (e : pmA n x=pmA n y) : x=y:=by
 have hn:=List.pairwise_iff_getElem.1 (aL h1 h4).nodup
 have g : ∀ x (h : x < fact n),pmA n x=(permsL n)[x]'(by rw [permsL_length];exact h):=fun x h=>by
  unfold pmA
  rw [List.getD_eq_getElem?_getD,List.getElem?_eq_getElem (by rw [permsL_length];exact h)];rfl
 rw [g x hx,g y hy] at e
 rcases Nat.lt_trichotomy x y with h | h | h
 ·exact absurd e (hn x y _ _ h)
 ·exact h
 ·exact absurd e.symm (hn y x _ _ h)
def lftC (n : Nat) (c : List Int→Int) (done : List Nat) (w : List Int) : Int:=if w ∈ done.map (pmA n) then 0 else c w
theorem lftC_snoc (c : List Int→Int) (done : List Nat) (x : Nat) (w : List Int) : lftC n c (done ++ [x]) w=if w=pmA n x then 0 else lftC n c done w:=by
 unfold lftC
 by_cases e : w=pmA n x
 ·rw [if_pos e,if_pos (by rw [List.map_append,List.mem_append,e];exact .inr List.mem_cons_self)]
 ·rw [if_neg e]
  by_cases h : w ∈ done.map (pmA n)
  ·rw [if_pos h,if_pos (by rw [List.map_append,List.mem_append];exact .inl h)]
  ·rw [if_neg h,if_neg (by
    rw [List.map_append,List.mem_append]
    rintro (h' | h')
    ·exact h h'
    ·exact e (by simpa using h'))]
theorem exGo_exp (hy : YOk n ys) {c : List Int→Int} (hc : ∀ x,x < fact n→(c (pmA n x)).natAbs≤1000000000) : ∀ (l done : List Nat) (rest : List Int) (out : List Cls),done ++ l=ordL n→rest.length=fact n →
 (∀ i,i < fact n→rest.getD i 0=sumF (fun w=>lftC n c done w * FW n ys w (pmA n i)) (permsL n)) →
 exGo n ys l rest out=some (out ++ (l.filter fun x=> !decide (c (pmA n x)=0)).map fun x=>(trimL (pmA n x),c (pmA n x)))
 | [],done,rest,out,_,_,_=>by rw [exGo];simp
 | x :: l,done,rest,out,hd,hl,hr=>by
   have OI:=ordIs hy.one hy.four
   have A:=aL hy.one hy.four
   have hp : (done ++ x :: l).Perm (List.range (fact n)):=by rw [hd];exact OI.perm
   have hnd : (done ++ x :: l).Nodup:=(List.Perm.nodup_iff hp).2 List.nodup_range
   have hx : x < fact n:=by simpa using hp.mem_iff.1 (List.mem_append_right _ List.mem_cons_self)
   have hlt : ∀ y ∈ done,y < fact n:=fun y hy=>by simpa using hp.mem_iff.1 (List.mem_append_left _ hy)
   have hpx:=pm_p5 hy hx
   have hxd : pmA n x ∉ done.map (pmA n):=fun h=>by
    obtain ⟨y,hyd,e⟩:=List.mem_map.1 h
    have:=pm_inj hy.one hy.four (hlt y hyd) hx e
    subst this
    exact (List.nodup_append.1 hnd).2.2 _ hyd _ List.mem_cons_self rfl
   have hasc : ∀ u,P5 n u→lnN u < lnN (pmA n x)→lftC n c done u=0:=fun u hu hlen=>by
    obtain ⟨y,hyF,e⟩:=pm_mem hy.one hy.four hu
    have hyo : y ∈ done ++ x :: l:=hp.mem_iff.2 (by simpa using hyF)
    rcases List.mem_append.1 hyo with h | h
    ·unfold lftC
     rw [if_pos (List.mem_map.2 ⟨y,h,e⟩)]
    ·exfalso
     have hpw:=OI.asc
     rw [← hd] at hpw
     have h2:=(List.pairwise_append.1 hpw).2.1
     rw [List.pairwise_cons] at h2
     rw [← e] at hlen
     rcases List.mem_cons.1 h with rfl | h
     ·exact absurd hlen (Nat.lt_irrefl _)
     ·have:=h2.1 y h
      exact absurd hlen (Nat.not_lt.2 this)
   have hcx : lftC n c done (pmA n x)=c (pmA n x):=by unfold lftC;rw [if_neg hxd]
   have hrx : rest.getD x 0=c (pmA n x) * (tbA n ys x).getD x 0:=by
    rw [hr x hx,sum_at hy.len hy.one hy.four hpx hasc,hcx,tb_at hy hx hx]
   have hT:=tb_ne hy hx
   have hq : qoA n ys rest x=c (pmA n x):=by
    unfold qoA
    rw [hrx]
    exact Int.mul_tdiv_cancel _ hT
   have hb:=hc x hx
   have hgood : ¬ badA n ys rest x:=by
    unfold badA
    rw [hq,hrx]
    omega
   have hd' : (done ++ [x]) ++ l=ordL n:=by rw [← hd];simp
   have hsum : ∀ i,i < fact n→sumF (fun w=>lftC n c (done ++ [x]) w * FW n ys w (pmA n i)) (permsL n)=rest.getD i 0 - c (pmA n x) * FW n ys (pmA n x) (pmA n i):=fun i hi=>by
    rw [hr i hi,← sumF_delta (v:=pmA n x) (fun w=>c w * FW n ys w (pmA n i)) A.nodup ((A.mem _).2 hpx),← sumF_sub]
    refine sumF_congr fun w _=> ?_
    rw [lftC_snoc]
    by_cases e : w=pmA n x
    ·rw [if_pos e,if_pos e,e,hcx];omega
    ·rw [if_neg e,if_neg e];omega
   rw [exGo,if_neg hgood,hq]
   by_cases h0 : c (pmA n x)=0
   ·rw [if_pos h0,List.filter_cons_of_neg (by simp [h0])]
    exact exGo_exp hy hc l (done ++ [x]) rest out hd' hl fun i hi=>by rw [hsum i hi,h0];omega
   ·rw [if_neg h0,List.filter_cons_of_pos (by simp [h0]),List.map_cons]
    rw [exGo_exp hy hc l (done ++ [x]) _ _ hd' (by rw [subL_length];exact hl) fun i hi=>by rw [subL_getD (by rw [hl];exact hi),hsum i hi,tb_at hy hx hi]]
    simp
theorem lftC_nil (c : List Int→Int) (w : List Int) : lftC n c [] w=c w:=by unfold lftC;simp
def sumC (n : Nat) (c : List Int→Int) : List Cls:=srtC (((ordL n).filter fun x=> !decide (c (pmA n x)=0)).map fun x=>(trimL (pmA n x),c (pmA n x)))
theorem expE_sum (hy : YOk n ys) {c f : List Int→Int} (h : Ex n ys f c) (hc : ∀ w,P5 n w→(c w).natAbs≤1000000000) {vs : List Int} (hl : vs.length=fact n) (hf : ∀ i,i < fact n→vs.getD i 0=f (pmA n i)) :
 expE n vs ys (ordL n)=(sumC n c,true):=by
 unfold expE
 rw [exGo_exp hy (fun x hx=>hc _ (pm_p5 hy hx)) (ordL n) [] vs [] rfl hl fun i hi=>by
  rw [hf i hi,h _ (pm_p5 hy hi)]
  exact sumF_congr fun w _=>by rw [lftC_nil]]
 rfl
theorem expE_prod (hy : YOk n ys) {u v : List Int} (hu : P5 n u) (hv : P5 n v) : ∃ c,Ex n ys (fun p=>FW n ys u p * FW n ys v p) c∧(∀ w,P5 n w→(c w).natAbs≤28 ^ lnN w)∧expE n (mulT n ys u v) ys (ordL n)=(sumC n c,true):=by
 obtain ⟨c,hc⟩:=Ex.prod hy.len hy.one hy.four u hv
 have hb : ∀ w,P5 n w→(c w).natAbs≤28 ^ lnN w:=fun w hw=>prod_bound hy.len hy.one hy.four hy.dst hy.nine _ w u v c rfl hw hu hv hc
 refine ⟨c,hc,hb,expE_sum hy hc (fun w hw=> ?_) (mulT_length n ys u v) fun i hi=>by rw [mulT_getD hi,tab_at hy hu hi,tab_at hy hv hi]⟩
 have h6 : lnN w≤6:=by
  have h1:=(wrd_at hw).2.2.2
  have h4:=hy.four
  have h2 : n * (n - 1)≤4 * 3:=Nat.mul_le_mul h4 (by omega)
  omega
 exact Nat.le_trans (hb w hw) (Nat.le_trans (Nat.pow_le_pow_right (by omega) h6) (by decide))
end
def cvK (v : List Int) (k : Nat) : List (List Int):=(List.range (k+1)).flatMap fun a=>((List.range v.length).filter fun b=>decide (k < b) && decide (lnN (swapL v a b)=lnN v+1)).map fun b=>swapL v a b
def upK (v : List Int) (k : Nat) : List (List Int):=(List.range (k+1)).flatMap fun i=>cvUp v i
def dnK (v : List Int) (k : Nat) : List (List Int):=(List.range (k+1)).flatMap fun i=>cvDn v i
structure CvIs (n : Nat) (v : List Int) (k : Nat) : Prop where
 perm : (upK v k).Perm (dnK v k ++ cvK v k)
 nodup : (cvK v k).Nodup
 p5 : ∀ u ∈ cvK v k,P5 n u∧u ≠ v
 id : cvK (idL n) k=[Go.Proofs.YtijadclebjcckaaGreat.sw k (idL n)]
section
variable {n : Nat} {ys : List Int}
end
def inC : List Cls→List Int→Int
 | [],_=>0
 | c :: cs,t=>if c.1=t then c.2 else inC cs t
section
variable {n : Nat} {ys : List Int}
theorem trim_inj (h1 : 1≤n) (h4 : n≤4) {u w : List Int} (hu : P5 n u) (hw : P5 n w) (h : trimL u=trimL w) : u=w:=by
 obtain ⟨x,hx,ex⟩:=pm_mem h1 h4 hu
 obtain ⟨y,hy,ey⟩:=pm_mem h1 h4 hw
 have hn:=List.pairwise_iff_getElem.1 (trim_nodup h1 h4)
 have key : ∀ a b,a < b→b < fact n→trimL (pmA n a) ≠ trimL (pmA n b):=fun a b hab hb=>by
  have:=hn a b (by simp;omega) (by simp;omega) hab
  simpa using this
 rw [← ex,← ey] at h ⊢
 rcases Nat.lt_trichotomy x y with hxy | hxy | hxy
 ·exact absurd h (key x y hxy hy)
 ·rw [hxy]
 ·exact absurd h.symm (key y x hxy hx)
theorem perms_map (n : Nat) : (List.range (fact n)).map (pmA n)=permsL n:=by
 apply List.ext_getElem?
 intro i
 rw [List.getElem?_map]
 by_cases hi : i < fact n
 ·rw [List.getElem?_range hi,Option.map_some]
  unfold pmA
  rw [List.getD_eq_getElem?_getD,List.getElem?_eq_getElem (by rw [permsL_length];exact hi)];rfl
 ·rw [List.getElem?_eq_none (by simp;omega),List.getElem?_eq_none (by rw [permsL_length];omega)];rfl
end
def isnS (k n : Nat) (s : List Int) (now : List Cls) : List Cls:=now.foldl (fun nx p=>(filL p.1 s k ((n - k : Nat) : Int)).foldl (fun nx x=>sumdL x.1 (p.2 * x.2) nx) nx) []
def isnL (k n : Nat) (ss : List (List Int)) : List Cls:=ss.foldl (fun now s=>isnS k n s now) [([],1)]
def blkL (k n : Nat) : List Int:=if n=k then [] else List.replicate k ((n - k : Nat) : Int)
def wrX (sh : List Int) (k i : Nat) : Int:=sh.getD i 0+(k : Int) - 1 - (i : Int)
def wrE (sh : List Int) (k n : Nat) : List Int:=(List.range k).map fun i=>wrX sh k i % (n : Int)
def wrP (sh : List Int) (k n : Nat) : Nat→Int
 | 0=>0
 | i+1=>wrP sh k n i+wrX sh k i / (n : Int)
def wrC (e : List Int) (j : Nat) : Nat→Int
 | 0=>0
 | i+1=>if e.getD i 0 < e.getD j 0 then wrC e j i+1 else wrC e j i
def wrD (e : List Int) (j : Nat) : Nat→Bool
 | 0=>true
 | i+1=>wrD e j i && !decide (e.getD i 0=e.getD j 0)
def wrCs (e : List Int) : Nat→Int
 | 0=>0
 | j+1=>wrCs e j+wrC e j j
def wrDs (e : List Int) : Nat→Bool
 | 0=>true
 | j+1=>wrDs e j && wrD e j j
def wrL (sh : List Int) (k n : Nat) : List Int :=
 let e:=(srtZ (wrE sh k n)).reverse
 shL ((List.range k).map fun i=>e.getD i 0 - ((k : Int) - 1 - (i : Int)))
def wrS (sh : List Int) (k n : Nat) : Int:=1 - (((k : Int) - 1) * wrP sh k n k+wrCs (wrE sh k n) k) % 2 * 2
def wrB (sh : List Int) (k n : Nat) : Bool:=wrDs (wrE sh k n) k
def quS (k n : Nat) (x : Cls) (out : List Cls) : List Cls:=if wrB x.1 k n=true then sumdL (wrP x.1 k n k :: wrL x.1 k n) (wrS x.1 k n * x.2) out else out
def quL (a b : List Int) (k n : Nat) : List Cls:=(filL a b k 14).foldl (fun out x=>quS k n x out) []
def gwL (a b c : List Int) (k n : Nat) (d : Int) : Int:=inC ((quL a b k n).filter fun x=> !decide (x.2=0)) (d :: c)
theorem bx_facts {xs : List Int} {r c : Nat} (h : bxOk xs r c=true) (hrc : r≤c) : ∀ i,i < r→0≤xs.getD i 0∧xs.getD i 0≤(c : Int) - (r : Int):=by
 unfold bxOk at h
 simp only [Bool.and_eq_true,decide_eq_true_eq] at h
 obtain ⟨⟨h1,h2⟩,h3⟩:=h
 obtain ⟨hl,hs⟩:=shOk_facts h1
 have hmon : ∀ i,i < xs.length→xs.getD i 0≤xs.getD 0 0:=by
  intro i
  induction i with
  | zero=>exact fun _=>Int.le_refl _
  | succ i ih =>
    intro hi
    have a:=ih (by omega)
    have b:=(hs (i+1) hi).2.2 (by omega)
    rw [Nat.add_sub_cancel] at b
    omega
 intro i hi
 by_cases e : i < xs.length
 ·have a:=hmon i e
  have b:=(hs i e).1
  omega
 ·have : xs.getD i 0=0:=by simp [List.getD_eq_getElem?_getD,Nat.le_of_not_lt e]
  rw [this]
  omega
def gpA (sh : List Int) (k i : Nat) : List Int:=(List.range i).map fun (t : Nat)=>(t : Int)+sh.getD (k - 1 - t) 0
def gpB (A : List Int) (n : Nat) : List Int:=((List.range n).filter fun (x : Nat)=>decide (¬ (x : Int) ∈ A)).map fun (x : Nat)=>(x : Int)
def gpW (sh : List Int) (k n : Nat) : List Int:=gpA sh k k ++ gpB (gpA sh k k) n
theorem gpA_length (sh : List Int) (k i : Nat) : (gpA sh k i).length=i:=by simp [gpA]
theorem gpA_succ (sh : List Int) (k i : Nat) : gpA sh k (i+1)=gpA sh k i ++ [(i : Int)+sh.getD (k - 1 - i) 0]:=by simp [gpA,List.range_succ]
theorem gpA_getD {sh : List Int} {k i t : Nat} (h : t < i) : (gpA sh k i).getD t 0=(t : Int)+sh.getD (k - 1 - t) 0:=by simp [gpA,List.getD_eq_getElem?_getD,h]
theorem gpB_len (A : List Int) (n : Nat) : (gpB A n).length≤n:=by
 unfold gpB
 rw [List.length_map]
 exact Nat.le_trans (List.length_filter_le _ _) (by simp)
theorem gpB_no {A : List Int} {n : Nat} (h : (n : Int) ∈ A) : gpB A (n+1)=gpB A n:=by
 unfold gpB
 rw [List.range_succ,List.filter_append,List.map_append]
 simp [h]
theorem gpB_yes {A : List Int} {n : Nat} (h : ¬ (n : Int) ∈ A) : gpB A (n+1)=gpB A n ++ [(n : Int)]:=by
 unfold gpB
 rw [List.range_succ,List.filter_append,List.map_append]
 simp [h]
theorem GrassmannianPerm_any (v : Value) (sh : List Int) (k n : Nat) (w : World) (h : Ints w v sh) (hx : bxOk sh k n=true) (hkn : k≤n) (hn1 : 1≤n) (hn7 : n≤7) :
 Calls Tryz.prog 10 #[v,.int .i64 (k : Int),.int .i64 (n : Int)] w (RetI w (gpW sh k n)):=by
 have Hh:=Lib.hid h
 have Hx:=Lib.hid hx
 have Hr:=Lib.hid (bx_facts hx hkn)
 obtain ⟨p,cap,rfl,⟨hx1,hx2⟩,hxc⟩:=h
 unfold maxLen at hx2
 clear hx hxc
 go_enter Tryz.func10,Tryz.ntmps10
 go_wp2_with fail
 refine (IsInBox_any _ sh k n _ Hh.out hkn hn1 hn7).mono ?_
 rintro e w1 ⟨rfl,hq1⟩
 rw [Hx.out]
 have HQ1:=Lib.hid hq1
 have hs1:=hq1.size
 clear hq1
 go_wp2_with fail
 go_loopg [7,8,17] k (fun g s7 s8 s17 wr=> ∃ i : Nat,i≤k∧g=k - i∧s17=.int .i64 i∧Hid (OwnI 3 wr w.heap.size wr.heap.size s7 (gpA sh k i))∧Hid (Below w.heap.size w wr))
 case atStart =>
  refine ⟨0,Nat.zero_le _,rfl,rfl,?_,Lib.hid ((HQ1.out.below _).trans ((below_alloc w1 _).mono (by omega)))⟩
  have:=(OwnF.ints (xs:=[]) (OwnF.made0 w1 3 (iv []))).mono (lo':=w.heap.size) (hi':=(w1.alloc (.cells #[] 3)).heap.size) (by omega) (by simp)
  rw [hs1] at this
  exact Lib.hid this
 case round =>
  obtain ⟨i,hi,rfl,rfl,ho,hb⟩:=hrel
  have hsr:=hb.out.size
  by_cases hlt : i < k
  ·have hlt2 : (i : Int) < (k : Int):=by omega
   obtain ⟨j,hj⟩ : ∃ j,j=k - 1 - i:=⟨_,rfl⟩
   have hji : (k : Int) - 1 - (i : Int)=(j : Int):=by omega
   obtain ⟨s,hs⟩ : ∃ s,s=sh.getD j 0:=⟨_,rfl⟩
   have hsb:=Hr.out j (by omega)
   rw [← hs] at hsb
   have Hs:=Lib.hid hs
   have Hj:=Lib.hid hj
   have Hji:=Lib.hid hji
   have Hn:=Lib.hid (show gpA sh k (i+1)=gpA sh k i ++ [(i : Int)+s] by rw [gpA_succ,hs,hj])
   obtain ⟨q7,k7,e7,_,_⟩:=ho.out.shape
   rw [gpA_length] at e7
   subst e7
   have hofn:=ho.out.fn
   rw [gpA_length] at hofn
   have Ho:=Lib.hid hofn
   have Hb1:=Lib.hid (show i+1≤maxLen by unfold maxLen;omega)
   have Hb2:=Lib.hid (show (i+1) * 8≤140737488355328 by omega)
   clear hs hj hji ho hofn
   go_wp2_with fail
   rw [Hji.out]
   refine (rowOf_s2 _ sh j s Hs.out (by have:=Hj.out;omega) _ (Hh.out.below hb.out)).mono ?_
   rintro e w2 ⟨rfl,hq⟩
   have HQ:=Lib.hid hq
   have hsq:=hq.size
   clear hq
   go_wp2_with (at_builtin;go_must (refine wpList_append_F rfl (.tmp 20) (.tmp 29) 24 rfl 3 (.int .i64 0) 8 Tryz.underlying24 info_int rfl w.heap.size wr.heap.size _ i (iv (gpA sh k i)) rfl ((Ho.out.below (HQ.out.below _)).below (below_alloc _ _)) (by rw [size_alloc];omega) (by rw [size_alloc];omega) _ 1 _ rfl (rd_one _ _ _ HQ.out.size.symm) (fun j _=>rfl) Hb1.out Hb2.out ?_;intro v2 w3 ho2 hg2))
   go_roundg (k - (i+1))
   case measure=>omega
   case rel =>
    have hbx : Below w.heap.size wr w3:=((HQ.out.below _).trans ((below_alloc w2 _).mono (by omega))).trans (grownBy_below hg2 Ho.out.blocks (Nat.le_refl _) (by rw [size_alloc];omega))
    refine ⟨i+1,by omega,rfl,by go_num,?_,Lib.hid (hb.out.trans hbx)⟩
    rw [Hn.out]
    exact Lib.hid (OwnI.snoc1 (by rw [gpA_length];exact ho2))
  ·obtain rfl : i=k:=by omega
   have hlt2 : ¬ (i : Int) < (i : Int):=by omega
   obtain ⟨A,hA⟩ : ∃ A,A=gpA sh i i:=⟨_,rfl⟩
   have hAl : A.length=i:=by rw [hA,gpA_length]
   rw [← hA] at ho
   have HA:=Lib.hid hA
   have HAl:=Lib.hid hAl
   have Ho0:=Lib.hid ho.out
   obtain ⟨q7,k7,e7,_,_⟩:=ho.out.shape
   rw [hAl] at e7
   subst e7
   have Hb0:=Lib.hid hb.out
   clear hA hAl ho hb
   go_wp2_with fail
   obtain ⟨wa,rfl⟩ : ∃ x : World,x=wr:=⟨_,rfl⟩
   go_loopg [7,9,33] n (fun g s7 s9 s33 wr=> ∃ x : Nat,x≤n∧g=n - x∧s33=.int .i64 x∧Hid (OwnI 3 wr w.heap.size wr.heap.size s7 (A ++ gpB A x))∧Hid (Below w.heap.size w wr))
   case atStart=>exact ⟨0,Nat.zero_le _,rfl,rfl,by rw [show A ++ gpB A 0=A by simp [gpB]];exact Ho0,Hb0⟩
   case round =>
    obtain ⟨x,hxn,rfl,rfl,ho,hb⟩:=hrel
    have hsr:=hb.out.size
    obtain ⟨L,hL⟩ : ∃ L,L=A ++ gpB A x:=⟨_,rfl⟩
    have hLl : L.length≤14:=by rw [hL,List.length_append,HAl.out];have:=gpB_len A x;omega
    have hLi : i≤L.length:=by rw [hL,List.length_append,HAl.out];omega
    have hLt : L.take i=A:=by rw [hL,List.take_append_of_le_length (by rw [HAl.out];exact Nat.le_refl _),List.take_of_length_le (by rw [HAl.out];exact Nat.le_refl _)]
    rw [← hL] at ho
    have HL:=Lib.hid hL
    have Ho:=Lib.hid ho.out
    have HLt:=Lib.hid hLt
    obtain ⟨N,hN⟩ : ∃ N,N=L.length:=⟨_,rfl⟩
    obtain ⟨q8,k8,e8,hc8,hm8⟩:=ho.out.shape
    rw [← hN] at e8 hc8 hLl hLi
    unfold maxLen at hm8
    subst e8
    have hI:=ho.out.ints
    rw [hN] at hI
    have HI:=Lib.hid (show Ints wr (.slice q8 i k8) A by rw [← HLt.out];exact ints_takeP hI (by rw [← hN];exact hLi))
    have hofn:=ho.out.fn
    rw [← hN] at hofn
    have Hof:=Lib.hid hofn
    have HN:=Lib.hid hN
    clear hL hLt ho hI hofn hN
    by_cases hxlt : x < n
    ·have hx3 : (x : Int) < (n : Int):=by omega
     have hi3 : (i : Int)≤(k8 : Int):=by omega
     go_wp2_with fail
     refine (contains_any _ A x _ HI.out).mono ?_
     rintro e w2 ⟨rfl,hq⟩
     have hsq:=hq.size
     by_cases hc : (x : Int) ∈ A
     ·rw [decide_eq_true hc]
      have Hn:=Lib.hid (show A ++ gpB A (x+1)=L by rw [gpB_no hc,HL.out])
      have Ho2:=Lib.hid (Ho.out.below (hq.below _))
      have Hb2:=Lib.hid (hb.out.trans (hq.below _))
      clear hc hq
      go_wp2_with fail
      go_roundg (n - (x+1))
      case measure=>omega
      case rel=>exact ⟨x+1,by omega,rfl,by go_num,by rw [Hn.out,hsq];exact Ho2,Hb2⟩
     ·rw [decide_eq_false hc]
      have Hn:=Lib.hid (show A ++ gpB A (x+1)=L ++ [(x : Int)] by rw [gpB_yes hc,← List.append_assoc,HL.out])
      have HQ:=Lib.hid hq
      have Hc1:=Lib.hid (show N+1≤maxLen by unfold maxLen;omega)
      have Hc2:=Lib.hid (show (N+1) * 8≤140737488355328 by omega)
      clear hc hq
      go_wp2_with (at_builtin;go_must (refine wpList_append_F rfl (.tmp 42) (.tmp 44) 24 rfl 3 (.int .i64 0) 8 Tryz.underlying24 info_int rfl w.heap.size wr.heap.size _ N (iv L) rfl ((Hof.out.below (HQ.out.below _)).below (below_alloc _ _)) (by rw [size_alloc];omega) (by rw [size_alloc];omega) _ 1 _ rfl (rd_one _ _ _ HQ.out.size.symm) (fun j _=>rfl) Hc1.out Hc2.out ?_;intro v2 w3 ho2 hg2))
      go_roundg (n - (x+1))
      case measure=>omega
      case rel =>
       have hbx : Below w.heap.size wr w3:=((HQ.out.below _).trans ((below_alloc w2 _).mono (by omega))).trans (grownBy_below hg2 Hof.out.blocks (Nat.le_refl _) (by rw [size_alloc];omega))
       refine ⟨x+1,by omega,rfl,by go_num,?_,Lib.hid (hb.out.trans hbx)⟩
       rw [Hn.out]
       exact Lib.hid (OwnI.snoc1 (by rw [← HN.out];exact ho2))
    ·obtain rfl : x=n:=by omega
     have hx3 : ¬ (x : Int) < (x : Int):=by omega
     go_wp2_with fail
     go_ret
     refine ⟨_,rfl,?_,hb.out⟩
     unfold gpW
     rw [← HA.out,← HL.out]
     exact Ho.out
def DCh : Int→List Int→Prop
 | _,[]=>True
 | m,x :: l=>1≤x∧x≤m∧DCh x l
theorem dch_of : ∀ (xs : List Int) (m : Int),(∀ j,j < xs.length→1≤xs.getD j 0∧(0 < j→xs.getD j 0≤xs.getD (j - 1) 0))→(0 < xs.length→xs.getD 0 0≤m)→DCh m xs
 | [],_,_,_=>trivial
 | x :: l,m,h,hm=>by
   have h0:=(h 0 (by simp)).1
   have hx:=hm (by simp)
   simp only [List.getD_cons_zero] at h0 hx
   refine ⟨h0,hx,dch_of l x (fun j hj=> ?_) fun hl=> ?_⟩
   ·have:=h (j+1) (by simpa using hj)
    simp only [List.getD_cons_succ] at this
    refine ⟨this.1,fun hj0=> ?_⟩
    have h2:=this.2 (by omega)
    rw [show j+1 - 1=(j - 1)+1 by omega,List.getD_cons_succ] at h2
    exact h2
   ·have:=(h 1 (by simpa using hl)).2 (by omega)
    simpa using this
theorem dch_mem : ∀ (r m : Nat) (xs : List Int),DCh (m : Int) xs→xs.length≤r→xs ∈ ishs r m
 | 0,m,[],_,_=>by simp [ishs]
 | 0,m,_ :: _,_,h=>by simp at h
 | r+1,m,[],_,_=>by simp [ishs]
 | r+1,m,x :: l,h,hl=>by
   obtain ⟨h1,h2,h3⟩:=h
   rw [ishs]
   refine List.mem_cons_of_mem _ (List.mem_flatMap.2 ⟨x.toNat - 1,by simp;omega,List.mem_map.2 ⟨l,dch_mem r _ l ?_ (by simpa using hl),?_⟩⟩)
   ·rw [show ((x.toNat - 1+1 : Nat) : Int)=x by omega];exact h3
   ·rw [show ((x.toNat - 1 : Nat) : Int)+1=x by omega]
theorem bx_mem {sh : List Int} {k n : Nat} (h : bxOk sh k n=true) (hk : k≤n) : sh ∈ ishs k (n - k):=by
 unfold bxOk at h
 simp only [Bool.and_eq_true,decide_eq_true_eq] at h
 obtain ⟨⟨h1,h2⟩,h3⟩:=h
 obtain ⟨_,hs⟩:=shOk_facts h1
 refine dch_mem _ _ _ (dch_of _ _ (fun j hj=>⟨(hs j hj).1,(hs j hj).2.2⟩) fun _=>by omega) h2
def growL (t : List Int) (n : Nat) : List Int:=t ++ (List.range (n - t.length)).map fun (i : Nat)=>((t.length+i : Nat) : Int)
def grB (k n : Nat) (w : List Int) : Bool:=(List.range (n - 1)).all fun j=>decide (j+1=k) || ascB j w
def shpB (n k : Nat) : Bool :=
 ((permsL n).filter (grB k n)).isPerm ((ishs k (n - k)).map fun sh=>gpW sh k n) &&
 ((ishs k (n - k)).all fun sh=>permOk (gpW sh k n) && decide ((gpW sh k n).length=n) && decide (growL (trimL (gpW sh k n)) n=gpW sh k n) && decide (shL ((List.range k).map fun (i : Nat)=>(gpW sh k n).getD (k - 1 - i) 0 - ((k - 1 - i : Nat) : Int))=sh) && decide (sh.length≤4) && bxOk sh k n) &&
 decide ((ishs k (n - k)).Pairwise fun a b=>ltB a b=true) && decide ((ishs k (n - k)).length≤6)
def shpB4 (n : Nat) : Bool:=(List.range (n+1)).all fun k=>shpB n k
theorem shp_dec : ∀ n : Fin 4,shpB4 (n.val+1)=true:=by decide +kernel
structure ShpIs (n k : Nat) : Prop where
 perm : ((permsL n).filter (grB k n)).Perm ((ishs k (n - k)).map fun sh=>gpW sh k n)
 p5 : ∀ sh ∈ ishs k (n - k),P5 n (gpW sh k n)
 grow : ∀ sh ∈ ishs k (n - k),growL (trimL (gpW sh k n)) n=gpW sh k n
 back : ∀ sh ∈ ishs k (n - k),shL ((List.range k).map fun (i : Nat)=>(gpW sh k n).getD (k - 1 - i) 0 - ((k - 1 - i : Nat) : Int))=sh
 short : ∀ sh ∈ ishs k (n - k),sh.length≤4
 box : ∀ sh ∈ ishs k (n - k),bxOk sh k n=true
 asc : (ishs k (n - k)).Pairwise fun a b=>ltB a b=true
 six : (ishs k (n - k)).length≤6
theorem shpIs {n k : Nat} (h1 : 1≤n) (h4 : n≤4) (hk : k≤n) : ShpIs n k:=by
 have:=shp_dec ⟨n - 1,by omega⟩
 rw [show (⟨n - 1,by omega⟩ : Fin 4).val+1=n by simp;omega] at this
 simp only [shpB4,List.all_eq_true,List.mem_range] at this
 have:=this k (by omega)
 simp only [shpB,Bool.and_eq_true,List.all_eq_true,decide_eq_true_eq] at this
 obtain ⟨⟨⟨a,b⟩,c⟩,d⟩:=this
 exact ⟨List.isPerm_iff.1 a,fun sh hs=>⟨(b sh hs).1.1.1.1.1,(b sh hs).1.1.1.1.2,by omega⟩,fun sh hs=>(b sh hs).1.1.1.2,fun sh hs=>(b sh hs).1.1.2,fun sh hs=>(b sh hs).1.2,fun sh hs=>(b sh hs).2,c,d⟩
end
end Go.Proofs.YtijadclebjcckaaGreat
