/-
  A part of the proof of FnTop (texts of one proof, joined).
-/
import Derived.Test.YtijadclebjcckaaGreatJ15
namespace Go.Proofs.YtijadclebjcckaaGreat
set_option linter.all false
set_option maxRecDepth 100000
set_option maxHeartbeats 16000000
section
open Go.RowKit Go.Lib
theorem OwnI.setF {T : TypeId} {w : World} {lo hi g n cap t : Nat} {D : List Int} (h : OwnI T w lo hi (.slice (some ⟨g,0,none⟩) n cap) D) (ht : t < D.length) (x : Int) : OwnI T (w.setCell ⟨g,t,none⟩ (.int .i64 x)) lo hi (.slice (some ⟨g,0,none⟩) n cap) (D.set t x):=by
 refine OwnF.ints ?_
 rw [List.length_set]
 refine (h.fn.set t _).congr fun j hj=> ?_
 unfold iv
 by_cases e : j=t
 ·subst e;simp [List.getD_eq_getElem?_getD,ht]
 ·simp [e,List.getD_eq_getElem?_getD,List.getElem?_set_ne (fun h=>e h.symm)]
theorem OwnI.head {T : TypeId} {w : World} {lo hi : Nat} {v : Value} {xs : List Int} (h : OwnI T w lo hi v xs) (h0 : 0 < xs.length) : ∃ g cap,v=.slice (some ⟨g,0,none⟩) xs.length cap∧xs.length≤cap∧cap≤maxLen∧lo≤g∧g < hi ∧ ∀ j,w.frozen? ⟨g,j,none⟩=false:=by
 rcases h.1.2 with ⟨e,_⟩ | ⟨g,cap,cur,e,hl,hz,h1,h2,_⟩
 ·obtain ⟨p,c,e2,_⟩:=h.ints
  rw [e] at e2
  injection e2 with _ e3
  omega
 ·exact ⟨g,cap,e,h1,h2,hl,h.2 g (by rw [e];rfl),fun j=>free_of_blk hz j⟩
theorem OwnI.cellF {T : TypeId} {w : World} {lo hi g n cap : Nat} {xs : List Int} (h : OwnI T w lo hi (.slice (some ⟨g,0,none⟩) n cap) xs) {j : Nat} (hj : j < xs.length) : w.cell? ⟨g,j,none⟩=some (.int .i64 (xs.getD j 0)):=by
 obtain ⟨p,c,e,_,hc⟩:=h.ints
 obtain ⟨b,o,e2,hq⟩:=hc (by omega)
 injection e with e3
 rw [← e3] at e2
 injection e2 with e2
 injection e2 with e4 e5
 have:=hq j hj
 rw [← e4,← e5,Nat.zero_add] at this
 exact this
def unBad (u : Option (List Int)) (r : Nat) (x : Int) : Bool:=match u with
 | none=>false
 | some l=>decide (l.getD r 0 < x)
theorem unBad_some (l : List Int) (r : Nat) (x : Int) : unBad (some l) r x=decide (l.getD r 0 < x):=rfl
theorem layOk_not (old : List Int) (most : Int) (u : Option (List Int)) (put : List Int) (r k : Nat) : (!layOk old most u put r k)=((decide (0 < r) && decide (old.getD (r - 1) 0 < old.getD r 0+(k : Int))) || decide (most < old.getD r 0+(k : Int)) || unBad u r (sumI (put.take r)+(k : Int))):=by
 unfold layOk
 rw [Bool.not_not]
 cases u <;> rfl
section
variable {wB : World} {lo lo2 bo rows : Nat} {most : Int}
theorem lay_row (f : Nat) (ih : LayC wB lo lo2 bo rows most f) (sh ct old : List Int) (r left : Nat) (u : Option (List Int)) (put : List Int) (cs : List Cls) (m : Nat) (w : World) (vs vc vo vu vp : Value) (hP : LayP rows most sh ct old r left u put) (hr : r < rows) (hf : ct.length * (rows+1)≤f+1+r)
 (hE : Env wB lo lo2 bo cs m w) (hs : IntsK wB.heap.size w vs sh) (hc : IntsK wB.heap.size w vc ct) (ho : IntsK wB.heap.size w vo old) (hu : UnR wB.heap.size w vu u) (hp : IntsK wB.heap.size w vp put)
 (M : Nat) (hM1 : M≤left+1) (hM2 : ∀ j,j < M→layOk old most u put r j=true) (hM3 : M=left+1 ∨ layOk old most u put r M=false) (hm : m+(upTo (rowL most f sh ct old r left u put) M).length < 1000) :
 Calls Tryz.prog 58 #[vs,vc,vo,.int .i64 (r : Int),.int .i64 (left : Int),vu,vp,.int .i64 most,.func (.func 53) #[] #[.pointer (some ⟨bo,0,none⟩)]] w fun e w' =>
  e=.returned (.tuple #[])∧Env wB lo lo2 bo (cntL (upTo (rowL most f sh ct old r left u put) M) cs) (m+(upTo (rowL most f sh ct old r left u put) M).length) w'∧FrX lo (fun k=>k=bo) w w':=by
 obtain ⟨F,hF⟩ : ∃ F,F=rowL most f sh ct old r left u put:=⟨_,rfl⟩
 rw [← hF] at hm ⊢
 have hls:=hP.ls
 have hlo:=hP.lo
 have hlp:=hP.lp
 have h16:=hP.r16
 have hbl:=hP.bl
 have hbm:=hP.bm
 have hkeep:=hE.out
 have HN:=Lib.hid (show ∀ (k : Nat) (wo WX : World) (us up : Value),k < M→k≤left→Env wB lo lo2 bo (cntL (upTo F k) cs) (m+(upTo F k).length) wo→FrX lo (fun k=>k=bo) w wo→Below wo.heap.size wo WX→IntsK wB.heap.size WX us (sh.set r (sh.getD r 0+(k : Int)))→IntsK wB.heap.size WX up (put.set r (k : Int)) →
  Calls Tryz.prog 58 #[us,vc,vo,.int .i64 ((r : Int)+1),.int .i64 ((left : Int) - (k : Int)),vu,up,.int .i64 most,.func (.func 53) #[] #[.pointer (some ⟨bo,0,none⟩)]] WX fun e w' =>
   e=.returned (.tuple #[])∧Env wB lo lo2 bo (cntL (upTo F (k+1)) cs) (m+(upTo F (k+1)).length) w'∧FrX lo (fun k=>k=bo) w w' from fun k wo WX us up hkM hkl hEo hFo hb h1 h2=>by
  have hzb : ∃ c fz,w.heap[bo]?=some (.cells c 27 fz):=by obtain ⟨q,e,_⟩:=hE.out;exact ⟨_,_,e⟩
  have hle:=upTo_le F (show k+1≤M from hkM)
  have hup:=upTo_succ F k
  rw [hup,List.length_append] at hle
  have hFk : F k=layL most f (sh.set r (sh.getD r 0+(k : Int))) ct old (r+1) (left - k) u (put.set r (k : Int)):=by rw [hF];rfl
  have:=ih (sh.set r (sh.getD r 0+(k : Int))) ct old (r+1) (left - k) u (put.set r (k : Int)) (cntL (upTo F k) cs) (m+(upTo F k).length) WX us vc vo vu up (hP.next hr hkl (hM2 k hkM)) (by omega) (hEo.below hb) h1
   ((hc.frx hFo hE.wb_lo hE.wb_le hzb).below hb) ((ho.frx hFo hE.wb_lo hE.wb_le hzb).below hb) ((hu.frx hFo hE.wb_lo hE.wb_le hzb).below hb) h2 (by rw [← hFk];omega)
  rw [← hFk,← cntL_append,← hup,Nat.add_assoc,← List.length_append,← hup,show ((left - k : Nat) : Int)=(left : Int) - (k : Int) by omega,show ((r+1 : Nat) : Int)=(r : Int)+1 by omega] at this
  exact this.mono fun e w' ⟨he,hE',hF'⟩=>⟨he,hE',(hFo.trans (FrX.of_below hb)).trans hF'⟩)
 have hput:=hP.putOk
 have hsum:=sumTo2_bnd (fun i hi=>hP.bp i hi) r (by omega)
 have hzb : ∃ c fz,w.heap[bo]?=some (.cells c 27 fz):=by obtain ⟨q,e,_⟩:=hE.out;exact ⟨_,_,e⟩
 have HKs:=Lib.hid (show ∀ wo,FrX lo (fun k=>k=bo) w wo→IntsK wB.heap.size wo vs sh from fun wo h=>hs.frx h hE.wb_lo hE.wb_le hzb)
 have HKo:=Lib.hid (show ∀ wo,FrX lo (fun k=>k=bo) w wo→IntsK wB.heap.size wo vo old from fun wo h=>ho.frx h hE.wb_lo hE.wb_le hzb)
 have HKp:=Lib.hid (show ∀ wo,FrX lo (fun k=>k=bo) w wo→IntsK wB.heap.size wo vp put from fun wo h=>hp.frx h hE.wb_lo hE.wb_le hzb)
 have HKu:=Lib.hid (show ∀ wo,FrX lo (fun k=>k=bo) w wo→UnR wB.heap.size wo vu u from fun wo h=>hu.frx h hE.wb_lo hE.wb_le hzb)
 have HS:=Lib.hid (show ∀ pp kp,vp=.slice pp rows kp→Calls Tryz.prog 60 #[.slice pp r kp] w fun e w'=>e=.returned (.int .i64 (sumTo2 put r))∧Qt w w' from fun pp kp e=>by
  have hi:=hp.ints
  rw [e,← hlp] at hi
  have h:=Ints.take hi r (by omega)
  rw [← sumI_take (by omega)]
  exact sumInts_any _ (put.take r) w h ⟨by rw [List.length_take];have:=hput.1;omega,fun k hk=>by
   rw [List.length_take] at hk
   have:=hput.2 k (by omega)
   rw [show (put.take r).getD k 0=put.getD k 0 by simp [List.getD_eq_getElem?_getD,List.getElem?_take,show k < r by omega]]
   exact this⟩)
 obtain ⟨ps,ks,rfl,hs1,hs2⟩:=hs.shape
 obtain ⟨pc,kc,rfl,_,_⟩:=hc.shape
 obtain ⟨po,ko,rfl,ho1,ho2⟩:=ho.shape
 obtain ⟨pp,kp,rfl,hp1,hp2⟩:=hp.shape
 rw [hls] at HKs hs1 ⊢
 rw [hlo] at HKo ho1 HN ⊢
 rw [hlp] at HKp HS hp1 ⊢
 have HS:=Lib.hid (HS.out pp kp rfl)
 obtain ⟨bf,hbf⟩ : ∃ bf,bf=sumTo2 put r:=⟨_,rfl⟩
 rw [← hbf] at HS hsum
 have Hbf:=Lib.hid hbf
 have hrr : (r : Int) < (rows : Int):=by omega
 have hrz : (r : Int)≤(kp : Int):=by omega
 have hrne : ((r : Int) == (rows : Int))=false:=by simp;omega
 have HE:=Lib.hid hE
 have HP:=Lib.hid hP
 have HM1:=Lib.hid hM1
 have HM2:=Lib.hid hM2
 have HM3:=Lib.hid hM3
 have Hls:=Lib.hid hls
 have Hlo:=Lib.hid hlo
 have Hlp:=Lib.hid hlp
 unfold maxLen at hs2 ho2 hp2
 clear hkeep hput hzb hE hP hs hc ho hu hp hM1 hM2 hM3 hm hF ih hf hls hlo hlp hbf
 go_enter Tryz.func58,Tryz.ntmps58
 go_wp2_with fail
 refine HS.out.mono ?_
 rintro e w1 ⟨rfl,hq1⟩
 have Hq1:=Lib.hid hq1
 clear hq1
 go_wp2_with fail
 go_loopg [23,24,25] (left+1) (fun g s23 s24 s25 wr=> ∃ k : Nat,k≤M∧g=left+1 - k∧s23=.int .i64 (k : Int)∧Hid (Env wB lo lo2 bo (cntL (upTo F k) cs) (m+(upTo F k).length) wr)∧Hid (FrX lo (fun k=>k=bo) w wr))
 case atStart=>exact ⟨0,Nat.zero_le _,rfl,rfl,HE.out.below (Hq1.out.below _),FrX.of_below (Hq1.out.below _)⟩
 case round =>
  obtain ⟨k,hk,rfl,rfl,hEw,hFw⟩:=hrel
  obtain ⟨wo,rfl⟩ : ∃ x : World,x=wr:=⟨_,rfl⟩
  by_cases hkl : k≤left
  ·have hkli : (k : Int)≤(left : Int):=by omega
   have hkz : (k : Int)≤1000:=by omega
   obtain ⟨bl,hbl⟩ : ∃ b,b=layOk old most u put r k:=⟨_,rfl⟩
   have Hbl:=Lib.hid hbl
   clear hbl
   go_upto_region 17 with fail
   go_cut [119] from 80 to 119 (fun s119 wc=>s119=.bool (!bl)∧Qt wo wc)
   case first =>
    obtain ⟨_,_,e,_,hcp⟩:=HKo.out wo hFw.out
    injection e with e1 e2 e3
    subst e1 e3
    obtain ⟨b3,o3,rfl,_,hcq⟩:=hcp (by rw [Hlo.out];omega)
    have HU:=Lib.hid (HKu.out wo hFw.out)
    have hbo:=HP.out.bo
    have cA:=hcq r (by rw [Hlo.out];omega)
    have hbA:=hbo r hr
    unfold iv at cA
    obtain ⟨a,ha⟩ : ∃ a,a=old.getD r 0:=⟨_,rfl⟩
    rw [← ha] at cA hbA
    have Ha:=Lib.hid ha
    have Hval:=Lib.hid (show (!bl)=((decide (0 < r) && decide (old.getD (r - 1) 0 < a+(k : Int))) || decide (most < a+(k : Int)) || unBad u r (bf+(k : Int))) by
     rw [Hbl.out,ha,Hbf.out,← sumI_take (show r≤put.length by rw [Hlp.out];omega)]
     exact layOk_not old most u put r k)
    have Hcq:=Lib.hid hcq
    have Hbo:=Lib.hid hbo
    clear hcp hcq hbo ha e2 hEw hFw hk
    by_cases hr0 : r=0
    ·subst hr0
     have cA0:=cA
     simp only [Nat.add_zero] at cA0
     by_cases hB : most < a+(k : Int)
     ·have hB' : (most < a+(k : Int))=True:=eq_true hB
      have hv : (!bl)=true:=by rw [Hval.out];rw [decide_eq_true hB,Bool.or_true,Bool.true_or]
      go_big_quiet (fail)
      go_wp2_with fail
      go_meet
      exact ⟨congrArg Value.bool hv.symm,(Qt.refl _).drewN nq⟩
     ·have hB' : (most < a+(k : Int))=False:=eq_false hB
      cases u with
      | none =>
        obtain rfl : vu=.slice none 0 0:=HU.out
        have hv : (!bl)=false:=by rw [Hval.out];rw [decide_eq_false hB];rfl
        go_big_quiet (fail)
        go_wp2_with fail
        go_meet
        exact ⟨congrArg Value.bool hv.symm,(Qt.refl _).drewN nq⟩
      | some l =>
        obtain ⟨⟨_,_,rfl,_,hlc⟩,p9,n9,k9,e9⟩:=HU.out
        have hll:=HP.out.bu l rfl
        injection e9 with e9 e10 e11
        subst e9 e11
        clear e10
        obtain ⟨b4,o4,e4,_,hlq⟩:=hlc (by rw [hll.1];omega)
        injection e4 with e4
        subst e4
        have cL:=hlq 0 (by rw [hll.1];omega)
        have hbL:=hll.2 0 (by omega)
        unfold iv at cL
        obtain ⟨lv,hlv⟩ : ∃ x,x=l.getD 0 0:=⟨_,rfl⟩
        rw [← hlv] at cL hbL
        have hlnr:=hll.1
        have hlri : ((0 : Nat) : Int) < (l.length : Int):=by omega
        have Hlv:=Lib.hid hlv
        try simp only [Nat.add_zero] at cL
        clear hlc hlq hll hlv hlnr
        by_cases hC : lv < bf+(k : Int)
        ·have hC' : (lv < bf+(k : Int))=True:=eq_true hC
         have hv : (!bl)=true:=by rw [Hval.out];rw [unBad_some,← Hlv.out,decide_eq_true hC,Bool.or_true]
         go_big_quiet (fail)
         go_wp2_with fail
         go_meet
         exact ⟨congrArg Value.bool hv.symm,(Qt.refl _).drewN nq⟩
        ·have hC' : (lv < bf+(k : Int))=False:=eq_false hC
         have hv : (!bl)=false:=by rw [Hval.out];rw [decide_eq_false hB];rw [unBad_some,← Hlv.out,decide_eq_false hC];rfl
         go_big_quiet (fail)
         go_wp2_with fail
         go_meet
         exact ⟨congrArg Value.bool hv.symm,(Qt.refl _).drewN nq⟩
    ·obtain ⟨t,rfl⟩ : ∃ t,r=t+1:=⟨r - 1,by omega⟩
     have cT:=Hcq.out t (by rw [Hlo.out];omega)
     have hbT:=Hbo.out t (by omega)
     unfold iv at cT
     obtain ⟨y1,hy1⟩ : ∃ y,y=old.getD t 0:=⟨_,rfl⟩
     rw [← hy1] at cT hbT
     rw [show t+1 - 1=t from rfl,← hy1] at Hval
     have hti : (t : Int) < (rows : Int):=by omega
     have ht1 : ((t+1 : Nat) : Int) - 1=(t : Int):=by omega
     have hT0 : (0 : Int) < (t : Int)+1:=by omega
     have hT1 : ((t : Int)+1).toNat=t+1:=by omega
     have hT2 : (t : Int)+1 < (rows : Int):=by omega
     have hT3 : (0 : Int)≤(t : Int)+1:=by omega
     have ht4 : (0 < t+1)=True:=eq_true (by omega)
     clear hy1
     by_cases hA : y1 < a+(k : Int)
     ·have hA' : (y1 < a+(k : Int))=True:=eq_true hA
      have hv : (!bl)=true:=by rw [Hval.out];rw [decide_eq_true hA,decide_eq_true (show 0 < t+1 by omega)];rfl
      go_big_quiet (fail)
      go_wp2_with fail
      go_meet
      exact ⟨congrArg Value.bool hv.symm,(Qt.refl _).drewN nq⟩
     ·have hA' : (y1 < a+(k : Int))=False:=eq_false hA
      by_cases hB : most < a+(k : Int)
      ·have hB' : (most < a+(k : Int))=True:=eq_true hB
       have hv : (!bl)=true:=by rw [Hval.out];rw [decide_eq_true hB,Bool.or_true,Bool.true_or]
       go_big_quiet (fail)
       go_wp2_with fail
       go_meet
       exact ⟨congrArg Value.bool hv.symm,(Qt.refl _).drewN nq⟩
      ·have hB' : (most < a+(k : Int))=False:=eq_false hB
       cases u with
       | none =>
         obtain rfl : vu=.slice none 0 0:=HU.out
         have hv : (!bl)=false:=by rw [Hval.out];rw [decide_eq_false hA,decide_eq_false hB,Bool.and_false];rfl
         go_big_quiet (fail)
         go_wp2_with fail
         go_meet
         exact ⟨congrArg Value.bool hv.symm,(Qt.refl _).drewN nq⟩
       | some l =>
         obtain ⟨⟨_,_,rfl,_,hlc⟩,p9,n9,k9,e9⟩:=HU.out
         have hll:=HP.out.bu l rfl
         injection e9 with e9 e10 e11
         subst e9 e11
         clear e10
         obtain ⟨b4,o4,e4,_,hlq⟩:=hlc (by rw [hll.1];omega)
         injection e4 with e4
         subst e4
         have cL:=hlq (t+1) (by rw [hll.1];omega)
         have hbL:=hll.2 (t+1) (by omega)
         unfold iv at cL
         obtain ⟨lv,hlv⟩ : ∃ x,x=l.getD (t+1) 0:=⟨_,rfl⟩
         rw [← hlv] at cL hbL
         have hlnr:=hll.1
         have hlri : (((t+1) : Nat) : Int) < (l.length : Int):=by omega
         have Hlv:=Lib.hid hlv
         try simp only [Nat.add_zero] at cL
         clear hlc hlq hll hlv hlnr
         by_cases hC : lv < bf+(k : Int)
         ·have hC' : (lv < bf+(k : Int))=True:=eq_true hC
          have hv : (!bl)=true:=by rw [Hval.out];rw [unBad_some,← Hlv.out,decide_eq_true hC,Bool.or_true]
          go_big_quiet (fail)
          go_wp2_with fail
          go_meet
          exact ⟨congrArg Value.bool hv.symm,(Qt.refl _).drewN nq⟩
         ·have hC' : (lv < bf+(k : Int))=False:=eq_false hC
          have hv : (!bl)=false:=by rw [Hval.out];rw [decide_eq_false hA,decide_eq_false hB,Bool.and_false];rw [unBad_some,← Hlv.out,decide_eq_false hC];rfl
          go_big_quiet (fail)
          go_wp2_with fail
          go_meet
          exact ⟨congrArg Value.bool hv.symm,(Qt.refl _).drewN nq⟩
   case rest =>
    obtain ⟨rfl,hqc⟩:=hcut
    have HEc:=Lib.hid (hEw.out.below (hqc.below _))
    have HFc:=Lib.hid (hFw.out.trans (FrX.of_below (hqc.below _)))
    clear hqc hEw hFw
    cases bl with
    | false =>
      obtain rfl : k=M:=by
       rcases Nat.lt_or_ge k M with h | h
       ·have:=HM2.out k h
        rw [← Hbl.out] at this
        exact absurd this (by decide)
       ·omega
      go_wp2_with fail
      (try simp only [Exit.inBlock,Exit.then])
      first | refine bodyPost_ret (results_none rfl _ _ _) rfl ?_ | refine bodyPost_end (results_none rfl _ _ _) rfl ?_
      exact ⟨rfl,HEc.out,HFc.out⟩
    | true =>
      have hkM : k < M:=by
       rcases Nat.lt_or_ge k M with h | h
       ·exact h
       ·rcases HM3.out with h3 | h3
        ·omega
        ·rw [show M=k by omega,← Hbl.out] at h3
         exact absurd h3 (by decide)
      have HkM:=Lib.hid hkM
      have Hhk:=Lib.hid hkl
      have hbs:=HP.out.bs r hr
      obtain ⟨x,hx⟩ : ∃ x,x=sh.getD r 0:=⟨_,rfl⟩
      have Hx:=Lib.hid hx
      rw [← hx] at hbs
      clear hx hkM hk
      have HCs:=Lib.hid (show Calls Tryz.prog 42 #[.slice ps rows ks] wc fun e w'=> ∃ g c,e=.returned (.slice (some ⟨g,0,none⟩) rows c)∧(rows≤c∧c≤maxLen∧wc.heap.size≤g∧w'.frozen? ⟨g,r,none⟩=false∧w'.cell? ⟨g,r,none⟩=some (.int .i64 x))∧OwnI 3 w' wc.heap.size w'.heap.size (.slice (some ⟨g,0,none⟩) rows c) sh∧Below wc.heap.size wc w' from
       (clone_any _ sh wc (HKs.out wc HFc.out).ints (by rw [Hls.out];omega)).mono fun e w' ⟨u,he,ho,hb⟩=>by
         obtain ⟨g,c,rfl,h1,h2,h3,h4,h5⟩:=ho.head (by rw [Hls.out];omega)
         rw [Hls.out] at h1 he ho
         exact ⟨g,c,he,⟨h1,h2,h3,h5 r,by rw [Hx.out];exact ho.cellF (by rw [Hls.out];exact hr)⟩,ho,hb⟩)
      have HCp:=Lib.hid (show ∀ wx,Below wc.heap.size wc wx→Calls Tryz.prog 42 #[.slice pp rows kp] wx fun e w'=> ∃ g c,e=.returned (.slice (some ⟨g,0,none⟩) rows c)∧(rows≤c∧c≤maxLen∧wx.heap.size≤g∧w'.frozen? ⟨g,r,none⟩=false∧w'.cell? ⟨g,r,none⟩=some (.int .i64 (put.getD r 0)))∧OwnI 3 w' wx.heap.size w'.heap.size (.slice (some ⟨g,0,none⟩) rows c) put∧Below wx.heap.size wx w' from fun wx hwx =>
       (clone_any _ put wx ((HKp.out wc HFc.out).below hwx).ints (by rw [Hlp.out];omega)).mono fun e w' ⟨u,he,ho,hb⟩=>by
         obtain ⟨g,c,rfl,h1,h2,h3,h4,h5⟩:=ho.head (by rw [Hlp.out];omega)
         rw [Hlp.out] at h1 he ho
         exact ⟨g,c,he,⟨h1,h2,h3,h5 r,ho.cellF (by rw [Hlp.out];exact hr)⟩,ho,hb⟩)
      go_wp2_with fail
      refine HCs.out.mono ?_
      rintro e w2 ⟨g2,k2,rfl,⟨hk2,hk2m,hg2,f2,d2⟩,ho2,hb2⟩
      have Ho2:=Lib.hid ho2
      have Hb2:=Lib.hid hb2
      have Hg2:=Lib.hid hg2
      unfold maxLen at hk2m
      have hw1 : wrap64 (x+(k : Int))=x+(k : Int):=by exact w64 (by omega) (by omega)
      clear ho2 hb2 hg2
      go_wp2_with fail
      have Hb3:=Lib.hid (Hb2.out.setCell (p:=⟨g2,r,none⟩) Hg2.out (.int .i64 (x+(k : Int))))
      refine (HCp.out _ Hb3.out).mono ?_
      rintro e w3 ⟨g3,k3,rfl,⟨hk3,hk3m,hg3,f3,d3⟩,ho3,hb3⟩
      have Ho3:=Lib.hid ho3
      have Hb4:=Lib.hid hb3
      have Hg3:=Lib.hid hg3
      unfold maxLen at hk3m
      clear ho3 hb3 hg3
      go_wp2_with fail
      have hgW : wc.heap.size≤g3:=Nat.le_trans Hb3.out.size Hg3.out
      have hbW:=(Hb3.out.trans (Hb4.out.mono Hb3.out.size)).setCell (p:=⟨g3,r,none⟩) hgW (.int .i64 (k : Int))
      have h1:=(Ho2.out.setF (t:=r) (by rw [Hls.out];exact hr) (x+(k : Int))).below Hb4.out
      have hne : g3 ≠ g2:=by
       have q1:=(Own.block Ho2.out (k:=g2) rfl).2.1
       have q2:=Hg3.out
       rw [size_setCell] at q2
       omega
      have h2:=h1.setOther (a:=⟨g3,r,none⟩) (fun e=>hne (by injection e with e;exact e.symm)) (.int .i64 (k : Int))
      have h3:=Ho3.out.setF (t:=r) (by rw [Hlp.out];exact hr) (k : Int)
      refine (HN.out k wc _ _ _ HkM.out Hhk.out HEc.out HFc.out hbW (by rw [← Hx.out];exact IntsK.of_own h2) (IntsK.of_own h3)).mono ?_
      rintro e w9 ⟨rfl,hE9,hF9⟩
      have HE9:=Lib.hid hE9
      have HF9:=Lib.hid hF9
      clear hE9 hF9 h1 h2 h3 hbW hgW hne
      go_wp2_with fail
      go_roundg (left+1 - (k+1))
      case measure=>omega
      case rel=>exact ⟨k+1,HkM.out,rfl,by go_num,HE9,HF9⟩
  ·obtain rfl : k=M:=by have:=HM1.out;omega
   have hkln : ¬ (k : Int)≤(left : Int):=by omega
   go_wp2_with fail
   go_end0
   exact ⟨rfl,hEw.out,hFw.out⟩
theorem layer_any (f : Nat) : LayC wB lo lo2 bo rows most f:=by
 induction f with
 | zero =>
   intro sh ct old r left u put cs m w vs vc vo vu vp hP hf hE hs hc ho hu hp hm
   have h1:=hP.rr
   have h2 : 1≤ct.length:=List.length_pos_iff.2 hP.c1
   have h3:=Nat.mul_le_mul_right (rows+1) h2
   omega
 | succ f ih =>
   intro sh ct old r left u put cs m w vs vc vo vu vp hP hf hE hs hc ho hu hp hm
   have hls:=hP.ls
   have h16:=hP.r16
   by_cases hr : r=rows
   ·subst hr
    rcases Nat.eq_zero_or_pos left with rfl | hl
    ·cases ct with
     | nil=>exact absurd rfl hP.c1
     | cons c0 ct =>
       cases ct with
       | nil =>
         rw [← hls] at hm ⊢
         rw [layL_see] at hm ⊢
         exact lay_see sh old c0 u put cs m w vs vc vo vu vp (by omega) hE hs hc hm
       | cons c1 cs' =>
         have e:=layL_up (most:=most) (f:=f) (sh:=sh) (old:=old) (c0:=c0) (c1:=c1) (cs:=cs') (u:=u) (put:=put)
         rw [hls] at e
         rw [e] at hm ⊢
         exact lay_up f ih sh old c0 c1 cs' u put cs m w vs vc vo vu vp hP hf hE hs hc hp hm
    ·have e:=layL_left (most:=most) (f:=f) (sh:=sh) (ct:=ct) (old:=old) (u:=u) (put:=put) hl
     rw [hls] at e
     rw [e]
     obtain ⟨ps,ks,rfl,_,_⟩:=hs.shape
     rw [hls]
     exact (lay_left left r hl vc vo vu vp ps ks w hP.bl h16).mono fun e w' ⟨he,hw⟩=>⟨he,by rw [hw];exact hE,by rw [hw];exact FrX.refl _ _ _⟩
   ·have hrr : r < rows:=Nat.lt_of_le_of_ne hP.rr hr
    obtain ⟨M,h1,h2,h3,h4⟩:=lay_most (layOk old most u put r) (left+1)
    have e:=layL_row (most:=most) (f:=f) (sh:=sh) (ct:=ct) (old:=old) (r:=r) (left:=left) (u:=u) (put:=put) (by omega)
    rw [h4] at e
    rw [e] at hm ⊢
    exact lay_row f ih sh ct old r left u put cs m w vs vc vo vu vp hP hrr hf hE hs hc ho hu hp M h1 h2 h3 hm
end
theorem shD_rng {sh : List Int} (hs : shOk sh=true) (i : Nat) : 0≤sh.getD i 0∧sh.getD i 0≤16:=by
 by_cases h : i < sh.length
 ·unfold shOk at hs
  simp only [decide_eq_true_eq] at hs
  have:=hs.2 i h
  unfold shAt at this
  omega
 ·rw [List.getD_eq_getElem?_getD,List.getElem?_eq_none (by omega)]
  exact ⟨by decide,by decide⟩
theorem wrX_rng {sh : List Int} {k i : Nat} (hs : shOk sh=true) (hl : sh.length≤k) (hk : k≤7) (hi : i < k) : 0≤wrX sh k i∧wrX sh k i≤22:=by
 unfold wrX
 have h : 0≤sh.getD i 0∧sh.getD i 0≤16:=by
  by_cases h : i < sh.length
  ·unfold shOk at hs
   simp only [decide_eq_true_eq] at hs
   have:=hs.2 i h
   unfold shAt at this
   omega
  ·rw [List.getD_eq_getElem?_getD,List.getElem?_eq_none (by omega)]
   exact ⟨by decide,by decide⟩
 omega
theorem wrP_rng {sh : List Int} {k n : Nat} (hs : shOk sh=true) (hl : sh.length≤k) (hk : k≤7) (hn : 1≤n) : ∀ i,i≤k→0≤wrP sh k n i∧wrP sh k n i≤i * 22
 | 0,_=>by simp [wrP]
 | i+1,hi=>by
   have ih:=wrP_rng hs hl hk hn i (by omega)
   have hx:=wrX_rng hs hl hk (show i < k by omega)
   have h1 : 0≤wrX sh k i / (n : Int):=Int.ediv_nonneg hx.1 (by omega)
   have h2 : wrX sh k i / (n : Int)≤wrX sh k i:=Int.ediv_le_self _ hx.1
   rw [wrP]
   push_cast
   omega
theorem wrE_len (sh : List Int) (k n : Nat) : (wrE sh k n).length=k:=by simp [wrE]
theorem wrE_getD {sh : List Int} {k n i : Nat} (hi : i < k) : (wrE sh k n).getD i 0=wrX sh k i % (n : Int):=by simp [wrE,List.getD_eq_getElem?_getD,hi]
theorem wrE_rng {sh : List Int} {k n i : Nat} (hi : i < k) (hn : 1≤n) (h7 : n≤7) : 0≤(wrE sh k n).getD i 0∧(wrE sh k n).getD i 0≤6:=by
 rw [wrE_getD hi]
 have h1:=Int.emod_nonneg (wrX sh k i) (show (n : Int) ≠ 0 by omega)
 have h2:=Int.emod_lt_of_pos (wrX sh k i) (show (0 : Int) < n by omega)
 omega
theorem wrE_snoc {sh : List Int} {k n i : Nat} (hi : i < k) : (wrE sh k n).take (i+1)=(wrE sh k n).take i ++ [wrX sh k i % (n : Int)]:=by
 have h : i < (wrE sh k n).length:=by rw [wrE_len];exact hi
 rw [List.take_add_one,List.getElem?_eq_getElem h,← getD_lt h,wrE_getD hi]
 rfl
theorem wrC_rng (e : List Int) (j : Nat) : ∀ i,0≤wrC e j i∧wrC e j i≤i
 | 0=>by simp [wrC]
 | i+1=>by
   have:=wrC_rng e j i
   rw [wrC]
   split <;> push_cast <;> omega
theorem wrCs_rng (e : List Int) : ∀ j,j≤7→0≤wrCs e j∧wrCs e j≤j * 7
 | 0,_=>by simp [wrCs]
 | j+1,h=>by
   have:=wrCs_rng e j (by omega)
   have:=wrC_rng e j j
   rw [wrCs]
   push_cast
   omega
theorem wrD_no {e : List Int} {j i : Nat} (h : e.getD i 0=e.getD j 0) : ∀ m,i < m→wrD e j m=false
 | 0,hm=>absurd hm (Nat.not_lt_zero _)
 | m+1,hm=>by
   rw [wrD]
   by_cases hi : i=m
   ·subst hi
    rw [decide_eq_true h]
    simp
   ·rw [wrD_no h m (by omega),Bool.false_and]
theorem wrDs_no {e : List Int} {j : Nat} (h : wrD e j j=false) : ∀ m,j < m→wrDs e m=false
 | 0,hm=>absurd hm (Nat.not_lt_zero _)
 | m+1,hm=>by
   rw [wrDs]
   by_cases hj : j=m
   ·subst hj
    rw [h,Bool.and_false]
   ·rw [wrDs_no h m (by omega),Bool.false_and]
def wrR (e : List Int) (k i : Nat) : List Int:=(List.range k).map fun j=>if j < i then e.getD j 0 - ((k : Int) - 1 - (j : Int)) else e.getD j 0
theorem wrR_len (e : List Int) (k i : Nat) : (wrR e k i).length=k:=by simp [wrR]
theorem wrR_zero {e : List Int} {k : Nat} (h : e.length=k) : wrR e k 0=e:=by
 unfold wrR
 refine List.ext_getElem (by simp [h]) fun j h1 h2=> ?_
 simp [List.getD_eq_getElem?_getD,List.getElem?_eq_getElem h2]
theorem wrR_succ {e : List Int} {k i : Nat} (hi : i < k) : (wrR e k i).set i (e.getD i 0 - ((k : Int) - 1 - (i : Int)))=wrR e k (i+1):=by
 unfold wrR
 refine List.ext_getElem (by simp) fun j h1 h2=> ?_
 rw [List.getElem_set]
 by_cases e1 : i=j
 ·subst e1;simp
 ·rw [if_neg e1]
  simp only [List.getElem_map,List.getElem_range]
  by_cases e2 : j < i
  ·rw [if_pos e2,if_pos (by omega)]
  ·rw [if_neg e2,if_neg (by omega)]
theorem wrR_getD {e : List Int} {k i : Nat} (hi : i < k) : (wrR e k i).getD i 0=e.getD i 0:=by
 simp [wrR,List.getD_eq_getElem?_getD,hi]
theorem wrR_all {e : List Int} {k : Nat} : wrR e k k=(List.range k).map fun j=>e.getD j 0 - ((k : Int) - 1 - (j : Int)):=by
 unfold wrR
 refine List.map_congr_left fun j hj=> ?_
 rw [if_pos (List.mem_range.1 hj)]
theorem shortened_at (p : Option Addr) (cap : Nat) (xs : List Int) (w : World) (h : Ints w (.slice p xs.length cap) xs) :
 Calls Tryz.prog 82 #[.slice p xs.length cap] w fun e w'=>e=.returned (.slice p (shN xs xs.length) cap)∧Qt w w':=by
 obtain ⟨p',cap',e,⟨hx1,hx2⟩,hxc⟩:=h
 injection e with e1 e2 e3
 subst e1 e3
 clear e2
 unfold maxLen at hx2
 go_enter Tryz.func82,Tryz.ntmps82
 go_wp2_with fail
 go_loopg [3] (xs.length+1) (fun g s3 wr=> ∃ k : Nat,k≤xs.length∧g=k+1∧s3=.int .i64 k∧Qt w wr∧Hid (shN xs xs.length=shN xs k))
 case atStart=>exact ⟨xs.length,Nat.le_refl _,rfl,rfl,Qt.refl _,Lib.hid rfl⟩
 case round =>
  obtain ⟨k,hk,rfl,rfl,hq,hp⟩:=hrel
  by_cases h0 : k=0
  ·subst h0
   go_wp2_with fail
   go_ret
   refine ⟨?_,hq⟩
   rw [hp.out]
   rfl
  ·obtain ⟨m,rfl⟩ : ∃ m,k=m+1:=⟨k - 1,by omega⟩
   obtain ⟨b,off,rfl,hc⟩:=hxc (by omega)
   obtain ⟨x,hx⟩ : ∃ x,x=xs.getD m 0:=⟨_,rfl⟩
   have c1:=hq.cell (hc m (by omega))
   unfold iv at c1
   rw [← hx] at c1
   have Hx:=Lib.hid hx
   have hm1 : (0 : Int) < ((m+1 : Nat) : Int):=by omega
   have hm2 : ((m+1 : Nat) : Int) - 1=(m : Int):=by omega
   have hm3 : (m : Int) < (xs.length : Int):=by omega
   have hm4 : ((m+1 : Nat) : Int)≤(cap : Int):=by omega
   have HN:=Lib.hid (show shN xs (m+1)=if xs.getD m 0=0 then shN xs m else m+1 from rfl)
   clear hx hc hxc h0
   by_cases hx0 : x=0
   ·go_wp2_with fail
    go_roundg (m+1)
    case measure=>omega
    case rel=>exact ⟨m,by omega,rfl,by go_num,hq,Lib.hid (by rw [hp.out,HN.out,if_pos (by rw [← Hx.out];exact hx0)])⟩
   ·go_wp2_with fail
    go_ret
    refine ⟨?_,hq⟩
    rw [hp.out,HN.out,if_neg (by rw [← Hx.out];exact hx0)]
    rfl
theorem shapeOfRows_at (p : Option Addr) (cap : Nat) (xs : List Int) (w : World) (h : Ints w (.slice p xs.length cap) xs) :
 Calls Tryz.prog 46 #[.slice p xs.length cap] w fun e w'=>e=.returned (.slice p (shN xs xs.length) cap)∧Qt w w':=by
 have Hh:=Lib.hid h
 go_enter Tryz.func46,Tryz.ntmps46
 go_wp2_with fail
 refine (shortened_at _ _ xs _ Hh.out).mono ?_
 rintro e w1 ⟨rfl,hq⟩
 go_wp2_with fail
 go_ret
 exact ⟨rfl,hq⟩
theorem OwnI.takeF {T : TypeId} {w : World} {lo hi g n cap m : Nat} {xs : List Int} (h : OwnI T w lo hi (.slice (some ⟨g,0,none⟩) n cap) xs) (hm : m≤xs.length) : OwnI T w lo hi (.slice (some ⟨g,0,none⟩) m cap) (xs.take m):=by
 have hl : (xs.take m).length=m:=by rw [List.length_take];omega
 rcases h.1.2 with ⟨e,_⟩ | ⟨g',cap',cur,e,hb,hg,hnc,hcm,hcs,ht⟩
 ·injection e with e;cases e
 ·injection e with e1 e2 e3
  injection e1 with e1
  injection e1 with e1
  subst e1 e3
  refine ⟨⟨by simp [ivs],.inr ⟨g,cap,cur,by rw [hl],hb,hg,by rw [hl];omega,hcm,hcs,?_⟩⟩,h.2⟩
  rw [hl,Nat.mul_one]
  rw [Nat.mul_one] at ht
  have:=congrArg (List.take m) ht
  rw [List.take_take,Nat.min_eq_left hm] at this
  rw [this]
  simp [ivs,List.map_take]
theorem WrapShape_any (v : Value) (sh : List Int) (k n : Nat) (w : World) (h : Ints w v sh) (hs : shOk sh=true) (hl : sh.length≤k) (h1 : 1≤k) (hk : k≤n) (h7 : n≤7) :
 Calls Tryz.prog 83 #[v,.int .i64 (k : Int),.int .i64 (n : Int)] w fun e w' =>
  (wrB sh k n=true ∧ ∃ u,e=.returned (.tuple #[.agg #[.int .i64 (wrP sh k n k),u,.int .i64 (wrS sh k n)],.bool true])∧OwnI 3 w' w.heap.size w'.heap.size u (wrL sh k n)∧Below w.heap.size w w') ∨
  (wrB sh k n=false∧e=.returned (.tuple #[.agg #[.int .i64 0,.slice none 0 0,.int .i64 0],.bool false])∧Below w.heap.size w w'):=by
 have Hh:=Lib.hid h
 have Hs:=Lib.hid hs
 obtain ⟨p,cap,rfl,⟨hx1,hx2⟩,_⟩:=h
 obtain ⟨ns,hns⟩ : ∃ n,n=sh.length:=⟨_,rfl⟩
 rw [← hns] at Hh hl hx1 ⊢
 have Hns:=Lib.hid hns
 obtain ⟨W0,hW0⟩ : ∃ W0,W0=w.alloc (.cells #[.int .i64 0,.slice none 0 0,.int .i64 0] 83):=⟨_,rfl⟩
 have hz0 : W0.heap[w.heap.size]?=some (.cells #[.int .i64 0,.slice none 0 0,.int .i64 0] 83 (0,0)):=by rw [hW0];exact heap_alloc_top _ _
 have hb0 : Below w.heap.size w W0:=by rw [hW0];exact below_alloc _ _
 have HW0:=Lib.hid hW0
 have Hz0:=Lib.hid hz0
 have Hb0:=Lib.hid hb0
 have HSh:=Lib.hid (show Calls Tryz.prog 52 #[.slice p ns cap] W0 fun e w'=>e=.returned (.bool true)∧Qt W0 w' from hs ▸ implIsShape_any _ sh W0 (Hh.out.below hb0))
 have hsz : ∀ wx,Calls Tryz.prog 80 #[.int .i64 (n : Int)] wx fun e w'=>e=.returned (.bool true)∧wx=w':=fun wx=>by
  have h2 : (1 : Int)≤(n : Int):=by omega
  have h3 : (n : Int)≤7:=by omega
  go_enter Tryz.func80,Tryz.ntmps80
  go_wp2_with fail
  go_ret
  exact ⟨rfl,rfl⟩
 have HSz:=Lib.hid hsz
 have h1i : ¬ (k : Int) < 1:=by omega
 have hki : ¬ (n : Int) < (k : Int):=by omega
 have hli : ¬ (k : Int) < (ns : Int):=by omega
 have hki' : ¬ n < k:=by omega
 have hli' : ¬ k < ns:=by omega
 have h1d : decide ((k : Int) < 1)=false:=decide_eq_false h1i
 have hnd : decide (n < k)=false:=decide_eq_false hki'
 have hkd : decide (k < ns)=false:=decide_eq_false hli'
 unfold maxLen at hx2
 clear hs hns hW0 hz0 hb0 hsz
 go_enter Tryz.func83,Tryz.ntmps83
 go_wp2_with fail
 rw [← HW0.out]
 refine HSh.out.mono ?_
 rintro e w1 ⟨rfl,hq1⟩
 have Hq1:=Lib.hid hq1
 clear hq1
 go_wp2_with fail
 refine (HSz.out _).mono ?_
 rintro e w2 ⟨rfl,rfl⟩
 go_wp2_with fail
 obtain ⟨lo,hlo⟩ : ∃ lo,lo=w1.heap.size:=⟨_,rfl⟩
 have Hlo:=Lib.hid hlo
 have hbA:=below_alloc w1 (.cells #[] 3)
 have HB1:=Lib.hid (show Below W0.heap.size W0 (w1.alloc (.cells #[] 3)) from (Hq1.out.below _).trans (hbA.mono (by rw [Hq1.out.size];exact Nat.le_refl _)))
 have HE0:=Lib.hid (show OwnI 3 (w1.alloc (.cells #[] 3)) lo (w1.alloc (.cells #[] 3)).heap.size (.slice (some ⟨lo,0,none⟩) 0 0) [] by
  rw [hlo]
  exact OwnF.ints ((OwnF.made0 w1 3 (iv [])).mono (Nat.le_refl _) (by rw [size_alloc];exact Nat.le_refl _)))
 rw [← hlo]
 have hlo0 : W0.heap.size≤lo:=by rw [hlo,Hq1.out.size];exact Nat.le_refl _
 have Hlo0:=Lib.hid hlo0
 clear hbA hlo hlo0
 go_loopg [8,9,10,11,42] k (fun g s8 s9 s10 s11 s42 wr=> ∃ i : Nat,i≤k∧g=k - i∧s42=.int .i64 (i : Int)∧s9=.int .i64 (wrP sh k n i)∧Hid (OwnI 3 wr lo wr.heap.size s8 ((wrE sh k n).take i))∧Hid (Below W0.heap.size W0 wr))
 case atStart=>exact ⟨0,Nat.zero_le _,rfl,rfl,rfl,by rw [List.take_zero];exact HE0,HB1⟩
 case round =>
  obtain ⟨i,hi,rfl,rfl,rfl,ho,hb⟩:=hrel
  obtain ⟨wo,rfl⟩ : ∃ x : World,x=wr:=⟨_,rfl⟩
  by_cases hlt : i < k
  ·have hii : (i : Int) < (k : Int):=by omega
   have hR:=rowOf_any (.slice p ns cap) sh i wo ((Hh.out.below Hb0.out).below hb.out) (by omega)
   obtain ⟨x,hx⟩ : ∃ x,x=sh.getD i 0:=⟨_,rfl⟩
   rw [← hx] at hR
   have HR:=Lib.hid hR
   obtain ⟨X,hX⟩ : ∃ X,X=wrX sh k i:=⟨_,rfl⟩
   have hXr:=wrX_rng Hs.out (by rw [← Hns.out];exact hl) (by omega) hlt
   have hPr:=wrP_rng (n:=n) Hs.out (by rw [← Hns.out];exact hl) (by omega) (by omega) i hi
   rw [← hX] at hXr
   have hXe : x+(k : Int) - 1 - (i : Int)=X:=by rw [hX,hx];rfl
   have hxr : 0≤x∧x≤16:=by rw [hx];exact shD_rng Hs.out i
   obtain ⟨P,hP⟩ : ∃ P,P=wrP sh k n i:=⟨_,rfl⟩
   rw [← hP] at hPr ⊢
   have hP7 : P≤154:=by omega
   have Hsucc:=Lib.hid (show wrP sh k n (i+1)=P+X / (n : Int) by rw [wrP,hP,hX])
   have Hsn:=Lib.hid (show (wrE sh k n).take (i+1)=(wrE sh k n).take i ++ [X % (n : Int)] by rw [wrE_snoc hlt,hX])
   have hq1' : Int.tdiv X (n : Int)=X / (n : Int):=Int.tdiv_eq_ediv_of_nonneg hXr.1
   have hq2' : Int.tmod X (n : Int)=X % (n : Int):=Int.tmod_eq_emod_of_nonneg hXr.1
   have hd0 : 0≤X / (n : Int):=Int.ediv_nonneg hXr.1 (by omega)
   have hd1 : X / (n : Int)≤22:=Int.le_trans (Int.ediv_le_self _ hXr.1) hXr.2
   obtain ⟨D,hD⟩ : ∃ D,D=X / (n : Int):=⟨_,rfl⟩
   obtain ⟨M,hM⟩ : ∃ M,M=X % (n : Int):=⟨_,rfl⟩
   rw [← hD] at hq1' hd0 hd1 Hsucc
   rw [← hM] at hq2' Hsn
   have hn0 : (n : Int) ≠ 0:=by omega
   have hnb : ((n : Int) == 0)=false:=by simp;omega
   obtain ⟨p8,k8,rfl,hk81,hk82⟩:=ho.out.shape
   have hlen : ((wrE sh k n).take i).length=i:=by rw [List.length_take,wrE_len];omega
   rw [hlen] at hk81 ⊢
   have HO:=Lib.hid (show OwnF wo lo wo.heap.size 3 (.slice p8 i k8) i (iv ((wrE sh k n).take i)) by
    have:=ho.out.fn
    rw [hlen] at this
    exact this)
   have Hlen:=Lib.hid hlen
   have Hb:=Lib.hid hb.out
   have hlow : lo≤wo.heap.size:=by
    have h1:=hb.out.size
    exact Nat.le_trans (by rw [Hlo.out];have:=Hq1.out.size;omega) h1
   have Hlow:=Lib.hid hlow
   unfold maxLen at hk82
   clear hx hX hP hD hM hR ho hb hlen hlow
   go_wp2_with fail
   refine HR.out.mono ?_
   rintro e w3 ⟨rfl,hq3⟩
   have HQ3:=Lib.hid hq3
   have hs3:=hq3.size
   clear hq3 HR
   go_wp2_with (at_builtin;go_must (refine wpList_append_F rfl (.tmp 58) (.tmp 62) 24 rfl 3 (.int .i64 0) 8 Tryz.underlying24 info_int rfl lo _ _ i (iv ((wrE sh k n).take i)) rfl ((HO.out.below (HQ3.out.below _)).below (below_alloc _ _)) (by rw [size_alloc,hs3];have:=Hlow.out;omega) (by rw [size_alloc,hs3];omega) _ 1 _ rfl (rd_one _ _ _ hs3.symm) (fun j _=>rfl) (by unfold maxLen;omega) (by omega) ?_;intro v5 w5 ho5 hg5))
   have hg5' : (w3.alloc (.cells #[.int .i64 M] 3)).grownBy w5 (Value.slice p8 i k8).ownBlock:=hg5
   have h5:=OwnI.snoc1 (out:=(wrE sh k n).take i) (x:=M) (by rw [Hlen.out];exact ho5)
   have Ho5:=Lib.hid h5
   have hB3 : Below W0.heap.size W0 (w3.alloc (.cells #[.int .i64 M] 3)):=(Hb.out.trans ((HQ3.out.below _).mono Hb.out.size)).trans ((below_alloc w3 _).mono (by rw [hs3];exact Hb.out.size))
   have Hb5:=Lib.hid (show Below W0.heap.size W0 w5 from ⟨hg5'.os.trans hB3.os,hg5'.tape.trans hB3.tape,hg5'.output.trans hB3.output,Nat.le_trans hB3.size hg5'.size,fun j hj=>(hg5'.block j (Nat.lt_of_lt_of_le hj hB3.size) fun e=>by
    have:=(HO.out.blocks j e.symm).1
    have:=Hlo0.out
    omega).trans (hB3.block j hj)⟩)
   clear hg5 hg5' ho5 h5 hB3
   go_roundg (k - (i+1))
   case measure=>omega
   case rel=>exact ⟨i+1,hlt,rfl,by go_num,by rw [Hsucc.out],by rw [Hsn.out];exact Ho5,Hb5⟩
  ·obtain rfl : i=k:=by omega
   have hlenE:=wrE_len sh i n
   have hErng:=fun j (hj : j < i)=>wrE_rng (sh:=sh) (n:=n) hj (by omega) h7
   obtain ⟨E,hE⟩ : ∃ E,E=wrE sh i n:=⟨_,rfl⟩
   have HEE:=Lib.hid hE
   rw [← hE] at hlenE hErng ho
   rw [List.take_of_length_le (by rw [hlenE];exact Nat.le_refl _)] at ho
   obtain ⟨g8,k8,rfl,hk81,hk82,hg81,hg82,hfz8⟩:=ho.out.head (by rw [hlenE];omega)
   rw [hlenE] at hk81 ho ⊢
   have HO:=Lib.hid ho.out
   have Hb:=Lib.hid hb.out
   have HlE:=Lib.hid hlenE
   have HEr:=Lib.hid hErng
   have Hg8:=Lib.hid (And.intro hg81 (And.intro hg82 hfz8))
   have hPr:=wrP_rng (n:=n) Hs.out (by rw [← Hns.out];exact hl) (by omega) (by omega) i (Nat.le_refl _)
   obtain ⟨P,hP⟩ : ∃ P,P=wrP sh i n i:=⟨_,rfl⟩
   rw [← hP] at hPr ⊢
   have HP:=Lib.hid hP
   have hP7 : P≤154:=by omega
   obtain ⟨Q,hQ⟩ : ∃ Q,Q=((i : Int) - 1) * P:=⟨_,rfl⟩
   have hQ0 : 0≤Q:=by rw [hQ];exact Int.mul_nonneg (by omega) hPr.1
   have hQ1 : Q≤1000:=by
    rw [hQ]
    have q1:=Int.mul_le_mul_of_nonneg_right (show (i : Int) - 1≤6 by omega) hPr.1
    omega
   have HQQ:=Lib.hid hQ
   have hw1 : wrap64 (((i : Int) - 1) * P)=Q:=by rw [← hQ];exact w64 (by omega) (by omega)
   have hw2 : IntKind.i64.wrap (((i : Int) - 1) * P)=Q:=by rw [← hQ];exact k64 (by omega) (by omega)
   unfold maxLen at hk82
   clear hE hlenE hErng ho hb hg81 hg82 hfz8 hP hQ
   go_wp2_with fail
   have HQt0:=Lib.hid (Qt.refl wo)
   go_loopg [12,13,14,71] i (fun g s12 s13 s14 s71 wr=> ∃ j : Nat,j≤i∧g=i - j∧s71=.int .i64 (j : Int)∧s12=.int .i64 (Q+wrCs E j)∧Hid (Qt wo wr)∧Hid (wrDs E j=true))
   case atStart=>exact ⟨0,Nat.zero_le _,rfl,rfl,by rw [wrCs,Int.add_zero],HQt0,rfl⟩
   case round =>
    obtain ⟨j,hj,rfl,rfl,rfl,hq,hd⟩:=hrel
    obtain ⟨wj,rfl⟩ : ∃ x : World,x=wr:=⟨_,rfl⟩
    by_cases hji : j < i
    ·have hjii : (j : Int) < (i : Int):=by omega
     have hcr:=wrCs_rng E j (by omega)
     obtain ⟨C,hC⟩ : ∃ C,C=Q+wrCs E j:=⟨_,rfl⟩
     rw [← hC]
     have HC:=Lib.hid hC
     have hC0 : 0≤C∧C≤1100:=by omega
     have Hq:=Lib.hid hq.out
     have Hd:=Lib.hid hd.out
     clear hC hcr hq hd
     go_wp2_with fail
     go_loopg [12,14,75] j (fun g s12 s14 s75 wr=> ∃ q : Nat,q≤j∧g=j - q∧s75=.int .i64 (q : Int)∧s12=.int .i64 (C+wrC E j q)∧Hid (Qt wo wr)∧Hid (wrD E j q=true))
     case atStart=>exact ⟨0,Nat.zero_le _,rfl,rfl,by rw [wrC,Int.add_zero],Hq,rfl⟩
     case round =>
      obtain ⟨q,hqj,rfl,rfl,rfl,hq3,hd3⟩:=hrel
      obtain ⟨w3,rfl⟩ : ∃ x : World,x=wr:=⟨_,rfl⟩
      by_cases hlt : q < j
      ·have hqi : (q : Int) < (j : Int):=by omega
       have hqii : (q : Int) < (i : Int):=by omega
       have cq:=hq3.out.cell (HO.out.cellF (j:=q) (by rw [HlE.out];omega))
       have cj:=hq3.out.cell (HO.out.cellF (j:=j) (by rw [HlE.out];omega))
       have hcr:=wrC_rng E j q
       obtain ⟨x,hx⟩ : ∃ x,x=E.getD q 0:=⟨_,rfl⟩
       obtain ⟨y,hy⟩ : ∃ y,y=E.getD j 0:=⟨_,rfl⟩
       rw [← hx] at cq
       rw [← hy] at cj
       obtain ⟨c,hcc⟩ : ∃ c,c=C+wrC E j q:=⟨_,rfl⟩
       rw [← hcc]
       have Hcc:=Lib.hid hcc
       have hcb : 0≤c∧c≤1200:=by omega
       have HX:=Lib.hid hx
       have HY:=Lib.hid hy
       have HQ3:=Lib.hid hq3.out
       have HD3:=Lib.hid hd3.out
       clear hx hy hcc hcr hq3 hd3
       by_cases hxy : x=y
       ·have hno:=Lib.hid (wrDs_no (wrD_no (by rw [← HX.out,← HY.out,hxy]) j hlt) i hji)
        have hxyb : (x == y)=true:=by simp [hxy]
        subst hxy
        have hzq:=(HQ3.out.heap ▸ blk_later Hz0.out Hb.out : w3.heap[w.heap.size]?=_)
        have z0:=cell_of_blk hzq (j:=0) rfl
        have z1:=cell_of_blk hzq (j:=1) rfl
        have z2:=cell_of_blk hzq (j:=2) rfl
        have f0:=free_of_blk hzq 0
        have f1:=free_of_blk hzq 1
        have f2:=free_of_blk hzq 2
        have Hzq:=Lib.hid hzq
        clear hzq
        go_wp2_with fail
        go_quiet (fail)
        go_wp2_with fail
        have hz9 : ((((w3.drewN nq).setCell ⟨w.heap.size,0,none⟩ (.int .i64 0)).setCell ⟨w.heap.size,1,none⟩ (.slice none 0 0)).setCell ⟨w.heap.size,2,none⟩ (.int .i64 0)).heap[w.heap.size]?=some (.cells #[.int .i64 0,.slice none 0 0,.int .i64 0] 83 (0,0)):=by
         have q0 : (w3.drewN nq).heap[w.heap.size]?=some (.cells #[.int .i64 0,.slice none 0 0,.int .i64 0] 83 (0,0)):=Hzq.out
         exact heap_setCell_at (heap_setCell_at (heap_setCell_at q0 0 _) 1 _) 2 _
        have hb9 : Below w.heap.size w ((((w3.drewN nq).setCell ⟨w.heap.size,0,none⟩ (.int .i64 0)).setCell ⟨w.heap.size,1,none⟩ (.slice none 0 0)).setCell ⟨w.heap.size,2,none⟩ (.int .i64 0)):=by
         have q1:=(Hb0.out.trans (Hb.out.mono Hb0.out.size)).trans ((HQ3.out.drewN nq).below w.heap.size)
         exact ((q1.setCell (p:=⟨w.heap.size,0,none⟩) (Nat.le_refl _) _).setCell (p:=⟨w.heap.size,1,none⟩) (Nat.le_refl _) _).setCell (p:=⟨w.heap.size,2,none⟩) (Nat.le_refl _) _
        generalize ((((w3.drewN nq).setCell ⟨w.heap.size,0,none⟩ (.int .i64 0)).setCell ⟨w.heap.size,1,none⟩ (.slice none 0 0)).setCell ⟨w.heap.size,2,none⟩ (.int .i64 0))=W9 at *
        have y0:=cell_of_blk hz9 (j:=0) rfl
        have y1:=cell_of_blk hz9 (j:=1) rfl
        have y2:=cell_of_blk hz9 (j:=2) rfl
        (try simp only [Exit.inBlock,Exit.then])
        refine bodyPost_ret (v:=.tuple #[.agg #[.int .i64 0,.slice none 0 0,.int .i64 0],.bool false]) ?_ rfl (.inr ⟨?_,rfl,hb9⟩)
        ·rw [results_cell_tmp rfl]
         go_simp
        ·unfold wrB
         rw [← HEE.out]
         exact hno.out
       ·have hxyb : (x == y)=false:=by simp [hxy]
        have Hd1:=Lib.hid (show wrD E j (q+1)=true by rw [wrD,HD3.out,← HX.out,← HY.out,decide_eq_false hxy];rfl)
        go_wp2_with fail
        go_quiet (fail)
        have cq' : (w3.drewN nq).cell? ⟨g8,q,none⟩=some (.int .i64 x):=cq
        have cj' : (w3.drewN nq).cell? ⟨g8,j,none⟩=some (.int .i64 y):=cj
        have HQ4:=Lib.hid (HQ3.out.drewN nq)
        generalize w3.drewN nq=w4 at *
        clear cq cj
        by_cases hlt2 : x < y
        ·have Hc1:=Lib.hid (show C+wrC E j (q+1)=c+1 by rw [wrC,if_pos (by rw [← HX.out,← HY.out];exact hlt2),Hcc.out];omega)
         go_wp2_with fail
         go_quiet (fail)
         go_wp2_with fail
         go_roundg (j - (q+1))
         case measure=>omega
         case rel=>exact ⟨q+1,hlt,rfl,by go_num,by rw [Hc1.out],HQ4.out.drewN nq,Hd1⟩
        ·have Hc1:=Lib.hid (show C+wrC E j (q+1)=c by rw [wrC,if_neg (by rw [← HX.out,← HY.out];exact hlt2),Hcc.out])
         go_wp2_with fail
         go_quiet (fail)
         go_wp2_with fail
         go_roundg (j - (q+1))
         case measure=>omega
         case rel=>exact ⟨q+1,hlt,rfl,by go_num,by rw [Hc1.out],HQ4.out.drewN nq,Hd1⟩
      ·obtain rfl : q=j:=by omega
       have Hc1:=Lib.hid (show Q+wrCs E (q+1)=C+wrC E q q by rw [wrCs,HC.out];omega)
       have HQ3:=Lib.hid hq3.out
       have Hd1:=Lib.hid (show wrDs E (q+1)=true by rw [wrDs,Hd.out,hd3.out];rfl)
       clear hq3 hd3
       go_wp2_with fail
       go_roundg (i - (q+1))
       case measure=>omega
       case rel=>exact ⟨q+1,hji,rfl,by go_num,by rw [Hc1.out],HQ3,Hd1⟩
    ·obtain rfl : j=i:=by omega
     have hyes:=Lib.hid (show wrB sh j n=true by unfold wrB;rw [← HEE.out];exact hd.out)
     have HQ:=Lib.hid hq.out
     have hSr:=Sort_any g8 k8 lo wo.heap.size E wj (by have:=HO.out.below (hq.out.below _);rw [← HlE.out] at this;exact this) (by rw [HlE.out];omega)
     rw [HlE.out] at hSr
     have HSr:=Lib.hid hSr
     have hcr:=wrCs_rng E j (by omega)
     obtain ⟨C,hC⟩ : ∃ C,C=Q+wrCs E j:=⟨_,rfl⟩
     rw [← hC]
     have HC:=Lib.hid hC
     have hC0 : 0≤C∧C≤1100:=by omega
     clear hq hd hSr hC hcr
     go_wp2_with fail
     refine HSr.out.mono ?_
     rintro e w5 ⟨rfl,ho5,hf5⟩
     have HF5:=Lib.hid hf5
     have hRv:=Reverse_any g8 k8 lo wo.heap.size (srtZ E) w5 (by rw [srtZ_len,HlE.out];exact ho5) (by rw [srtZ_len,HlE.out];omega)
     rw [srtZ_len,HlE.out] at hRv
     have HRv:=Lib.hid hRv
     clear ho5 hf5 hRv HSr
     go_wp2_with fail
     refine HRv.out.mono ?_
     rintro e w6 ⟨rfl,ho6,hf6⟩
     have HF6:=Lib.hid hf6
     obtain ⟨R,hR⟩ : ∃ R,R=(srtZ E).reverse:=⟨_,rfl⟩
     rw [← hR] at ho6
     have hRl : R.length=j:=by rw [hR,List.length_reverse,srtZ_len,HlE.out]
     have hRr : ∀ t,t < j→0≤R.getD t 0∧R.getD t 0≤6:=fun t ht=>by
      have hm : R.getD t 0 ∈ R:=by rw [getD_lt (by rw [hRl];exact ht)];exact List.getElem_mem _
      rw [hR,List.mem_reverse,(srtZ_perm E).mem_iff,← hR] at hm
      obtain ⟨q,hq,e⟩:=List.mem_iff_getElem.1 hm
      rw [← e,← getD_lt hq]
      exact HEr.out q (by rw [← HlE.out];exact hq)
     have HRR:=Lib.hid hR
     have HRl:=Lib.hid hRl
     have HRr:=Lib.hid hRr
     have Ho6:=Lib.hid (show OwnI 3 w6 lo wo.heap.size (.slice (some ⟨g8,0,none⟩) j k8) (wrR R j 0) by rw [wrR_zero hRl];exact ho6)
     clear ho6 hf6 hR hRl hRr HRv
     go_wp2_with fail
     go_loopg [15,107] j (fun g s15 s107 wr=> ∃ t : Nat,t≤j∧g=j - t∧s107=.int .i64 (t : Int)∧Hid (OwnI 3 wr lo wo.heap.size (.slice (some ⟨g8,0,none⟩) j k8) (wrR R j t))∧Hid (Frm lo wo.heap.size w6 wr))
     case atStart=>exact ⟨0,Nat.zero_le _,rfl,rfl,Ho6,⟨rfl,rfl,rfl,Nat.le_refl _,fun _ _ _=>rfl⟩⟩
     case round =>
      obtain ⟨t,ht,rfl,rfl,ho7,hf7⟩:=hrel
      obtain ⟨w7,rfl⟩ : ∃ x : World,x=wr:=⟨_,rfl⟩
      by_cases hlt : t < j
      ·have htj : (t : Int) < (j : Int):=by omega
       have ct:=ho7.out.cellF (j:=t) (by rw [wrR_len];exact hlt)
       rw [wrR_getD hlt] at ct
       have hxr:=HRr.out t hlt
       obtain ⟨x,hx⟩ : ∃ x,x=R.getD t 0:=⟨_,rfl⟩
       rw [← hx] at ct hxr
       have hset:=ho7.out.setF (t:=t) (by rw [wrR_len];exact hlt) (x - ((j : Int) - 1 - (t : Int)))
       rw [hx,wrR_succ hlt,← hx] at hset
       have Hset:=Lib.hid hset
       have hfz : w7.frozen? ⟨g8,t,none⟩=false:=ho7.out.fn.frozen t
       have hg8:=Own.block ho7.out (k:=g8) rfl
       have HF7:=Lib.hid (show Frm lo wo.heap.size w6 (w7.setCell ⟨g8,t,none⟩ (.int .i64 (x - ((j : Int) - 1 - (t : Int))))) from hf7.out.setCell (p:=⟨g8,t,none⟩) hg8.1 hg8.2.1 _)
       have hj7 : (j : Int)≤7:=by omega
       clear hx hset ho7 hf7 hg8
       go_wp2_with fail
       go_roundg (j - (t+1))
       case measure=>omega
       case rel=>exact ⟨t+1,hlt,rfl,by go_num,Hset,HF7⟩
      ·obtain rfl : t=j:=by omega
       have ho7':=ho7.out
       rw [wrR_all] at ho7'
       obtain ⟨Z,hZ⟩ : ∃ Z,Z=(List.range t).map fun b=>R.getD b 0 - ((t : Int) - 1 - (b : Int)):=⟨_,rfl⟩
       rw [← hZ] at ho7'
       have hZl : Z.length=t:=by rw [hZ];simp
       have hSh:=shapeOfRows_at (some ⟨g8,0,none⟩) k8 Z w7 (by have:=ho7'.ints;rw [hZl];exact this)
       rw [hZl] at hSh
       have HS:=Lib.hid hSh
       have Hwl:=Lib.hid (show shL Z=wrL sh t n by unfold wrL;rw [hZ,HRR.out,HEE.out])
       have HZl:=Lib.hid hZl
       have Ho7:=Lib.hid ho7'
       have hnl:=shN_le Z t
       clear hZ hZl hSh
       have HF7:=Lib.hid hf7.out
       have ht2 : Int.tmod C 2=C % 2:=Int.tmod_eq_emod_of_nonneg hC0.1
       obtain ⟨M,hM⟩ : ∃ M,M=C % 2:=⟨_,rfl⟩
       have hM0 : 0≤M∧M≤1:=by omega
       rw [← hM] at ht2
       have HM2:=Lib.hid hM
       clear ho7 ho7' hf7 hM
       go_wp2_with fail
       refine HS.out.mono ?_
       rintro e w8 ⟨rfl,hq8⟩
       obtain ⟨nu,hnu⟩ : ∃ nu,nu=shN Z t:=⟨_,rfl⟩
       rw [← hnu] at hnl ⊢
       have Hnu:=Lib.hid hnu
       have HQ8:=Lib.hid hq8
       have key : ∀ a b : World,Frm lo wo.heap.size a b→W0.heap.size≤a.heap.size→Below W0.heap.size a b:=fun a b hf hs=>⟨hf.os,hf.tape,hf.output,hf.size,fun k hk=>hf.block k (by omega) (.inl (by have:=Hlo0.out;omega))⟩
       have b5:=(Hb.out.trans (HQ.out.below _))
       have b6:=b5.trans (key _ _ HF5.out b5.size)
       have b7:=b6.trans (key _ _ HF6.out b6.size)
       have b8:=(b7.trans (key _ _ HF7.out b7.size)).trans (hq8.below _)
       have hz8:=blk_later Hz0.out b8
       have z0:=cell_of_blk hz8 (j:=0) rfl
       have z1:=cell_of_blk hz8 (j:=1) rfl
       have z2:=cell_of_blk hz8 (j:=2) rfl
       have f0:=free_of_blk hz8 0
       have f1:=free_of_blk hz8 1
       have f2:=free_of_blk hz8 2
       have Hz8:=Lib.hid hz8
       have Hb8:=Lib.hid (Hb0.out.trans (b8.mono Hb0.out.size))
       have hbz : w.heap.size < w8.heap.size:=blk_lt hz8
       clear key b5 b6 b7 b8 hz8 hq8 hnu HS
       go_wp2_with fail
       have hz9 : (((w8.setCell ⟨w.heap.size,0,none⟩ (.int .i64 P)).setCell ⟨w.heap.size,1,none⟩ (.slice (some ⟨g8,0,none⟩) nu k8)).setCell ⟨w.heap.size,2,none⟩ (.int .i64 (1 - M * 2))).heap[w.heap.size]?=some (.cells #[.int .i64 P,.slice (some ⟨g8,0,none⟩) nu k8,.int .i64 (1 - M * 2)] 83 (0,0)) :=
        heap_setCell_at (heap_setCell_at (heap_setCell_at Hz8.out 0 _) 1 _) 2 _
       have hb9 : Below w.heap.size w (((w8.setCell ⟨w.heap.size,0,none⟩ (.int .i64 P)).setCell ⟨w.heap.size,1,none⟩ (.slice (some ⟨g8,0,none⟩) nu k8)).setCell ⟨w.heap.size,2,none⟩ (.int .i64 (1 - M * 2))) :=
        ((Hb8.out.setCell (p:=⟨w.heap.size,0,none⟩) (Nat.le_refl _) _).setCell (p:=⟨w.heap.size,1,none⟩) (Nat.le_refl _) _).setCell (p:=⟨w.heap.size,2,none⟩) (Nat.le_refl _) _
       have hI9 : OwnI 3 (((w8.setCell ⟨w.heap.size,0,none⟩ (.int .i64 P)).setCell ⟨w.heap.size,1,none⟩ (.slice (some ⟨g8,0,none⟩) nu k8)).setCell ⟨w.heap.size,2,none⟩ (.int .i64 (1 - M * 2))) w.heap.size (((w8.setCell ⟨w.heap.size,0,none⟩ (.int .i64 P)).setCell ⟨w.heap.size,1,none⟩ (.slice (some ⟨g8,0,none⟩) nu k8)).setCell ⟨w.heap.size,2,none⟩ (.int .i64 (1 - M * 2))).heap.size (.slice (some ⟨g8,0,none⟩) nu k8) (wrL sh t n):=by
        have hg8:=(Own.block Ho7.out (k:=g8) rfl).1
        have hlo1:=Hlo0.out
        have hb0:=blk_lt Hz0.out
        have o8:=Ho7.out.below (HQ8.out.below _)
        have hne : (Value.slice (some ⟨g8,0,none⟩) t k8).ownBlock ≠ some w.heap.size:=fun e=>by
         have : g8=w.heap.size:=by injection e
         omega
        have o9:=((o8.setOther (a:=⟨w.heap.size,0,none⟩) hne (.int .i64 P)).setOther (a:=⟨w.heap.size,1,none⟩) hne (.slice (some ⟨g8,0,none⟩) nu k8)).setOther (a:=⟨w.heap.size,2,none⟩) hne (.int .i64 (1 - M * 2))
        have i9:=(o9.takeF (m:=nu) (by rw [HZl.out];exact hnl)).mono (show w.heap.size≤lo by omega) (show wo.heap.size≤(((w8.setCell ⟨w.heap.size,0,none⟩ (.int .i64 P)).setCell ⟨w.heap.size,1,none⟩ (.slice (some ⟨g8,0,none⟩) nu k8)).setCell ⟨w.heap.size,2,none⟩ (.int .i64 (1 - M * 2))).heap.size by
         rw [size_setCell,size_setCell,size_setCell]
         have r1:=HQ.out.size
         have r2:=HF5.out.size
         have r3:=HF6.out.size
         have r4:=HF7.out.size
         have r5:=HQ8.out.size
         omega)
        rw [← Hwl.out]
        unfold shL
        rw [HZl.out,← Hnu.out]
        exact i9
       generalize (((w8.setCell ⟨w.heap.size,0,none⟩ (.int .i64 P)).setCell ⟨w.heap.size,1,none⟩ (.slice (some ⟨g8,0,none⟩) nu k8)).setCell ⟨w.heap.size,2,none⟩ (.int .i64 (1 - M * 2)))=W9 at *
       have y0:=cell_of_blk hz9 (j:=0) rfl
       have y1:=cell_of_blk hz9 (j:=1) rfl
       have y2:=cell_of_blk hz9 (j:=2) rfl
       (try simp only [Exit.inBlock,Exit.then])
       refine bodyPost_ret (v:=.tuple #[.agg #[.int .i64 P,.slice (some ⟨g8,0,none⟩) nu k8,.int .i64 (1 - M * 2)],.bool true]) ?_ rfl (.inl ⟨hyes.out,_,?_,hI9,hb9⟩)
       ·rw [results_cell_tmp rfl]
        go_simp
       ·rw [HP.out,HM2.out,HC.out,HQQ.out]
        unfold wrS
        rw [HP.out,HEE.out]
end
section
open Go.RowKit
theorem FrP.setAt {lo g : Nat} {w w' : World} (hf : FrP lo w w') (hg : lo≤g) (hk : IsPt w' g) (o : Nat) (u : Value) : FrP lo w (w'.setCell ⟨g,o,none⟩ u):=by
 refine ⟨hf.os,hf.tape,hf.output,by rw [size_setCell];exact hf.size,fun k hks ho=> ?_⟩
 have e:=hf.block k hks ho
 have hne : k ≠ g:=fun e2=>by
  rcases ho with ho | ho
  ·omega
  ·subst e2
   unfold IsPt at hk ho
   rw [e] at hk
   exact ho hk
 exact (Below.heap_setCell w' ⟨g,o,none⟩ u k hne).trans e
theorem IsPt.set {w : World} {g : Nat} (h : IsPt w g) (b o : Nat) (u : Value) : IsPt (w.setCell ⟨b,o,none⟩ u) g:=by
 by_cases e : g=b
 ·subst e
  obtain ⟨c,fz,h⟩:=h
  exact ⟨_,fz,heap_setCell_at h o u⟩
 ·obtain ⟨c,fz,h⟩:=h
  exact ⟨c,fz,(Below.heap_setCell w ⟨b,o,none⟩ u g e).trans h⟩
theorem FrP.setCells {lo g : Nat} {w : World} (hg : lo≤g) : ∀ (vs : List Value) (o : Nat) (w' : World),FrP lo w w'→IsPt w' g→FrP lo w (w'.setCells g o vs)
 | [],_,_,hf,_=>hf
 | v :: vs,o,w',hf,hk=>FrP.setCells hg vs (o+1) _ (hf.setAt hg hk o v) (hk.set g o v)
theorem FrP.ownI {lo lo2 hi : Nat} {w w' : World} {v : Value} {xs : List Int} (hf : FrP lo w w') (h : OwnI 3 w lo2 hi v xs) : OwnI 3 w' lo2 hi v xs :=
 ⟨ownsRow_of_block h.1 fun b hb=>hf.block b (Own.block h hb).2.2 (.inr fun hp=>ne_of_kinds (OwnI.kind h b hb) hp (by decide)),h.2⟩
theorem take_snocP {l : List Cls} {k : Nat} (h : k < l.length) : l.take (k+1)=l.take k ++ [l.getD k clD]:=by
 rw [List.take_succ,List.getElem?_eq_getElem h]
 simp [List.getD_eq_getElem?_getD,h]
def nzB (x : Cls) : Bool:=!decide (x.2=0)
theorem nzf_snoc {L : List Cls} {d : Cls} : (L ++ [d]).filter nzB=if d.2=0 then L.filter nzB else L.filter nzB ++ [d]:=by
 rw [List.filter_append]
 by_cases e : d.2=0
 ·rw [if_pos e,List.filter_cons,if_neg (by simp [nzB,e])]
  simp
 ·rw [if_neg e,List.filter_cons,if_pos (by simp [nzB,e])]
  simp
theorem nzf_all {L : List Cls} (h : ∀ d ∈ L,d.2 ≠ 0) : L.filter nzB=L:=List.filter_eq_self.2 fun d hd=>by simp [nzB,h d hd]
end
end Go.Proofs.YtijadclebjcckaaGreat
